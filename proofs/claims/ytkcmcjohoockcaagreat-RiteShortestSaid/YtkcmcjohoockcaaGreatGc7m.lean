/- What the rite seat's claims share. -/
import Derived.Test.YtkcmcjohoockcaaGreatGc7l
import Derived.Test.YtkcmcjohoockcaaGreatGc7f
import Derived.Test.YtkcmcjohoockcaaGreatRows
namespace Go.Proofs.YtkcmcjohoockcaaGreat
open Go.Gh Go.RowKit
set_option maxRecDepth 100000
set_option linter.unusedSimpArgs false
theorem own : ownKnob Tryz.prog.godebug = none := by kernel_rfl
theorem laidOut : laidOutB Tryz.prog = true := by kernel_rfl
theorem Dn {P : Program} {n : Nat} {t : TypeId} {ts : List TypeId} {pvs : List PV} (h : xT P n (t :: ts) pvs) : ∃ p ps, pvs = p :: ps ∧ Fm P n t p ∧ xT P n ts ps := by
  cases pvs with
  | nil => exact h.elim
  | cons p ps => exact ⟨p, ps, rfl, h⟩
theorem FX {P : Program} {n : Nat} {pvs : List PV} (h : xT P n [] pvs) : pvs = [] := by
  cases pvs with
  | nil => rfl
  | cons p ps => exact h.elim
theorem Ns {n : Nat} {ps : List PV} (h : zY Tryz.prog (n + 1) 3 ps) : ∃ m, ps = [.int .i64 m] := by
  simp only [zY, Tryz.underlying3] at h
  obtain ⟨m, _, rfl⟩ := h
  exact ⟨m, rfl⟩
theorem Et {α : Type} (f : α → List PV) : ∀ {rows : List (List PV)}, (∀ r ∈ rows, ∃ x : α, r = f x) → ∃ l : List α, rows = l.map f
  | [], _ => ⟨[], rfl⟩
  | r :: rs, h => by
    obtain ⟨x, rfl⟩ := h r (List.mem_cons_self ..)
    obtain ⟨l, rfl⟩ := Et f (rows := rs) (fun r hr => h r (List.mem_cons_of_mem _ hr))
    exact ⟨x :: l, rfl⟩
theorem IG {n : Nat} {ps : List PV} (h : zY Tryz.prog (n + 2) 24 ps) : ∃ l : List Int, l.length ≤ maxLen ∧ ps = [.slice (l.map aG)] := by
  unfold zY at h
  rw [Tryz.underlying24] at h
  obtain ⟨rows, h1, h2, rfl⟩ := h
  obtain ⟨l, rfl⟩ := Et aG (fun r hr => Ns (h2 r hr).2)
  exact ⟨l, by simpa using h1, rfl⟩
theorem IH {n : Nat} {p : PV} (h : Fm Tryz.prog (n + 2) 24 p) : ∃ l : List Int, l.length ≤ maxLen ∧ p = .slice (l.map aG) := by
  unfold Fm at h
  rw [Tryz.underlying24] at h
  simp only at h
  obtain ⟨l, hl, e⟩ := IG h
  simp at e
  exact ⟨l, hl, e⟩
end Go.Proofs.YtkcmcjohoockcaaGreat
