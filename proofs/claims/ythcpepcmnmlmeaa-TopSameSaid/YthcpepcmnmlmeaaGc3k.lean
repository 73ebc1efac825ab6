/- What the score seat's claims share. -/
import Derived.Test.YthcpepcmnmlmeaaGc3j
import Derived.Test.YthcpepcmnmlmeaaGc3g
import Derived.Test.YthcpepcmnmlmeaaRows
namespace Go.Proofs.Ythcpepcmnmlmeaa
open Go.Gh Go.RowKit
set_option maxRecDepth 100000
set_option linter.unusedSimpArgs false
theorem own : ownKnob Try.prog.godebug = none := by kernel_rfl
theorem laidOut : laidOutB Try.prog = true := by kernel_rfl
theorem argsP_cons {P : Program} {n : Nat} {t : TypeId} {ts : List TypeId} {pvs : List PV} (h : ArgsP P n (t :: ts) pvs) : ∃ p ps, pvs = p :: ps ∧ ArgP P n t p ∧ ArgsP P n ts ps := by
  cases pvs with
  | nil => exact h.elim
  | cons p ps => exact ⟨p, ps, rfl, h⟩
theorem argsP_nil {P : Program} {n : Nat} {pvs : List PV} (h : ArgsP P n [] pvs) : pvs = [] := by
  cases pvs with
  | nil => rfl
  | cons p ps => exact h.elim
theorem shp_int {n : Nat} {ps : List PV} (h : Shp Try.prog (n + 1) 3 ps) : ∃ m, ps = [.int .i64 m] := by
  simp only [Shp, Try.underlying3] at h
  obtain ⟨m, _, rfl⟩ := h
  exact ⟨m, rfl⟩
theorem rows_of {α : Type} (f : α → List PV) : ∀ {rows : List (List PV)}, (∀ r ∈ rows, ∃ x : α, r = f x) → ∃ l : List α, rows = l.map f
  | [], _ => ⟨[], rfl⟩
  | r :: rs, h => by
    obtain ⟨x, rfl⟩ := h r (List.mem_cons_self ..)
    obtain ⟨l, rfl⟩ := rows_of f (rows := rs) (fun r hr => h r (List.mem_cons_of_mem _ hr))
    exact ⟨x :: l, rfl⟩
theorem shp_ints {n : Nat} {ps : List PV} (h : Shp Try.prog (n + 2) 22 ps) : ∃ l : List Int, l.length ≤ maxLen ∧ ps = [.slice (l.map irow)] := by
  unfold Shp at h
  rw [Try.underlying22] at h
  obtain ⟨rows, h1, h2, rfl⟩ := h
  obtain ⟨l, rfl⟩ := rows_of irow (fun r hr => shp_int (h2 r hr).2)
  exact ⟨l, by simpa using h1, rfl⟩
theorem arg_ints {n : Nat} {p : PV} (h : ArgP Try.prog (n + 2) 22 p) : ∃ l : List Int, l.length ≤ maxLen ∧ p = .slice (l.map irow) := by
  unfold ArgP at h
  rw [Try.underlying22] at h
  simp only at h
  obtain ⟨l, hl, e⟩ := shp_ints h
  simp at e
  exact ⟨l, hl, e⟩
end Go.Proofs.Ythcpepcmnmlmeaa
