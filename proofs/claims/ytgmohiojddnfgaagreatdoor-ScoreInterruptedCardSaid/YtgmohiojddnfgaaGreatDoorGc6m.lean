/- Shapes of the arguments of the great door seat's claims. -/
import Derived.Test.YtgmohiojddnfgaaGreatDoorGc6l
import Derived.Test.YtgmohiojddnfgaaGreatDoorGc6h
import Derived.Test.YtgmohiojddnfgaaGreatDoorRows
namespace Go.Proofs.YtgmohiojddnfgaaGreatDoor
open Go.Gh Go.RowKit Go.ChangeShapes Go.WideShapes
set_option maxRecDepth 100000
theorem own : ownKnob Tryz.prog.godebug = none := by kernel_rfl
theorem laidOut : laidOutB Tryz.prog = true := by kernel_rfl
theorem shp_ints {n : Nat} {p : PV} (h : ArgP Tryz.prog (n + 2) 26 p) : ∃ l : List Int, l.length ≤ maxLen ∧ p = .slice (l.map irow) := by
  have h33 : Tryz.prog.underlying 26 = some (.slice 3) := Tryz.underlying26
  have h3 : Tryz.prog.underlying 3 = some (.int .i64) := Tryz.underlying3
  unfold ArgP at h
  rw [h33] at h
  simp only [Shp, h33, h3] at h
  obtain ⟨rows, h1, h2, h4⟩ := h
  have key : ∀ rows : List (List PV), (∀ r ∈ rows, ∃ m, (Lit.int .i64 m).wf = true ∧ r = [.int .i64 m]) → ∃ l : List Int, rows = l.map irow := by
    intro rows
    induction rows with
    | nil => intro _; exact ⟨[], rfl⟩
    | cons r rs ih =>
      intro h
      obtain ⟨m, _, rfl⟩ := h _ (List.mem_cons_self ..)
      obtain ⟨l, rfl⟩ := ih (fun r hr => h r (List.mem_cons_of_mem _ hr))
      exact ⟨m :: l, rfl⟩
  obtain ⟨l, rfl⟩ := key rows (fun r hr => (h2 r hr).2)
  simp only [List.cons.injEq, and_true] at h4
  exact ⟨l, by simpa using h1, h4⟩
theorem argsP_cons {P : Program} {n : Nat} {t : TypeId} {ts : List TypeId} {pvs : List PV} (h : ArgsP P n (t :: ts) pvs) : ∃ p ps, pvs = p :: ps ∧ ArgP P n t p ∧ ArgsP P n ts ps := by
  cases pvs with
  | nil => exact h.elim
  | cons p ps => exact ⟨p, ps, rfl, h⟩
theorem argsP_nil {P : Program} {n : Nat} {pvs : List PV} (h : ArgsP P n [] pvs) : pvs = [] := by
  cases pvs with
  | nil => rfl
  | cons p ps => exact h.elim
end Go.Proofs.YtgmohiojddnfgaaGreatDoor
