/- What an answer is worth, by the reference. -/
import Derived.Test.YthcpepcmnmlmeaaSd
namespace Go.Gh
open Go.Proofs
set_option linter.unusedSimpArgs false
set_option linter.unusedVariables false
set_option linter.unnecessarySimpa false
set_option maxRecDepth 100000
set_option maxHeartbeats 4000000
end Go.Gh


/- What an answer is worth, by the reference: the whole; marks with errors. -/
namespace Go.Gh
open Go.Proofs
set_option linter.unusedSimpArgs false
set_option linter.unusedVariables false
set_option linter.unnecessarySimpa false
set_option maxRecDepth 100000
set_option maxHeartbeats 4000000
variable {c : Nat} {H : Heap}
theorem firstE_rng : ∀ l : List Int, firstE ansE l = 0 → ∀ x ∈ l, -1 ≤ x ∧ x ≤ 8
  | [], _, x, hx => absurd hx List.not_mem_nil
  | y :: r, h, x, hx => by
    simp only [firstE] at h
    split at h
    · rename_i h1; exact absurd h h1
    · rename_i h1
      rcases List.mem_cons.1 hx with rfl | hx
      · unfold ansE at h1
        split at h1
        · rename_i h2; exact inB_iff.1 h2
        · exact absurd (by decide) h1
      · exact firstE_rng r h x hx
theorem wrF_zero {l : List Int} {n : Nat} (h : wrF l n = 0) : l.length = n ∧ ∀ x ∈ l, -1 ≤ x ∧ x ≤ 8 := by
  unfold wrF at h
  split at h
  · cases h
  · rename_i h1
    exact ⟨by omega, firstE_rng l h⟩
end Go.Gh


/- Values with slices in blocks, told as pure ones. -/
namespace Go.Gh
open Go.Proofs
set_option linter.unusedSimpArgs false
set_option linter.unusedVariables false
set_option maxRecDepth 100000
set_option maxHeartbeats 4000000
variable {c : Nat} {H : Heap}
/-- A cell reads as a pure value. -/
def rdC (H : Heap) : GV → PV → Prop
  | .pure p, q => p = q
  | .nils, q => q = .slice []
  | .hdr nm es top lo len, q => ∃ rows v ro, H.get nm = some (.arr es rows v ro) ∧ v ≤ top ∧ rows.length = top ∧ lo = 0 ∧ len = top ∧ q = .slice rows
  | _, _ => False
def rdL (H : Heap) : List GV → List PV → Prop
  | [], [] => True
  | g :: l, q :: m => rdC H g q ∧ rdL H l m
  | _, _ => False
def rdG (H : Heap) : GV → PV → Prop
  | .agg l, .agg m => rdL H l m
  | .pure p, q => p = q
  | _, _ => False
@[simp] theorem rdC_pure {p q : PV} : rdC H (.pure p) q = (p = q) := .trans rfl rfl
@[simp] theorem rdC_nils {q : PV} : rdC H .nils q = (q = .slice []) := .trans rfl rfl
@[simp] theorem rdC_hdr {nm : Nm} {es top lo len : Nat} {q : PV} : rdC H (.hdr nm es top lo len) q = ∃ rows v ro, H.get nm = some (.arr es rows v ro) ∧ v ≤ top ∧ rows.length = top ∧ lo = 0 ∧ len = top ∧ q = .slice rows := .trans rfl rfl
@[simp] theorem rdL_nil : rdL H [] [] = True := .trans rfl rfl
@[simp] theorem rdL_cons {g : GV} {q : PV} {l : List GV} {m : List PV} : rdL H (g :: l) (q :: m) = (rdC H g q ∧ rdL H l m) := .trans rfl rfl
@[simp] theorem rdG_agg {l : List GV} {m : List PV} : rdG H (.agg l) (.agg m) = rdL H l m := .trans rfl rfl
@[simp] theorem rdG_pure {p q : PV} : rdG H (.pure p) q = (p = q) := .trans rfl rfl
/-- The same blocks, but for what is frozen. -/
def RoSim (H1 H2 : Heap) : Prop := ∀ nm es rows v ro, H1.get nm = some (.arr es rows v ro) → ∃ ro', H2.get nm = some (.arr es rows v ro')
theorem RoSim.refl (H : Heap) : RoSim H H := fun _ _ _ _ ro h => ⟨ro, h⟩
theorem rdC_sim {H1 H2 : Heap} (h : RoSim H1 H2) : ∀ {g : GV} {q : PV}, rdC H1 g q → rdC H2 g q := by
  intro g q hg
  cases g with
  | hdr nm es top lo len =>
    obtain ⟨rows, v, ro, a, b, d⟩ := hg
    obtain ⟨ro', e⟩ := h _ _ _ _ _ a
    exact ⟨rows, v, ro', e, b, d⟩
  | pure p => exact hg
  | nils => exact hg
  | _ => exact hg.elim
theorem frzCell_rd {g : GV} {q : PV} (h : rdC H g q) : canon1 (frzCell H g).1 = .pure q ∧ RoSim H (frzCell H g).2 := by
  cases g with
  | hdr nm es top lo len =>
    obtain ⟨rows, v, ro, h1, h2, h3, rfl, rfl, rfl⟩ := h
    subst h3
    have e : pureCell H (.hdr nm es rows.length 0 rows.length) = (.slice rows, H.set nm (.arr es rows v true)) := by simp [h1, h2]
    simp only [frzCell, e]
    refine ⟨rfl, fun nm' es' rows' v' ro' hg => ?_⟩
    by_cases hn : nm' = nm
    · subst hn
      rw [h1] at hg
      cases hg
      exact ⟨true, Heap.get_set _ (Heap.get_lt h1)⟩
    · exact ⟨ro', (Heap.get_set_other _ hn).trans hg⟩
  | pure p => cases h; exact ⟨rfl, RoSim.refl _⟩
  | nils => cases h; exact ⟨rfl, RoSim.refl _⟩
  | _ => exact h.elim
theorem frzVals_cons {g : GV} {r : List GV} : (frzVals H (g :: r)).1.map canon = canon (frzVal H g).1 :: (frzVals (frzVal H g).2 r).1.map canon := rfl
theorem rdC_push {f : Fr} {g : GV} {q : PV} (h : rdC H g q) : rdC (f :: H) g q := by
  cases g with
  | hdr nm es top lo len =>
    obtain ⟨rows, v, ro, a, b⟩ := h
    have := Heap.get_lt a
    exact ⟨rows, v, ro, by rw [Heap.get_cons', if_neg (by omega)]; exact a, b⟩
  | pure p => exact h
  | nils => exact h
  | _ => exact h.elim
theorem rdC_apS' {nm : Nm} {es : Nat} {rows : List (List PV)} (h : rows ≠ [] → ∃ v ro, v ≤ rows.length ∧ H.get nm = some (.arr es rows v ro)) : rdC H (apS nm es rows) (.slice rows) := by
  unfold apS
  by_cases hr : rows = []
  · subst hr; rw [if_pos rfl]; simp
  · rw [if_neg hr]
    obtain ⟨v, ro, a, b⟩ := h hr
    exact ⟨rows, v, ro, b, a, rfl, rfl, rfl, rfl⟩
theorem gcall0_canon {K : Ctx} {rec : Rec} {f : FuncId} {a b : List GV} (h : a.map canon = b.map canon) : gcall0 K rec f a c H = gcall0 K rec f b c H := by
  have hl : a.length = b.length := by have := congrArg List.length h; simpa using this
  unfold gcall0
  rw [h, hl]
theorem canon_frzC {H : Heap} {g : GV} {q : PV} (h : rdC H g q) : canon (frzVal H g).1 = .pure q ∧ RoSim H (frzVal H g).2 := by
  cases g with
  | hdr nm es top lo len =>
    obtain ⟨a, b⟩ := frzCell_rd h
    refine ⟨?_, b⟩
    show canon (frzCell H (.hdr nm es top lo len)).1 = _
    have e : ∀ x : GV, canon1 x = .pure q → x = .pure q ∨ (x = .nils ∧ q = .slice []) := fun x hx => by
      cases x <;> simp [canon1] at hx <;> simp_all
    rcases e _ a with e | ⟨e, e2⟩
    · rw [e]; rfl
    · rw [e, e2]; rfl
  | pure p => cases h; exact ⟨rfl, RoSim.refl _⟩
  | nils => cases h; exact ⟨rfl, RoSim.refl _⟩
  | _ => exact h.elim
end Go.Gh


/- Marks, with their errors. -/
namespace Go.Gh
open Go.Proofs
set_option linter.unusedSimpArgs false
set_option linter.unusedVariables false
set_option linter.unnecessarySimpa false
set_option maxRecDepth 100000
set_option maxHeartbeats 4000000
variable {c : Nat} {H : Heap}
theorem awake_run (fr : Fr) (c : Nat) : gcall KC (gexec KC 4000) 23 [] c [fr, []] = some (.pure (.bool true), [fr, []]) := by
  kernel_rfl
theorem awake_ok (fr : Fr) (c : Nat) : gcall KC (geval KC) 23 [] c [fr, []] = some (.pure (.bool true), [fr, []]) := gcall_geval (awake_run fr c)
end Go.Gh
