/- Worth; which score is before which, by the reference. -/
import Derived.Test.YthcpepcmnmlmeaaSf
namespace Go.Gh
open Go.Proofs
set_option linter.unusedSimpArgs false
set_option linter.unusedVariables false
set_option linter.unnecessarySimpa false
set_option maxRecDepth 100000
set_option maxHeartbeats 4000000
variable {c : Nat} {H : Heap}
def x0 : Score := ⟨0, 0, 0, 0, 0, 0, 0, 0⟩
end Go.Gh


/- The keys of the order, by the program. -/
namespace Go.Gh
open Go.Proofs
set_option linter.unusedSimpArgs false
set_option linter.unusedVariables false
set_option linter.unnecessarySimpa false
set_option maxRecDepth 100000
set_option maxHeartbeats 4000000
variable {c : Nat} {H : Heap}
def keyV (f : Nat) : GV := .func 142 [] [.pptr [.fn f]]
@[simp] theorem cellsO_key {f : Nat} : cellsO (keyV f) = some [keyV f] := .trans rfl rfl
@[simp] theorem clean1_key {l0 : Nat} {f : Nat} : clean1 H l0 (keyV f) = keyV f := .trans rfl rfl
@[simp] theorem canon1_key {f : Nat} : canon1 (keyV f) = keyV f := .trans rfl rfl
@[simp] theorem allPure_key {f : Nat} {l : List GV} : allPure (keyV f :: l) = none := .trans rfl rfl
@[simp] theorem lowerCell_key {l0 : Nat} {f : Nat} : lowerCell H l0 (keyV f) = (keyV f, H) := .trans rfl rfl
@[simp] theorem canon_pptr {cs : List PV} : canon (.pptr cs) = .pptr cs := .trans rfl rfl
end Go.Gh


/- Which score is before which, by the program. -/
namespace Go.Gh
open Go.Proofs
set_option linter.unusedSimpArgs false
set_option linter.unusedVariables false
set_option linter.unnecessarySimpa false
set_option maxRecDepth 100000
set_option maxHeartbeats 4000000
variable {c : Nat} {H : Heap}
end Go.Gh


/- Which score is before which: both calls. -/
namespace Go.Gh
open Go.Proofs
set_option linter.unusedSimpArgs false
set_option linter.unusedVariables false
set_option linter.unnecessarySimpa false
set_option maxRecDepth 100000
set_option maxHeartbeats 4000000
variable {c : Nat} {H : Heap}
end Go.Gh


/- Rank, by the program: its loops. -/
namespace Go.Gh
open Go.Proofs
set_option linter.unusedSimpArgs false
set_option linter.unusedVariables false
set_option linter.unnecessarySimpa false
set_option maxRecDepth 100000
set_option maxHeartbeats 4000000
variable {c : Nat} {H : Heap}
def arow (l : List Int) : List PV := [.slice (l.map irow)]
end Go.Gh


/- Rank, by the program: the places. -/
namespace Go.Gh
open Go.Proofs
set_option linter.unusedSimpArgs false
set_option linter.unusedVariables false
set_option linter.unnecessarySimpa false
set_option maxRecDepth 100000
set_option maxHeartbeats 4000000
variable {c : Nat} {H : Heap}
end Go.Gh


/- Rank, by the program: the whole. -/
namespace Go.Gh
open Go.Proofs
set_option linter.unusedSimpArgs false
set_option linter.unusedVariables false
set_option linter.unnecessarySimpa false
set_option maxRecDepth 100000
set_option maxHeartbeats 4000000
variable {c : Nat} {H : Heap}
end Go.Gh


/- Rank, by the reference. -/
namespace Go.Gh
open Go.Proofs
set_option linter.unusedSimpArgs false
set_option linter.unusedVariables false
set_option linter.unnecessarySimpa false
set_option maxRecDepth 100000
set_option maxHeartbeats 4000000
variable {c : Nat} {H : Heap}
end Go.Gh


/- What the laws on ranks need: much, EqScores, Rank on answers in a block. -/
namespace Go.Gh
open Go.Proofs
set_option linter.unusedSimpArgs false
set_option linter.unusedVariables false
set_option linter.unnecessarySimpa false
set_option maxRecDepth 100000
set_option maxHeartbeats 4000000
variable {c : Nat} {H : Heap}
def muchB (A : List (List Int)) : Bool := A.any (fun a => decide (30 < a.length)) || decide (20 < A.length)
theorem much_loop (A : List (List Int)) (hn : A.length ≤ 9223372036854775807) (Q : GX → GSt → Prop) (hH : 0 < H.length) : ∀ k i : Nat, i + k = A.length →
    ((A.drop i).any (fun a => decide (30 < a.length)) = false → Q (.exit 0) ⟨[(0, .pure (.slice (A.map arow))), (2, gdead)], H, 19⟩) → ((A.drop i).any (fun a => decide (30 < a.length)) = true → Q .ret ⟨[(0, .pure (.slice (A.map arow))), (2, .pure (.bool true))], H, 19⟩) →
    WPL KC needT 31 (lp Try.f31 0) [0, 3] [0, 2] Q [(0, .pure (.slice (A.map arow))), (3, .pure (.int .i64 (i : Nat)))] H 19 := by
  intro k
  induction k with
  | zero =>
    intro i hi h1 h2
    have e : A.drop i = [] := List.drop_eq_nil_of_le (by omega)
    rw [e] at h1
    apply WPL_step
    conv => arg 4; whnf
    have : ¬ i < A.length := by omega
    simp [this, hH]
    exact h1 rfl
  | succ k ih =>
    intro i hi h1 h2
    have hia : i < A.length := by omega
    have hw := w64 (x := (i : Int) + 1) (by omega) (by omega)
    rw [List.drop_eq_getElem_cons hia, List.any_cons] at h1 h2
    apply WPL_step
    conv => arg 4; whnf
    by_cases g : 30 < A[i].length
    · have g' : (30 : Int) < A[i].length := by omega
      simp [hia, hH, arow, g, g']
      exact h2 (by simp [g])
    · have g' : ¬ (30 : Int) < A[i].length := by omega
      simp only [g, decide_false, Bool.false_or] at h1 h2
      have ih' := ih (i + 1) (by omega) h1 h2
      simp [hia, hH, arow, g, g', hw]
      simpa [arow] using ih'
theorem much_ok (A : List (List Int)) (hn : A.length ≤ 9223372036854775807) (hH : 0 < H.length) : gcall KC (geval KC) 31 [.pure (.slice (A.map arow))] c H = some (.pure (.bool (muchB A)), H) := by
  refine WPv_eq (call_enter KC needT Try.func31 rfl rfl good31 rfl rfl rfl (by simp) hH ?_)
  have L := fun Q => much_loop (H := [] :: H) A hn Q (by simp) A.length 0 (by omega)
  simp only [List.drop_zero] at L
  unfold muchB
  simp
  refine L _ (fun h => ?_) (fun h => ?_)
  · by_cases g : 20 < A.length
    · have g' : (20 : Int) < A.length := by omega
      simp [h, g, g', gleave_free]
    · have g' : ¬ (20 : Int) < A.length := by omega
      have h' := h
      simp at h'
      simp [h, g, g', gleave_free]
  · simp only [h, Bool.true_or]
    simp [gleave_free]
end Go.Gh
