/- A shuffled row of numbers. -/
import Derived.Test.YthcpepcmnmlmeaaSe
namespace Go.Gh
open Go.Proofs
set_option linter.unusedSimpArgs false
set_option linter.unusedVariables false
set_option maxRecDepth 100000
set_option maxHeartbeats 4000000
variable {c : Nat} {H : Heap}
@[simp] theorem wrap_1 : IntKind.i64.wrap 1 = 1 := by decide
@[simp] theorem wrap_2 : IntKind.i64.wrap 2 = 2 := by decide
end Go.Gh


/- Scorings, partitions, answers made of numbers. -/
namespace Go.Gh
open Go.Proofs
set_option linter.unusedSimpArgs false
set_option linter.unusedVariables false
set_option linter.unnecessarySimpa false
set_option maxRecDepth 100000
set_option maxHeartbeats 4000000
variable {c : Nat} {H : Heap}
theorem upR_get (w n : Int) (h : n ≤ 9223372036854775807) (h1 : 1 ≤ n) : ∃ (i : Nat) (w' : Int), upR w n = ((i : Int), w') ∧ (i : Int) < n := by
  have := upR_rng w n h
  refine ⟨(upR w n).1.toNat, (upR w n).2, ?_, ?_⟩
  · rw [Int.toNat_of_nonneg this.1]
  · omega
theorem box1 {nm : Nm} (hlt : nm.1 < H.length) (w : Int) (f1 : Fr) : isBox (f1 :: H.set nm (wbox w)) nm := isBox_up (isBox_set' hlt)
theorem word1 {nm : Nm} (hlt : nm.1 < H.length) (w : Int) (f1 : Fr) : wordAt (f1 :: H.set nm (wbox w)) nm = w := by
  rw [wordAt_up (by simpa [Heap.length_set] using hlt), wordAt_set hlt]
theorem anyR_get (w : Int) (hi : Nat) (h : hi ≤ 1000000) (h1 : 1 ≤ hi) : ∃ (i : Nat) (w' : Int), anyR w 1 hi = ((i : Int), w') ∧ 1 ≤ i ∧ i ≤ hi := by
  have := anyR_rng w 1 hi (by omega) (by omega) (by omega)
  refine ⟨(anyR w 1 hi).1.toNat, (anyR w 1 hi).2, ?_, ?_, ?_⟩
  · rw [Int.toNat_of_nonneg (by omega)]
  · omega
  · omega
end Go.Gh


/- Answers and scorings made of numbers. -/
namespace Go.Gh
open Go.Proofs
set_option linter.unusedSimpArgs false
set_option linter.unusedVariables false
set_option linter.unnecessarySimpa false
set_option maxRecDepth 100000
set_option maxHeartbeats 4000000
variable {c : Nat} {H : Heap}
def AnsOk (a : List Int) : Prop := ∀ x ∈ a, -1 ≤ x ∧ x ≤ 8
theorem AnsOk.wr {a : List Int} (h : AnsOk a) {n : Nat} (hl : a.length = n) : wrF a n = 0 := by
  unfold wrF
  rw [if_neg (by omega)]
  clear hl
  induction a with
  | nil => rfl
  | cons x r ih =>
    have hx := h x (List.mem_cons_self ..)
    have e : ansE x = 0 := by unfold ansE; rw [if_pos (inB_iff.2 hx)]
    simp only [firstE, e]
    rw [if_neg (by simp)]
    exact ih fun y hy => h y (List.mem_cons_of_mem _ hy)
end Go.Gh


/- A scoring made of numbers: the whole. -/
namespace Go.Gh
open Go.Proofs
set_option linter.unusedSimpArgs false
set_option linter.unusedVariables false
set_option linter.unnecessarySimpa false
set_option maxRecDepth 100000
set_option maxHeartbeats 4000000
variable {c : Nat} {H : Heap}
section
variable {nm : Nm}
theorem any1 (hlt : nm.1 < H.length) (f0 : Fr) (w : Int) {lo hi : Int} : gcall KC (geval KC) 25 [.bptr nm 0, .pure (.int .i64 lo), .pure (.int .i64 hi)] c (f0 :: H.set nm (wbox w)) = some (.pure (.int .i64 (anyR w lo hi).1), f0 :: H.set nm (wbox (anyR w lo hi).2)) := by
  have := any_ok (c := c) (lo := lo) (hi := hi) (box1 hlt w f0)
  rwa [word1 hlt, Heap.set_up (by rw [Heap.length_set]; exact hlt), Heap.set_set] at this
theorem pick1 (hlt : nm.1 < H.length) (f0 : Fr) (w : Int) {l : List Int} (hn : l.length < 4611686018427387904) : gcall KC (geval KC) 56 [.bptr nm 0, .pure (.slice (l.map irow))] c (f0 :: H.set nm (wbox w)) = some (.pure (.int .i64 (pickR w l).1), f0 :: H.set nm (wbox (pickR w l).2)) := by
  have := pick_ok (c := c) (box1 hlt w f0) hn
  rwa [word1 hlt, Heap.set_up (by rw [Heap.length_set]; exact hlt), Heap.set_set] at this
end
end Go.Gh


/- Plain: the parts of a score agree with what the answer says. -/
namespace Go.Gh
open Go.Proofs
set_option linter.unusedSimpArgs false
set_option linter.unusedVariables false
set_option linter.unnecessarySimpa false
set_option maxRecDepth 100000
set_option maxHeartbeats 4000000
end Go.Gh


/- Plain: a score does not hang on the names (numbers) of an answer. -/
namespace Go.Gh
open Go.Proofs
set_option linter.unusedSimpArgs false
set_option linter.unusedVariables false
set_option linter.unnecessarySimpa false
set_option maxRecDepth 100000
set_option maxHeartbeats 4000000
section
variable {f : Int → Int} {a t : List Int} {i k : Nat}
end
end Go.Gh


/- Plain: the truth scores most; whoever finds all has found it. -/
namespace Go.Gh
open Go.Proofs
set_option linter.unusedSimpArgs false
set_option linter.unusedVariables false
set_option linter.unnecessarySimpa false
set_option maxRecDepth 100000
set_option maxHeartbeats 4000000
end Go.Gh


/- Copies of lists; lists that are equal. -/
namespace Go.Gh
open Go.Proofs
set_option linter.unusedSimpArgs false
set_option linter.unusedVariables false
set_option linter.unnecessarySimpa false
set_option maxRecDepth 100000
set_option maxHeartbeats 4000000
variable {c : Nat} {H : Heap}
theorem eqI_loop (l : List Int) (hn : l.length ≤ 1000000) (Q : GX → GSt → Prop) (hH : 0 < H.length) : ∀ k i : Nat, i + k = l.length →
    Q (.exit 0) ⟨[(4, gdead)], H, 26⟩ →
    WPL KC needT 21 (lp Try.f21 0) [0, 1, 5] [4] Q [(0, .pure (.slice (l.map irow))), (1, .pure (.slice (l.map irow))), (5, .pure (.int .i64 i))] H 26 := by
  intro k
  induction k with
  | zero =>
    intro i hi h1
    apply WPL_step
    conv => arg 4; whnf
    have : ¬ i < l.length := by omega
    simp [this, hH]
    exact h1
  | succ k ih =>
    intro i hi h1
    have hia : i < l.length := by omega
    have hw := w64 (x := (i : Int) + 1) (by omega) (by omega)
    have ih' := ih (i + 1) (by omega) h1
    apply WPL_step
    conv => arg 4; whnf
    simp [hia, hH, irow, hw]
    simpa [irow] using ih'
theorem eqI_ok (l : List Int) (hn : l.length ≤ 1000000) (hH : 0 < H.length) :
    gcall KC (geval KC) 21 [.pure (.slice (l.map irow)), .pure (.slice (l.map irow))] c H = some (.pure (.bool true), H) := by
  refine WPv_eq (call_enter KC needT Try.func21 rfl rfl good21 rfl rfl rfl (by simp) hH ?_)
  simp
  refine eqI_loop (H := [] :: H) l hn _ (by simp) l.length 0 (by omega) ?_
  simp [gleave_free]
end Go.Gh


/- Plain: the truth's own score; no answer scores more. -/
namespace Go.Gh
open Go.Proofs
set_option linter.unusedSimpArgs false
set_option linter.unusedVariables false
set_option linter.unnecessarySimpa false
set_option maxRecDepth 100000
set_option maxHeartbeats 4000000
end Go.Gh


/- The truth's score against another: fields; Has. -/
namespace Go.Gh
open Go.Proofs
set_option linter.unusedSimpArgs false
set_option linter.unusedVariables false
set_option linter.unnecessarySimpa false
set_option maxRecDepth 100000
set_option maxHeartbeats 4000000
variable {c : Nat} {H : Heap}
end Go.Gh
