/- Lists of numbers: what they contain; the errors of partitions and answers. -/
import Derived.Test.YthcpepcmnmlmeaaRa
namespace Go.Gh
open Go.Proofs
set_option linter.unusedSimpArgs false
set_option linter.unusedVariables false
set_option linter.unnecessarySimpa false
set_option maxRecDepth 100000
set_option maxHeartbeats 4000000
variable {c : Nat} {H : Heap}
theorem getD_lt {α : Type} {l : List α} {i : Nat} {d : α} (h : i < l.length) : l.getD i d = l[i] := by simp [List.getD_eq_getElem?_getD, h]
def firstE (g : Int → Int) : List Int → Int
  | [] => 0
  | x :: r => if g x ≠ 0 then g x else firstE g r
theorem drop_nil {α : Type} {l : List α} {i : Nat} (h : l.length ≤ i) : l.drop i = [] := List.drop_of_length_le h
theorem drop_cons {α : Type} {l : List α} {i : Nat} (h : i < l.length) : l.drop i = l[i] :: l.drop (i + 1) := List.drop_eq_getElem_cons h
def idxF (x : Int) : List Int → Nat → Int
  | [], _ => -1
  | y :: r, i => if x = y then i else idxF x r (i + 1)
theorem index_loop (l : List Int) (x : Int) (hn : l.length ≤ 1000000) (Q : GX → GSt → Prop) (hH : 0 < H.length) : ∀ k i : Nat, i + k = l.length →
    (idxF x (l.drop i) i = -1 → Q (.exit 0) ⟨[(4, gdead)], H, 19⟩) → (0 ≤ idxF x (l.drop i) i → Q .ret ⟨[(4, .pure (.int .i64 (idxF x (l.drop i) i)))], H, 19⟩) →
    WPL KC needT 119 (lp Try.f119 0) [0, 1, 7, 8] [4] Q [(0, .pure (.slice (l.map irow))), (1, .pure (.int .i64 x)), (7, .pure (.int .i64 l.length)), (8, .pure (.int .i64 i))] H 19 := by
  intro k
  induction k with
  | zero =>
    intro i hi h1 h2
    rw [drop_nil (by omega)] at h1
    apply WPL_step
    conv => arg 4; whnf
    have : ¬ i < l.length := by omega
    simp [this, hH]
    exact h1 rfl
  | succ k ih =>
    intro i hi h1 h2
    have hia : i < l.length := by omega
    have hw := w64 (x := (i : Int) + 1) (by omega) (by omega)
    rw [drop_cons hia] at h1 h2
    unfold idxF at h1 h2
    apply WPL_step
    conv => arg 4; whnf
    by_cases he : x = l[i]
    · rw [if_pos he] at h1 h2
      simp [hia, hH, irow, he]
      exact h2 (by omega)
    · have he' : (x == l[i]) = false := by simpa using he
      rw [if_neg he] at h1 h2
      simp [hia, hH, irow, he', hw]
      simpa [irow] using ih (i + 1) (by omega) h1 h2
theorem index_ok (l : List Int) (x : Int) (hn : l.length ≤ 1000000) (hH : 0 < H.length) : gcall KC (geval KC) 119 [.pure (.slice (l.map irow)), .pure (.int .i64 x)] c H = some (.pure (.int .i64 (idxF x l 0)), H) := by
  refine WPv_eq (call_enter KC needT Try.func119 rfl rfl good119 rfl rfl rfl (by simp) hH ?_)
  have L := fun Q => index_loop (H := [] :: H) l x hn Q (by simp) l.length 0 (by omega)
  simp only [List.drop_zero] at L
  simp
  refine L _ (fun h => ?_) (fun h => ?_)
  · simp [h, gleave_free]
  · simp [gleave_free]
theorem count_loop (l : List Int) (x : Int) (hn : l.length ≤ 1000000) (Q : GX → GSt → Prop) (hH : 0 < H.length) : ∀ k i n : Nat, i + k = l.length → n ≤ i →
    Q (.exit 0) ⟨[(5, .pure (.int .i64 ((n + (l.drop i).count x : Nat) : Int)))], H, 21⟩ →
    WPL KC needT 85 (lp Try.f85 0) [1, 5, 8, 9, 10] [5] Q [(1, .pure (.int .i64 x)), (5, .pure (.int .i64 (n : Int))), (8, .pure (.slice (l.map irow))), (9, .pure (.int .i64 l.length)), (10, .pure (.int .i64 i))] H 21 := by
  intro k
  induction k with
  | zero =>
    intro i n hi hni h1
    rw [drop_nil (by omega)] at h1
    apply WPL_step
    conv => arg 4; whnf
    have : ¬ i < l.length := by omega
    simp [this, hH]
    simpa using h1
  | succ k ih =>
    intro i n hi hni h1
    have hia : i < l.length := by omega
    have hw := w64 (x := (i : Int) + 1) (by omega) (by omega)
    have hw2 := w64 (x := (n : Int) + 1) (by omega) (by omega)
    rw [drop_cons hia, List.count_cons] at h1
    apply WPL_step
    conv => arg 4; whnf
    by_cases he : l[i] = x
    · have ih' := ih (i + 1) (n + 1) (by omega) (by omega) (by
        have e : n + 1 + (l.drop (i + 1)).count x = n + ((l.drop (i + 1)).count x + if (l[i] == x) = true then 1 else 0) := by simp [he]; omega
        rw [e]; exact h1)
      simp [hia, hH, irow, he, hw, hw2]
      simpa [irow] using ih'
    · have he' : (l[i] == x) = false := by simpa using he
      have ih' := ih (i + 1) n (by omega) (by omega) (by
        have e : n + (l.drop (i + 1)).count x = n + ((l.drop (i + 1)).count x + if (l[i] == x) = true then 1 else 0) := by simp [he]
        rw [e]; exact h1)
      simp [hia, hH, irow, he', hw]
      simpa [irow] using ih'
theorem count_ok (l : List Int) (x : Int) (hn : l.length ≤ 1000000) (hH : 0 < H.length) : gcall KC (geval KC) 85 [.pure (.slice (l.map irow)), .pure (.int .i64 x)] c H = some (.pure (.int .i64 (l.count x : Nat)), H) := by
  refine WPv_eq (call_enter KC needT Try.func85 rfl rfl good85 rfl rfl rfl (by simp) hH ?_)
  simp
  have L := fun Q => count_loop (H := [] :: H) l x hn Q (by simp) l.length 0 0 (by omega) (by omega)
  simp at L
  refine L _ ?_
  simp [gleave_free]
def ansE (x : Int) : Int := if inB x (-1) 8 = true then 0 else 2
def wrF (l : List Int) (n : Int) : Int := if (l.length : Int) ≠ n then 3 else firstE ansE l
theorem written_loop (l : List Int) (hn : l.length ≤ 1000000) (Q : GX → GSt → Prop) (hH : 0 < H.length) : ∀ k i : Nat, i + k = l.length →
    (firstE ansE (l.drop i) = 0 → Q (.exit 0) ⟨[(4, gdead)], H, 21⟩) → (firstE ansE (l.drop i) = 2 → Q .ret ⟨[(4, .pure (.int .i64 2))], H, 21⟩) →
    WPL KC needT 67 (lp Try.f67 0) [11, 12, 13] [4] Q [(11, .pure (.slice (l.map irow))), (12, .pure (.int .i64 l.length)), (13, .pure (.int .i64 i))] H 21 := by
  intro k
  induction k with
  | zero =>
    intro i hi h1 h2
    rw [drop_nil (by omega)] at h1
    apply WPL_step
    conv => arg 4; whnf
    have : ¬ i < l.length := by omega
    simp [this, hH]
    exact h1 rfl
  | succ k ih =>
    intro i hi h1 h2
    have hia : i < l.length := by omega
    have hw := w64 (x := (i : Int) + 1) (by omega) (by omega)
    rw [drop_cons hia] at h1 h2
    unfold firstE at h1 h2
    have W := fun c (H : Heap) (hH : 0 < H.length) => withinP_ok (c := c) (x := l[i]) (lo := -1) (hi := 8) (H := H) hH
    apply WPL_step
    conv => arg 4; whnf
    by_cases he : inB l[i] (-1) 8 = true
    · have e : ansE l[i] = 0 := by simp [ansE, he]
      simp only [e, ne_eq, not_true_eq_false, if_false] at h1 h2
      simp [hia, hH, irow, W, he, hw]
      simpa [irow] using ih (i + 1) (by omega) h1 h2
    · have e : ansE l[i] = 2 := by simp [ansE, he]
      have he' : inB l[i] (-1) 8 = false := by simpa using he
      simp only [e] at h1 h2
      simp [hia, hH, irow, W, he']
      exact h2 (by simp)
theorem written_ok0 (l : List Int) (n : Int) (hn : l.length ≤ 1000000) (hH : 0 < H.length) : gcall0 KC (geval KC) 67 [.pure (.slice (l.map irow)), .pure (.int .i64 n)] c H = some (.pure (.int .i64 (wrF l n)), H) := by
  refine WPv_eq (call_enter0 KC needT Try.func67 rfl rfl good67 (by simp) hH ?_)
  unfold wrF
  by_cases h : (l.length : Int) = n
  · have h2 : ((l.length : Int) != n) = false := by simpa using h
    have L := fun Q => written_loop (H := [] :: H) l hn Q (by simp) l.length 0 (by omega)
    simp only [List.drop_zero] at L
    simp [h2, h]
    subst h
    refine L _ (fun h => ?_) (fun h => ?_)
    · simp [h, gleave_free]
    · simp [h, gleave_free]
  · have h2 : ((l.length : Int) != n) = true := by simpa using h
    simp [h2, h, gleave_free]
theorem written_ok (l : List Int) (n : Int) (hn : l.length ≤ 1000000) (hH : 0 < H.length) : gcall KC (geval KC) 67 [.pure (.slice (l.map irow)), .pure (.int .i64 n)] c H = some (.pure (.int .i64 (wrF l n)), H) :=
  bor_c rfl rfl rfl rfl rfl hH fun H hH => written_ok0 l n hn hH
end Go.Gh


/- The errors of partitions and scorings. -/
namespace Go.Gh
open Go.Proofs
set_option linter.unusedSimpArgs false
set_option linter.unusedVariables false
set_option linter.unnecessarySimpa false
set_option maxRecDepth 100000
set_option maxHeartbeats 4000000
variable {c : Nat} {H : Heap}
end Go.Gh


/- The reference's error of a scoring. -/
namespace Go.Gh
open Go.Proofs
set_option linter.unusedSimpArgs false
set_option linter.unusedVariables false
set_option linter.unnecessarySimpa false
set_option maxRecDepth 100000
set_option maxHeartbeats 4000000
variable {c : Nat} {H : Heap}
@[simp] theorem clean_gdead {l0 : Nat} : clean H l0 gdead = gdead := .trans rfl rfl
end Go.Gh


/- Labels numbered in the order in which they come first. -/
namespace Go.Gh
open Go.Proofs
set_option linter.unusedSimpArgs false
set_option linter.unusedVariables false
set_option linter.unnecessarySimpa false
set_option maxRecDepth 100000
set_option maxHeartbeats 4000000
variable {c : Nat} {H : Heap}
def lenM (b : Option Blk) : Option Int := match b with | some (.map es) => some es.length | _ => none
@[congr] theorem lenM_cg {b b' : Option Blk} (h : ∀ _ : Unit, b = b') : lenM b = lenM b' := by rw [h ()]
@[simp] theorem lenM_map {es : List (PV × GV)} : lenM (some (.map es)) = some (es.length : Int) := .trans rfl rfl
@[simp] theorem lenD_map {k e : TypeId} {nm : Nm} : lenD (some (.map k e)) H (.map nm) = lenM (H.get nm) := by
  unfold lenD lenM
  rfl
@[simp] theorem kf3 (n : Int) : keyFitsK KC 3 (.int .i64 n) = true := by kernel_rfl
end Go.Gh


/- The partition of labels; packets of an answer held against the truth. -/
namespace Go.Gh
open Go.Proofs
set_option linter.unusedSimpArgs false
set_option linter.unusedVariables false
set_option linter.unnecessarySimpa false
set_option maxRecDepth 100000
set_option maxHeartbeats 4000000
variable {c : Nat} {H : Heap}
end Go.Gh
