/- Texts joined: the evaluator over ghost values, its soundness, the walks. Spaces struck and names made short by a program, for the size. -/
import Derived.Test.YthcpepcmnmlmeaaGc3g
namespace Go.Gh
open Go.Proofs
set_option linter.unusedVariables false
set_option linter.unusedSimpArgs false
set_option linter.unnecessarySimpa false
set_option maxRecDepth 100000
set_option maxHeartbeats 8000000
section
variable {c : Nat} {H : Heap}
theorem getD_lt {α : Type} {l : List α} {i : Nat} {d : α} (h : i < l.length) : l.getD i d = l[i] := by simp [List.getD_eq_getElem?_getD, h]
def firstE (g : Int → Int) : List Int → Int
 | [] => 0
 | x :: r => if g x ≠ 0 then g x else firstE g r
theorem drop_nil {α : Type} {l : List α} {i : Nat} (h : l.length ≤ i) : l.drop i = [] := List.drop_of_length_le h
theorem drop_cons {α : Type} {l : List α} {i : Nat} (h : i < l.length) : l.drop i = l[i] :: l.drop (i + 1) := List.drop_eq_getElem_cons h
def idxF (x : Int) : List Int → Nat → Int
 | [], _ => -1
 | y :: r, i => if x = y then i else idxF x r (i + 1)
theorem idxF_nn (x : Int) : ∀ (l : List Int) (i : Nat), decide (0 ≤ idxF x l i) = l.contains x
 | [], i => by simp [idxF]
 | y :: r, i => by
  by_cases h : x = y
  ·subst h; simp [idxF]
  ·have := idxF_nn x r (i + 1)
   simp only [idxF, if_neg h, this, List.contains_cons]
   simp [h]
theorem index_loop (l : List Int) (x : Int) (hn : l.length ≤ 1000000) (Q : GX → GSt → Prop) (hH : 0 < H.length) : ∀ k i : Nat, i + k = l.length →
  (idxF x (l.drop i) i = -1 → Q (.exit 0) ⟨[(4, gdead)], H, 19⟩) → (0 ≤ idxF x (l.drop i) i → Q .ret ⟨[(4, .pure (.int .i64 (idxF x (l.drop i) i)))], H, 19⟩) →
  WPL KC needT 119 (lp Try.f119 0) [0, 1, 7, 8] [4] Q [(0, .pure (.slice (l.map irow))), (1, .pure (.int .i64 x)), (7, .pure (.int .i64 l.length)), (8, .pure (.int .i64 i))] H 19 := by
 intro k
 induction k with
 | zero =>
  intro i hi h1 h2
  rw [drop_nil (by omega)] at h1
  apply WPL_step
  conv => arg 4; whnf
  have : ¬ i < l.length := by omega
  simp [this, hH]
  exact h1 rfl
 | succ k ih =>
  intro i hi h1 h2
  have hia : i < l.length := by omega
  have hw := w64 (x := (i : Int) + 1) (by omega) (by omega)
  rw [drop_cons hia] at h1 h2
  unfold idxF at h1 h2
  apply WPL_step
  conv => arg 4; whnf
  by_cases he : x = l[i]
  ·rw [if_pos he] at h1 h2
   simp [hia, hH, irow, he]
   exact h2 (by omega)
  ·have he' : (x == l[i]) = false := by simpa using he
   rw [if_neg he] at h1 h2
   simp [hia, hH, irow, he', hw]
   simpa [irow] using ih (i + 1) (by omega) h1 h2
theorem index_ok (l : List Int) (x : Int) (hn : l.length ≤ 1000000) (hH : 0 < H.length) : gcall KC (geval KC) 119 [.pure (.slice (l.map irow)), .pure (.int .i64 x)] c H = some (.pure (.int .i64 (idxF x l 0)), H) := by
 refine WPv_eq (call_enter KC needT Try.func119 rfl rfl good119 rfl rfl rfl (by simp) hH ?_)
 have L := fun Q => index_loop (H := [] :: H) l x hn Q (by simp) l.length 0 (by omega)
 simp only [List.drop_zero] at L
 simp
 refine L _ (fun h => ?_) (fun h => ?_)
 ·simp [h, gleave_free]
 ·simp [gleave_free]
theorem contains_ok (l : List Int) (x : Int) (hn : l.length ≤ 1000000) (hH : 0 < H.length) : gcall KC (geval KC) 78 [.pure (.slice (l.map irow)), .pure (.int .i64 x)] c H = some (.pure (.bool (l.contains x)), H) := by
 refine WPv_eq (call_enter KC needT Try.func78 rfl rfl good78 rfl rfl rfl (by simp) hH ?_)
 have I := fun c (H : Heap) (hH : 0 < H.length) => index_ok (c := c) (H := H) l x hn hH
 have e := idxF_nn x l 0
 simp only [List.contains_eq_mem] at e
 simp [I, gleave_free]
 simpa using e
theorem count_loop (l : List Int) (x : Int) (hn : l.length ≤ 1000000) (Q : GX → GSt → Prop) (hH : 0 < H.length) : ∀ k i n : Nat, i + k = l.length → n ≤ i →
  Q (.exit 0) ⟨[(5, .pure (.int .i64 ((n + (l.drop i).count x : Nat) : Int)))], H, 21⟩ →
  WPL KC needT 85 (lp Try.f85 0) [1, 5, 8, 9, 10] [5] Q [(1, .pure (.int .i64 x)), (5, .pure (.int .i64 (n : Int))), (8, .pure (.slice (l.map irow))), (9, .pure (.int .i64 l.length)), (10, .pure (.int .i64 i))] H 21 := by
 intro k
 induction k with
 | zero =>
  intro i n hi hni h1
  rw [drop_nil (by omega)] at h1
  apply WPL_step
  conv => arg 4; whnf
  have : ¬ i < l.length := by omega
  simp [this, hH]
  simpa using h1
 | succ k ih =>
  intro i n hi hni h1
  have hia : i < l.length := by omega
  have hw := w64 (x := (i : Int) + 1) (by omega) (by omega)
  have hw2 := w64 (x := (n : Int) + 1) (by omega) (by omega)
  rw [drop_cons hia, List.count_cons] at h1
  apply WPL_step
  conv => arg 4; whnf
  by_cases he : l[i] = x
  ·have ih' := ih (i + 1) (n + 1) (by omega) (by omega) (by
    have e : n + 1 + (l.drop (i + 1)).count x = n + ((l.drop (i + 1)).count x + if (l[i] == x) = true then 1 else 0) := by simp [he]; omega
    rw [e]; exact h1)
   simp [hia, hH, irow, he, hw, hw2]
   simpa [irow] using ih'
  ·have he' : (l[i] == x) = false := by simpa using he
   have ih' := ih (i + 1) n (by omega) (by omega) (by
    have e : n + (l.drop (i + 1)).count x = n + ((l.drop (i + 1)).count x + if (l[i] == x) = true then 1 else 0) := by simp [he]
    rw [e]; exact h1)
   simp [hia, hH, irow, he', hw]
   simpa [irow] using ih'
theorem count_ok (l : List Int) (x : Int) (hn : l.length ≤ 1000000) (hH : 0 < H.length) : gcall KC (geval KC) 85 [.pure (.slice (l.map irow)), .pure (.int .i64 x)] c H = some (.pure (.int .i64 (l.count x : Nat)), H) := by
 refine WPv_eq (call_enter KC needT Try.func85 rfl rfl good85 rfl rfl rfl (by simp) hH ?_)
 simp
 have L := fun Q => count_loop (H := [] :: H) l x hn Q (by simp) l.length 0 0 (by omega) (by omega)
 simp at L
 refine L _ ?_
 simp [gleave_free]
def ansE (x : Int) : Int := if inB x (-1) 8 = true then 0 else 2
def wrF (l : List Int) (n : Int) : Int := if (l.length : Int) ≠ n then 3 else firstE ansE l
theorem written_loop (l : List Int) (hn : l.length ≤ 1000000) (Q : GX → GSt → Prop) (hH : 0 < H.length) : ∀ k i : Nat, i + k = l.length →
  (firstE ansE (l.drop i) = 0 → Q (.exit 0) ⟨[(4, gdead)], H, 21⟩) → (firstE ansE (l.drop i) = 2 → Q .ret ⟨[(4, .pure (.int .i64 2))], H, 21⟩) →
  WPL KC needT 67 (lp Try.f67 0) [11, 12, 13] [4] Q [(11, .pure (.slice (l.map irow))), (12, .pure (.int .i64 l.length)), (13, .pure (.int .i64 i))] H 21 := by
 intro k
 induction k with
 | zero =>
  intro i hi h1 h2
  rw [drop_nil (by omega)] at h1
  apply WPL_step
  conv => arg 4; whnf
  have : ¬ i < l.length := by omega
  simp [this, hH]
  exact h1 rfl
 | succ k ih =>
  intro i hi h1 h2
  have hia : i < l.length := by omega
  have hw := w64 (x := (i : Int) + 1) (by omega) (by omega)
  rw [drop_cons hia] at h1 h2
  unfold firstE at h1 h2
  have W := fun c (H : Heap) (hH : 0 < H.length) => withinP_ok (c := c) (x := l[i]) (lo := -1) (hi := 8) (H := H) hH
  apply WPL_step
  conv => arg 4; whnf
  by_cases he : inB l[i] (-1) 8 = true
  ·have e : ansE l[i] = 0 := by simp [ansE, he]
   simp only [e, ne_eq, not_true_eq_false, if_false] at h1 h2
   simp [hia, hH, irow, W, he, hw]
   simpa [irow] using ih (i + 1) (by omega) h1 h2
  ·have e : ansE l[i] = 2 := by simp [ansE, he]
   have he' : inB l[i] (-1) 8 = false := by simpa using he
   simp only [e] at h1 h2
   simp [hia, hH, irow, W, he']
   exact h2 (by simp)
theorem written_ok0 (l : List Int) (n : Int) (hn : l.length ≤ 1000000) (hH : 0 < H.length) : gcall0 KC (geval KC) 67 [.pure (.slice (l.map irow)), .pure (.int .i64 n)] c H = some (.pure (.int .i64 (wrF l n)), H) := by
 refine WPv_eq (call_enter0 KC needT Try.func67 rfl rfl good67 (by simp) hH ?_)
 unfold wrF
 by_cases h : (l.length : Int) = n
 ·have h2 : ((l.length : Int) != n) = false := by simpa using h
  have L := fun Q => written_loop (H := [] :: H) l hn Q (by simp) l.length 0 (by omega)
  simp only [List.drop_zero] at L
  simp [h2, h]
  subst h
  refine L _ (fun h => ?_) (fun h => ?_)
  ·simp [h, gleave_free]
  ·simp [h, gleave_free]
 ·have h2 : ((l.length : Int) != n) = true := by simpa using h
  simp [h2, h, gleave_free]
theorem written_ok (l : List Int) (n : Int) (hn : l.length ≤ 1000000) (hH : 0 < H.length) : gcall KC (geval KC) 67 [.pure (.slice (l.map irow)), .pure (.int .i64 n)] c H = some (.pure (.int .i64 (wrF l n)), H) :=
 bor_c rfl rfl rfl rfl rfl hH fun H hH => written_ok0 l n hn hH
end
section
variable {c : Nat} {H : Heap}
def chkL : List Int → Int → Int
 | [], _ => 0
 | x :: r, m => if x < 0 ∨ 9 ≤ x then 2 else if m < x then 11 else chkL r (if x = m then m + 1 else m)
def chkP (l : List Int) : Int := if l.length = 0 then 6 else if 9 < l.length then 8 else chkL l 0
theorem chk_loop (l : List Int) (hn : l.length ≤ 9) (Q : GX → GSt → Prop) (hH : 0 < H.length) : ∀ (k i : Nat) (m : Int), i + k = l.length → 0 ≤ m → m ≤ i →
  (chkL (l.drop i) m = 0 → Q (.exit 1) ⟨[(2, gdead)], H, 38⟩) → (chkL (l.drop i) m ≠ 0 → Q .ret ⟨[(2, .pure (.int .i64 (chkL (l.drop i) m)))], H, 38⟩) →
  WPL KC needT 66 (lp Try.f66 0) [3, 14, 15, 16] [2] Q [(3, .pure (.int .i64 m)), (14, .pure (.slice (l.map irow))), (15, .pure (.int .i64 l.length)), (16, .pure (.int .i64 i))] H 38 := by
 intro k
 induction k with
 | zero =>
  intro i m hi _ _ h1 h2
  rw [drop_nil (by omega)] at h1
  apply WPL_step
  conv => arg 4; whnf
  have : ¬ i < l.length := by omega
  simp [this, hH]
  exact h1 rfl
 | succ k ih =>
  intro i m hi hm0 hmi h1 h2
  have hia : i < l.length := by omega
  have hw := w64 (x := (i : Int) + 1) (by omega) (by omega)
  have hw2 := w64 (x := m + 1) (by omega) (by omega)
  rw [drop_cons hia] at h1 h2
  unfold chkL at h1 h2
  apply WPL_step
  conv => arg 4; whnf
  by_cases a : l[i] < 0
  ·rw [if_pos (.inl a)] at h2
   simp [hia, hH, irow, a]
   exact h2 (by decide)
  ·by_cases b : 9 ≤ l[i]
   ·rw [if_pos (.inr b)] at h2
    simp [hia, hH, irow, a, b]
    exact h2 (by decide)
   ·rw [if_neg (by omega)] at h1 h2
    by_cases d : m < l[i]
    ·rw [if_pos d] at h2
     simp [hia, hH, irow, a, b, d]
     exact h2 (by decide)
    ·rw [if_neg d] at h1 h2
     by_cases e : l[i] = m
     ·rw [if_pos e] at h1 h2
      have e2 : (l[i] == m) = true := by simpa using e
      rw [e] at a b
      simp [hia, hH, irow, a, b, d, e, e2, hw, hw2]
      simpa [irow] using ih (i + 1) (m + 1) (by omega) (by omega) (by omega) h1 h2
     ·rw [if_neg e] at h1 h2
      have e2 : (l[i] == m) = false := by simpa using e
      simp [hia, hH, irow, a, b, d, e, e2, hw]
      simpa [irow] using ih (i + 1) m (by omega) hm0 (by omega) h1 h2
theorem chk_ok (l : List Int) (hn : l.length ≤ 1000000) (hH : 0 < H.length) : gcall KC (geval KC) 66 [.pure (.slice (l.map irow))] c H = some (.pure (.int .i64 (chkP l)), H) := by
 refine WPv_eq (call_enter KC needT Try.func66 rfl rfl good66 rfl rfl rfl (by simp) hH ?_)
 unfold chkP
 by_cases h : l.length = 0
 ·have h2 : ((l.length : Int) == 0) = true := by simp [h]
  have h3 : l = [] := List.length_eq_zero_iff.1 h
  subst h3
  simp [gleave_free]
 ·have h2 : ((l.length : Int) == 0) = false := by simp; exact fun e => h (by rw [e]; rfl)
  have h0 : ¬ l = [] := fun e => h (by rw [e]; rfl)
  by_cases h3 : 9 < l.length
  ·have h4 : (9 : Int) < l.length := by omega
   simp [h, h0, h2, h3, h4, gleave_free]
  ·have h4 : ¬ (9 : Int) < l.length := by omega
   have L := fun Q => chk_loop (H := [] :: H) l (by omega) Q (by simp) l.length 0 0 (by omega) (by omega) (by omega)
   simp at L
   simp [h, h0, h2, h3, h4]
   refine L _ (fun h => ?_) (fun h => ?_)
   ·simp [h, gleave_free]
   ·simp [gleave_free]
def Scoring.five (s : Scoring) : List Int := [s.packet, s.pair, s.whole, s.new, s.loss]
def keyE (l : List Int) : Nat → Nat → Int
 | 0, _ => 0
 | k + 1, i => if inB (l.getD i 0) 1 6 = false then 4 else if (l.take i).contains (l.getD i 0) = true then 9 else keyE l k (i + 1)
def okFive (l : List Int) : Bool := l.all fun x => inB x 0 1000
def chkS (s : Scoring) : Int := if okFive s.five = false then 2 else if 6 < s.keys.length then 8 else keyE s.keys s.keys.length 0
def sbox (s : Scoring) : Blk := .box [.pure (.int .i64 s.packet), .pure (.int .i64 s.pair), .pure (.int .i64 s.whole), .pure (.int .i64 s.new), .pure (.int .i64 s.loss), .pure (.slice (s.keys.map irow))]
theorem five_loop (s : Scoring) (l : List Int) (hl : l.length = 5) (Q : GX → GSt → Prop) : ∀ k i : Nat, i + k = 5 →
  (okFive (l.drop i) = true → Q (.exit 0) ⟨[(1, .bptr (H.length, 1) 0), (2, gdead)], [(1, sbox s)] :: H, 49⟩) → (okFive (l.drop i) = false → Q .ret ⟨[(1, .bptr (H.length, 1) 0), (2, .pure (.int .i64 2))], [(1, sbox s)] :: H, 49⟩) →
  WPL KC needT 29 (lp Try.f29 0) [1, 17, 18] [1, 2] Q [(1, .bptr (H.length, 1) 0), (17, .pure (.agg (l.map (PV.int .i64)))), (18, .pure (.int .i64 i))] ([(1, sbox s)] :: H) 49 := by
 intro k
 induction k with
 | zero =>
  intro i hi h1 h2
  rw [drop_nil (by omega)] at h1
  apply WPL_step
  conv => arg 4; whnf
  have : ¬ (i : Int) < 5 := by omega
  simp [this]
  exact h1 rfl
 | succ k ih =>
  intro i hi h1 h2
  have hia : i < l.length := by omega
  have hi5 : (i : Int) < 5 := by omega
  have hi5' : ¬ (5 : Int) ≤ i := by omega
  have hi6 : i + 1 ≤ l.length := by omega
  have hw := w64 (x := (i : Int) + 1) (by omega) (by omega)
  rw [drop_cons hia] at h1 h2
  unfold okFive at h1 h2
  rw [List.all_cons] at h1 h2
  have W := fun c (H : Heap) (hH : 0 < H.length) => withinP_ok (c := c) (x := l[i]) (lo := 0) (hi := 1000) (H := H) hH
  apply WPL_step
  conv => arg 4; whnf
  by_cases he : inB l[i] 0 1000 = true
  ·simp only [he, Bool.true_and] at h1 h2
   simp [hia, hi5, hi5', hi6, irow, W, he, hw]
   simpa [irow] using ih (i + 1) (by omega) h1 h2
  ·have he' : inB l[i] 0 1000 = false := by simpa using he
   simp only [he', Bool.false_and] at h2
   simp [hia, hi5, hi5', hi6, irow, W, he']
   exact h2 trivial
theorem keys_loop (s : Scoring) (hn : s.keys.length ≤ 6) (Q : GX → GSt → Prop) : ∀ k i : Nat, i + k = s.keys.length →
  (keyE s.keys k i = 0 → Q (.exit 2) ⟨[(2, gdead)], [(1, sbox s)] :: H, 49⟩) → (keyE s.keys k i ≠ 0 → Q .ret ⟨[(2, .pure (.int .i64 (keyE s.keys k i)))], [(1, sbox s)] :: H, 49⟩) →
  WPL KC needT 29 (lp Try.f29 1) [1, 30, 31, 32] [2] Q [(1, .bptr (H.length, 1) 0), (30, .pure (.slice (s.keys.map irow))), (31, .pure (.int .i64 s.keys.length)), (32, .pure (.int .i64 i))] ([(1, sbox s)] :: H) 49 := by
 intro k
 induction k with
 | zero =>
  intro i hi h1 h2
  apply WPL_step
  conv => arg 4; whnf
  have : ¬ i < s.keys.length := by omega
  simp [this]
  exact h1 rfl
 | succ k ih =>
  intro i hi h1 h2
  have hia : i < s.keys.length := by omega
  have hw := w64 (x := (i : Int) + 1) (by omega) (by omega)
  unfold keyE at h1 h2
  rw [getD_lt hia] at h1 h2
  have W := fun c (H : Heap) (hH : 0 < H.length) => withinP_ok (c := c) (x := s.keys[i]) (lo := 1) (hi := 6) (H := H) hH
  have Ct := fun c (H : Heap) (hH : 0 < H.length) => contains_ok (c := c) (s.keys.take i) s.keys[i] (H := H) (by simp; omega) hH
  rw [List.map_take] at Ct
  have hr : ∀ x : Int, (irow x).length = 1 := fun x => rfl
  have hle : i ≤ s.keys.length := by omega
  apply WPL_step
  conv => arg 4; whnf
  by_cases he : inB s.keys[i] 1 6 = true
  ·simp only [he, Bool.true_eq_false, if_false] at h1 h2
   by_cases hd : (s.keys.take i).contains s.keys[i] = true
   ·rw [if_pos hd] at h2
    simp [hia, sbox, W, he, Ct, hd, hr, hle]
    have e : s.keys[i] ∈ s.keys.take i := by simpa using hd
    simp [irow, W, he, hr, hle, Ct, hd, e]
    simpa [sbox] using h2 (by decide)
   ·rw [if_neg hd] at h1 h2
    have e : ¬ s.keys[i] ∈ s.keys.take i := by simpa using hd
    have ih' := ih (i + 1) (by omega) h1 h2
    simp [hia, sbox, W, he, Ct, hd, hr, hle, irow, e, hw]
    simpa [irow, sbox] using ih'
  ·have he' : inB s.keys[i] 1 6 = false := by simpa using he
   simp only [he', if_true] at h2
   simp [hia, irow, W, he', sbox]
   simpa [sbox] using h2 (by decide)
theorem rowS (s : Scoring) : s.row = [.int .i64 s.packet, .int .i64 s.pair, .int .i64 s.whole, .int .i64 s.new, .int .i64 s.loss, .slice (s.keys.map irow)] := rfl
theorem chkS_ok (s : Scoring) (hn : s.keys.length ≤ 1000000) (hH : 0 < H.length) : gcall KC (geval KC) 29 [.pure (.agg s.row)] c H = some (.pure (.int .i64 (chkS s)), H) := by
 refine WPv_eq (call_enter KC needT Try.func29 rfl rfl good29 rfl rfl rfl (by simp) hH ?_)
 rw [rowS]
 simp
 have L1 := fun Q => five_loop (H := H) s s.five rfl Q 5 0 (by omega)
 simp [Scoring.five, sbox] at L1
 unfold chkS Scoring.five
 refine L1 _ (fun h => ?_) (fun h => ?_)
 ·rw [h]
  by_cases h6 : 6 < s.keys.length
  ·have h6' : (6 : Int) < s.keys.length := by omega
   simp [h6, h6', gleave_free]
  ·have h6' : ¬ (6 : Int) < s.keys.length := by omega
   have L2 := fun Q => keys_loop (H := H) s (by omega) Q s.keys.length 0 (by omega)
   simp [sbox] at L2
   simp [h6, h6']
   refine L2 _ (fun h => ?_) (fun h => ?_)
   ·simp [h, gleave_free]
   ·simp [gleave_free]
 ·rw [h]
  simp [gleave_free]
end
section
variable {c : Nat} {H : Heap}
def lenM (b : Option Blk) : Option Int := match b with | some (.map es) => some es.length | _ => none
@[congr] theorem lenM_cg {b b' : Option Blk} (h : ∀ _ : Unit, b = b') : lenM b = lenM b' := by rw [h ()]
@[simp] theorem lenM_map {es : List (PV × GV)} : lenM (some (.map es)) = some (es.length : Int) := .trans rfl rfl
@[simp] theorem lenD_map {k e : TypeId} {nm : Nm} : lenD (some (.map k e)) H (.map nm) = lenM (H.get nm) := by
 unfold lenD lenM
 rfl
@[simp] theorem kf3 (n : Int) : keyFitsK KC 3 (.int .i64 n) = true := by kernel_rfl
def posL (x : Int) : List Int → Nat
 | [] => 0
 | y :: r => if x = y then 0 else posL x r + 1
def numL : List Int → List Int → List Int
 | [], _ => []
 | x :: r, seen => (posL x seen : Int) :: numL r (if x ∈ seen then seen else seen ++ [x])
def entS : List Int → Nat → List (PV × GV)
 | [], _ => []
 | x :: r, n => (.int .i64 x, .pure (.int .i64 n)) :: entS r (n + 1)
theorem entS_len : ∀ (l : List Int) (n : Nat), (entS l n).length = l.length
 | [], _ => rfl
 | x :: r, n => by simp [entS, entS_len r]
theorem entS_app : ∀ (l : List Int) (x : Int) (n : Nat), entS (l ++ [x]) n = entS l n ++ [(.int .i64 x, .pure (.int .i64 ((n + l.length : Nat) : Int)))]
 | [], x, n => rfl
 | y :: r, x, n => by
  have := entS_app r x (n + 1)
  simp only [List.cons_append, entS, this, List.length_cons]
  have e : n + 1 + r.length = n + (r.length + 1) := by omega
  rw [e]
theorem find_no (x : Int) : ∀ (l : List Int) (n i : Nat), x ∉ l → findEntry (.int .i64 x) (entS l n) i = some none
 | [], _, _, _ => rfl
 | y :: r, n, i, h => by
  simp only [List.mem_cons, not_or] at h
  have e : (x == y) = false := by simpa using h.1
  simp [entS, findEntry, keyEq, e]
  exact find_no x r (n + 1) (i + 1) h.2
theorem find_yes (x : Int) : ∀ (l : List Int) (n i : Nat), x ∈ l → findEntry (.int .i64 x) (entS l n) i = some (some (i + posL x l, .pure (.int .i64 ((n + posL x l : Nat) : Int))))
 | [], _, _, h => by simp at h
 | y :: r, n, i, h => by
  by_cases e : x = y
  ·subst e
   simp [entS, findEntry, keyEq, posL]
  ·have e2 : (x == y) = false := by simpa using e
   have := find_yes x r (n + 1) (i + 1) (by simpa [e] using h)
   simp [entS, findEntry, keyEq, e2, posL, e, this]
   constructor <;> omega
theorem posL_no (x : Int) : ∀ l : List Int, x ∉ l → posL x l = l.length
 | [], _ => rfl
 | y :: r, h => by
  simp only [List.mem_cons, not_or] at h
  simp [posL, h.1, posL_no x r h.2]
theorem posL_le (x : Int) : ∀ l : List Int, posL x l ≤ l.length
 | [] => Nat.le_refl _
 | y :: r => by
  have := posL_le x r
  unfold posL
  split <;> simp <;> omega
theorem posL_lt (x : Int) : ∀ l : List Int, posL x l < l.length ↔ x ∈ l
 | [] => by simp [posL]
 | y :: r => by
  have := posL_lt x r
  unfold posL
  by_cases e : x = y
  ·simp [e]
  ·simp [e, this]
theorem numL_len : ∀ (l seen : List Int), (numL l seen).length = l.length
 | [], _ => rfl
 | x :: r, s => by simp [numL, numL_len r]
def mapF (seen : List Int) : Fr := [(9, .map (entS seen 0))]
theorem number_loop (l : List Int) (hn : l.length ≤ 1000000) (fin : List Int) (Q : GX → GSt → Prop) (h1 : ∀ seen, Q (.exit 0) ⟨[(4, apS (H.length, 32) 1 (fin.map irow))], apF 32 1 (fin.map irow) (mapF seen) :: H, 35⟩) : ∀ (k i : Nat) (seen done : List Int), i + k = l.length → done.length = i → seen.length ≤ i → done ++ numL (l.drop i) seen = fin →
  WPL KC needT 87 (lp Try.f87 0) [3, 4, 10, 11, 12] [4] Q [(3, .map (H.length, 9)), (4, apS (H.length, 32) 1 (done.map irow)), (10, .pure (.slice (l.map irow))), (11, .pure (.int .i64 l.length)), (12, .pure (.int .i64 i))] (apF 32 1 (done.map irow) (mapF seen) :: H) 35 := by
 intro k
 induction k with
 | zero =>
  intro i seen done hi hd hs hf
  rw [drop_nil (by omega)] at hf
  simp [numL] at hf
  subst hf
  apply WPL_step
  conv => arg 4; whnf
  have : ¬ i < l.length := by omega
  simp [this]
  exact h1 seen
 | succ k ih =>
  intro i seen done hi hd hs hf
  have hia : i < l.length := by omega
  have hw := w64 (x := (i : Int) + 1) (by omega) (by omega)
  rw [drop_cons hia] at hf
  unfold numL at hf
  have hb : (done.length + 1) * 8 ≤ 1099511627776 := by omega
  have A := fun f0 seen => apK_1 (H := H) (l := H.length) (key := 32) (es := 1) (bytes := 8) (rows := done.map irow) (r := irow (posL l[i] seen : Int)) (fr := mapF seen) (f0 := f0) rfl rfl (by simpa using hb)
  have A2 := fun f0 => apK_1 (H := H) (l := H.length) (key := 32) (es := 1) (bytes := 8) (rows := done.map irow) (r := irow (seen.length : Int)) (fr := mapF (seen ++ [l[i]])) (f0 := f0) rfl rfl (by simpa using hb)
  simp only [irow, mapF] at A A2
  by_cases hm : l[i] ∈ seen
  ·have fy := find_yes l[i] seen 0 0 hm
   rw [if_pos hm] at hf
   have ih' := ih (i + 1) seen (done ++ [(posL l[i] seen : Int)]) (by omega) (by simp [hd]) (by omega) (by simpa using hf)
   apply WPL_step
   conv => arg 4; whnf
   simp [hia, mapF, irow, fy, A, hw]
   simpa [irow, mapF] using ih'
  ·have fn := find_no l[i] seen 0 0 hm
   rw [if_neg hm, posL_no _ _ hm] at hf
   have ih' := ih (i + 1) (seen ++ [l[i]]) (done ++ [(seen.length : Int)]) (by omega) (by simp [hd]) (by simp; omega) (by simpa using hf)
   have ea := entS_app seen l[i] 0
   rw [ea] at A2
   simp at A2
   apply WPL_step
   conv => arg 4; whnf
   simp [hia, mapF, irow, fn, A2, hw, entS_len]
   rw [mapF, ea] at ih'
   simpa [irow, mapF] using ih'
theorem number_ok (l : List Int) (hn : l.length ≤ 1000000) (hH : 0 < H.length) : gcall KC (geval KC) 87 [.pure (.slice (l.map irow))] c H = some (.pure (.slice ((numL l []).map irow)), H) := by
 refine WPv_eq (call_enter KC needT Try.func87 rfl rfl good87 rfl rfl rfl (by simp) hH ?_)
 have L := fun Q h1 => number_loop (H := H) l hn (numL l []) Q h1 l.length 0 [] [] (by omega) rfl (by simp) (by simp)
 simp [mapF, entS, apS_nil, apF_nil] at L
 simp
 refine L _ (fun seen => ?_)
 simp
 rw [gleave_free]
 ·rw [WPv_some, cc_apS rfl (by omega)]
 ·simp
end
section
variable {c : Nat} {H : Heap}
def maxL : List Int → Int → Int
 | [], m => m
 | x :: r, m => maxL r (if m < x then x else m)
theorem max_loop (l : List Int) (hn : l.length ≤ 1000000) (Q : GX → GSt → Prop) (hH : 0 < H.length) : ∀ (k i : Nat) (m : Int), i + k = l.length →
  Q (.exit 0) ⟨[(3, .pure (.int .i64 (maxL (l.drop i) m)))], H, 25⟩ →
  WPL KC needT 113 (lp Try.f113 0) [0, 3, 4] [3] Q [(0, .pure (.slice (l.map irow))), (3, .pure (.int .i64 m)), (4, .pure (.int .i64 i))] H 25 := by
 intro k
 induction k with
 | zero =>
  intro i m hi h1
  rw [drop_nil (by omega)] at h1
  apply WPL_step
  conv => arg 4; whnf
  have : ¬ i < l.length := by omega
  simp [this, hH]
  exact h1
 | succ k ih =>
  intro i m hi h1
  have hia : i < l.length := by omega
  have hw := w64 (x := (i : Int) + 1) (by omega) (by omega)
  rw [drop_cons hia] at h1
  simp only [maxL] at h1
  apply WPL_step
  conv => arg 4; whnf
  simp [hia, hH, irow, hw]
  simpa [irow] using ih (i + 1) _ (by omega) h1
def maxF (l : List Int) : Int := maxL (l.drop 1) (l.getD 0 0)
theorem max_ok (l : List Int) (h0 : l ≠ []) (hn : l.length ≤ 1000000) (hH : 0 < H.length) : gcall KC (geval KC) 113 [.pure (.slice (l.map irow))] c H = some (.pure (.int .i64 (maxF l)), H) := by
 refine bor_c rfl rfl rfl rfl rfl hH fun H hH => ?_
 refine WPv_eq (call_enter0 KC needT Try.func113 rfl rfl good113 (by simp) hH ?_)
 have hp : 0 < l.length := List.length_pos_iff.2 h0
 have e : ¬ (l.length : Int) < 1 := by omega
 have L := fun Q => max_loop (H := [] :: H) l hn Q (by simp) (l.length - 1) 1 l[0] (by omega)
 simp at L
 unfold maxF
 rw [getD_lt hp]
 have hp' : l.length ≠ 0 := by omega
 simp [e, h0, hp, irow]
 refine L _ ?_
 simp [gleave_free]
def blkF (l : List Int) : Int := maxL (l.map (· + 1)) 0
theorem maxL_succ : ∀ (l : List Int) (m : Int), maxL (l.map (· + 1)) (m + 1) = maxL l m + 1
 | [], m => rfl
 | x :: r, m => by
  simp only [List.map_cons, maxL]
  by_cases h : m < x
  ·rw [if_pos (by omega), if_pos h, maxL_succ r x]
  ·rw [if_neg (by omega), if_neg h, maxL_succ r m]
theorem maxF_blk {l : List Int} (h0 : l ≠ []) (hp : 0 ≤ l.getD 0 0) : maxF l + 1 = blkF l := by
 cases l with
 | nil => exact absurd rfl h0
 | cons x r =>
  have hx : 0 ≤ x := by simpa using hp
  unfold maxF blkF
  show maxL r x + 1 = maxL (r.map (· + 1)) (if 0 < x + 1 then x + 1 else 0)
  rw [if_pos (by omega), maxL_succ]
theorem maxL_ge : ∀ (l : List Int) (m : Int), m ≤ maxL l m ∧ ∀ x ∈ l, x ≤ maxL l m
 | [], m => ⟨Int.le_refl _, fun x h => absurd h List.not_mem_nil⟩
 | y :: r, m => by
  obtain ⟨a, b⟩ := maxL_ge r (if m < y then y else m)
  simp only [maxL]
  refine ⟨?_, fun x hx => ?_⟩
  ·by_cases h : m < y
   ·rw [if_pos h] at a ⊢; omega
   ·rw [if_neg h] at a ⊢; omega
  ·rcases List.mem_cons.1 hx with rfl | h
   ·by_cases h : m < x
    ·rw [if_pos h] at a ⊢; omega
    ·rw [if_neg h] at a ⊢; omega
   ·exact b x h
theorem maxL_mem : ∀ (l : List Int) (m : Int), maxL l m = m ∨ maxL l m ∈ l
 | [], m => .inl rfl
 | y :: r, m => by
  simp only [maxL]
  rcases maxL_mem r (if m < y then y else m) with h | h
  ·rw [h]
   split
   ·exact .inr (List.mem_cons_self ..)
   ·exact .inl rfl
  ·exact .inr (List.mem_cons_of_mem _ h)
theorem blocks_ok (l : List Int) (h0 : l ≠ []) (hn : l.length ≤ 1000000) (hb : ∀ x ∈ l, 0 ≤ x ∧ x ≤ 1000000) (hH : 0 < H.length) : gcall KC (geval KC) 112 [.pure (.slice (l.map irow))] c H = some (.pure (.int .i64 (blkF l)), H) := by
 refine WPv_eq (call_enter KC needT Try.func112 rfl rfl good112 rfl rfl rfl (by simp) hH ?_)
 have hp : 0 < l.length := List.length_pos_iff.2 h0
 have M := fun c (H : Heap) (hH : 0 < H.length) => max_ok (c := c) (H := H) l h0 hn hH
 have e := maxF_blk h0 (by rw [getD_lt hp]; exact (hb _ (List.getElem_mem hp)).1)
 have r : 0 ≤ maxF l ∧ maxF l ≤ 1000000 := by
  unfold maxF
  have g0 : l.getD 0 0 ∈ l := by rw [getD_lt hp]; exact List.getElem_mem hp
  rcases maxL_mem (l.drop 1) (l.getD 0 0) with h | h
  ·rw [h]; exact hb _ g0
  ·exact hb _ (List.mem_of_mem_drop h)
 have hw := w64 (x := maxF l + 1) (by omega) (by omega)
 rw [e] at hw
 simp [M, hw, e, gleave_free]
def bothE (a b : List Int) : Int := if chkP a ≠ 0 then chkP a else if chkP b ≠ 0 then chkP b else if (a.length : Int) ≠ b.length then 12 else 0
theorem both_ok (a b : List Int) (ha : a.length ≤ 1000000) (hb : b.length ≤ 1000000) (hH : 0 < H.length) : gcall KC (geval KC) 111 [.pure (.slice (a.map irow)), .pure (.slice (b.map irow))] c H = some (.pure (.int .i64 (bothE a b)), H) := by
 refine WPv_eq (call_enter KC needT Try.func111 rfl rfl good111 rfl rfl rfl (by simp) hH ?_)
 have A := fun c (H : Heap) (hH : 0 < H.length) => chk_ok (c := c) (H := H) a ha hH
 have B := fun c (H : Heap) (hH : 0 < H.length) => chk_ok (c := c) (H := H) b hb hH
 unfold bothE
 by_cases h1 : chkP a = 0
 ·by_cases h2 : chkP b = 0
  ·by_cases h3 : (a.length : Int) = b.length
   ·have e3 : ((a.length : Int) != b.length) = false := by simpa using h3
    simp [A, B, h1, h2, h3, e3, gleave_free]
   ·have e3 : ((a.length : Int) != b.length) = true := by simpa using h3
    simp [A, B, h1, h2, h3, e3, gleave_free]
  ·have e2 : (chkP b != 0) = true := by simpa using h2
   simp [A, B, h1, h2, e2, gleave_free]
 ·have e1 : (chkP a != 0) = true := by simpa using h1
  simp [A, B, h1, e1, gleave_free]
def comL (x y : Int) : List Int → List Int → Nat
 | p :: a, q :: b => (if p = x ∧ q = y then 1 else 0) + comL x y a b
 | _, _ => 0
theorem comL_le (x y : Int) : ∀ a b : List Int, comL x y a b ≤ a.length
 | [], _ => Nat.zero_le _
 | _ :: _, [] => Nat.zero_le _
 | p :: a, q :: b => by
  have := comL_le x y a b
  simp only [comL, List.length_cons]
  split <;> omega
end
section
variable {c : Nat} {H : Heap}
theorem chkL_rng : ∀ (l : List Int) (m : Int), chkL l m = 0 → ∀ x ∈ l, 0 ≤ x ∧ x ≤ 8
 | [], _, _, x, hx => absurd hx List.not_mem_nil
 | y :: r, m, h, x, hx => by
  simp only [chkL] at h
  split at h
  ·cases h
  ·rename_i h1
   split at h
   ·cases h
   ·rcases List.mem_cons.1 hx with rfl | hx
    ·omega
    ·exact chkL_rng r _ h x hx
structure PartOk (l : List Int) : Prop where
 ne : l ≠ []
 le : l.length ≤ 9
 rng : ∀ x ∈ l, 0 ≤ x ∧ x ≤ 8
 ck : chkL l 0 = 0
theorem chkP_zero {l : List Int} (h : chkP l = 0) : PartOk l := by
 unfold chkP at h
 split at h
 ·cases h
 ·rename_i h1
  split at h
  ·cases h
  ·rename_i h2
   exact ⟨fun e => h1 (by rw [e]; rfl), by omega, chkL_rng l 0 h, h⟩
theorem PartOk.zero {l : List Int} (h : PartOk l) : chkP l = 0 := by
 unfold chkP
 have h1 := h.le
 have h2 : l.length ≠ 0 := fun e => h.ne (List.length_eq_zero_iff.1 e)
 rw [if_neg h2, if_neg (by omega)]
 exact h.ck
theorem PartOk.blk {l : List Int} (h : PartOk l) : ∃ B : Nat, blkF l = B ∧ 1 ≤ B ∧ B ≤ 9 := by
 have hp : 0 < l.length := List.length_pos_iff.2 h.ne
 have g := maxL_ge (l.map (· + 1)) 0
 have g1 := g.2 (l[0] + 1) (List.mem_map.2 ⟨l[0], List.getElem_mem hp, rfl⟩)
 have g2 := (h.rng _ (List.getElem_mem hp)).1
 have g3 : blkF l ≤ 9 := by
  unfold blkF
  rcases maxL_mem (l.map (· + 1)) 0 with e | e
  ·rw [e]; decide
  ·obtain ⟨x, hx, e⟩ := List.mem_map.1 e
   have := (h.rng x hx).2
   omega
 have g4 : 1 ≤ blkF l := by unfold blkF; omega
 exact ⟨(blkF l).toNat, by omega, by omega, by omega⟩
theorem bothE_zero {a b : List Int} (h : bothE a b = 0) : PartOk a ∧ PartOk b ∧ a.length = b.length := by
 unfold bothE at h
 split at h
 ·rename_i h1; exact absurd h h1
 ·rename_i h1
  split at h
  ·rename_i h2; exact absurd h h2
  ·rename_i h2
   split at h
   ·cases h
   ·rename_i h3
    exact ⟨chkP_zero (by simpa using h1), chkP_zero (by simpa using h2), by omega⟩
end
section
variable {c : Nat} {H : Heap}
theorem upR_get (w n : Int) (h : n ≤ 9223372036854775807) (h1 : 1 ≤ n) : ∃ (i : Nat) (w' : Int), upR w n = ((i : Int), w') ∧ (i : Int) < n := by
 have := upR_rng w n h
 refine ⟨(upR w n).1.toNat, (upR w n).2, ?_, ?_⟩
 ·rw [Int.toNat_of_nonneg this.1]
 ·omega
theorem box2 {nm : Nm} (hlt : nm.1 < H.length) (w : Int) (f0 f1 : Fr) : isBox (f0 :: f1 :: H.set nm (wbox w)) nm := isBox_up (isBox_up (isBox_set' hlt))
theorem box1 {nm : Nm} (hlt : nm.1 < H.length) (w : Int) (f1 : Fr) : isBox (f1 :: H.set nm (wbox w)) nm := isBox_up (isBox_set' hlt)
theorem word2 {nm : Nm} (hlt : nm.1 < H.length) (w : Int) (f0 f1 : Fr) : wordAt (f0 :: f1 :: H.set nm (wbox w)) nm = w := by
 rw [wordAt_up (by simp [Heap.length_set]; omega), wordAt_up (by simpa [Heap.length_set] using hlt), wordAt_set hlt]
theorem word1 {nm : Nm} (hlt : nm.1 < H.length) (w : Int) (f1 : Fr) : wordAt (f1 :: H.set nm (wbox w)) nm = w := by
 rw [wordAt_up (by simpa [Heap.length_set] using hlt), wordAt_set hlt]
theorem numL_chk : ∀ (l seen : List Int), seen.length + l.length ≤ 9 → chkL (numL l seen) seen.length = 0
 | [], _, _ => rfl
 | x :: r, seen, h => by
  have hp := posL_le x seen
  have hl := posL_lt x seen
  simp only [List.length_cons] at h
  simp only [numL, chkL]
  rw [if_neg (by omega), if_neg (by omega)]
  by_cases hm : x ∈ seen
  ·rw [if_pos hm, if_neg (by have := hl.2 hm; omega)]
   exact numL_chk r seen (by omega)
  ·have e := posL_no x seen hm
   rw [if_neg hm, if_pos (by rw [e])]
   have := numL_chk r (seen ++ [x]) (by simp; omega)
   simpa using this
theorem numL_part {l : List Int} (h1 : l ≠ []) (h2 : l.length ≤ 9) : PartOk (numL l []) := by
 have hc := numL_chk l [] (by simpa using h2)
 have hl := numL_len l []
 exact ⟨fun e => h1 (List.length_eq_zero_iff.1 (by rw [← hl, e]; rfl)), by rw [hl]; exact h2, chkL_rng _ _ hc, hc⟩
theorem anyR_get (w : Int) (hi : Nat) (h : hi ≤ 1000000) (h1 : 1 ≤ hi) : ∃ (i : Nat) (w' : Int), anyR w 1 hi = ((i : Int), w') ∧ 1 ≤ i ∧ i ≤ hi := by
 have := anyR_rng w 1 hi (by omega) (by omega) (by omega)
 refine ⟨(anyR w 1 hi).1.toNat, (anyR w 1 hi).2, ?_, ?_, ?_⟩
 ·rw [Int.toNat_of_nonneg (by omega)]
 ·omega
 ·omega
end
section
variable {c : Nat} {H : Heap}
def pkOk : List Int → List Int → Prop
 | [], [] => True
 | p :: ps, z :: zs => 0 ≤ p ∧ p < z ∧ pkOk ps zs
 | _, _ => False
theorem pkOk_app : ∀ {ps zs : List Int} {p z : Int}, pkOk ps zs → 0 ≤ p → p < z → pkOk (ps ++ [p]) (zs ++ [z])
 | [], [], p, z, _, h0, h1 => ⟨h0, h1, trivial⟩
 | a :: ps, b :: zs, p, z, h, h0, h1 => ⟨h.1, h.2.1, pkOk_app h.2.2 h0 h1⟩
 | [], _ :: _, _, _, h, _, _ => h.elim
 | _ :: _, [], _, _, h, _, _ => h.elim
theorem picks_loop (zs : List Int) (hz : ∀ z ∈ zs, 1 ≤ z ∧ z ≤ 1000) (hl : zs.length ≤ 1000) {nm : Nm} (hlt : nm.1 < H.length) (g : Blk) (Q : GX → GSt → Prop)
  (h1 : ∀ ps w, pkOk ps zs → Q (.exit 0) ⟨[(6, apS (H.length, 24) 1 (ps.map irow))], apF 24 1 (ps.map irow) [(3, g)] :: H.set nm (wbox w), 26⟩) : ∀ (k i : Nat) (w : Int) (ps : List Int), i + k = zs.length → pkOk ps (zs.take i) → ps.length = i →
  WPL KC needT 18 (lp Try.f18 0) [0, 5, 6, 7] [6] Q [(0, .bptr nm 0), (5, .pure (.slice (zs.map irow))), (6, apS (H.length, 24) 1 (ps.map irow)), (7, .pure (.int .i64 i))]
   (apF 24 1 (ps.map irow) [(3, g)] :: H.set nm (wbox w)) 26 := by
 intro k
 induction k with
 | zero =>
  intro i w ps hi hp hpl
  have hia : ¬ i < zs.length := by omega
  rw [List.take_of_length_le (by omega)] at hp
  have h1' := h1 ps w hp
  apply WPL_step
  conv => arg 4; whnf
  have hH : 0 < H.length := by omega
  simp [hia, hH, Heap.length_set]
  exact h1'
 | succ k ih =>
  intro i w ps hi hp hpl
  have hia : i < zs.length := by omega
  have hwr := w64 (x := (i : Int) + 1) (by omega) (by omega)
  have hzi := hz zs[i] (List.getElem_mem hia)
  obtain ⟨p, w', e, hp2⟩ := upR_get w zs[i] (by omega) (by omega)
  have U := fun c (F0 F1 : Fr) => up_ok (c := c) (H := F0 :: F1 :: H.set nm (wbox w)) (nm := nm) (n := zs[i]) (box2 hlt w F0 F1) (by omega)
  simp only [word2 hlt, e] at U
  have hpo : pkOk (ps ++ [(p : Int)]) (zs.take (i + 1)) := by
   rw [List.take_add_one, List.getElem?_eq_getElem hia]
   exact pkOk_app hp (by omega) hp2
  have ih' := ih (i + 1) w' (ps ++ [(p : Int)]) (by omega) hpo (by simp [hpl])
  have hle : nm.1 ≤ H.length := by omega
  have hb : (ps.length + 1) * 8 ≤ 1099511627776 := by omega
  have hne : ¬ nm.1 = H.length := by omega
  have hne2 : ¬ nm.1 = H.length + 1 := by omega
  have hH : 0 < H.length := by omega
  simp [hne, hne2, Heap.length_set] at U
  apply WPL_step
  conv => arg 4; whnf
  simp [hia, hH, hwr, irow, U, hb, hle, Heap.length_set]
  simpa [irow] using ih'
theorem szA_rng {nw : Nat} : ∀ {acts : List Deal} {s : List Int}, SI s → okA nw s acts → ∀ z ∈ szA s acts, 1 ≤ z ∧ z ≤ 1000
 | [], _, _, _, z, h => by simp [szA] at h
 | d :: r, s, hs, ⟨h1, h2, h3, h4, h5⟩, z, h => by
  unfold szA at h
  by_cases g : drawsB d = true
  ·rw [if_pos g] at h
   rcases List.mem_cons.1 h with rfl | h
   ·have := (hs.le d.bag.toNat).2; have := h3 g; omega
   ·exact szA_rng h1 h5 z h
  ·rw [if_neg g] at h
   exact szA_rng h1 h5 z h
theorem szA_len : ∀ (acts : List Deal) (s : List Int), (szA s acts).length ≤ acts.length
 | [], _ => by simp [szA]
 | d :: r, s => by
  have := szA_len r (stepS s d)
  unfold szA; split <;> simp <;> omega
theorem picks_ok {ws : List (List PV)} {ds : List Deal} {nw : Nat} (hds : ds.length ≤ 24) (hc : ∀ d ∈ ds, 0 ≤ d.count ∧ d.count ≤ 12) (ha : okA nw [0, 0, 0, 0] (actsL ds)) {nm : Nm} (hlt : nm.1 < H.length) (w0 : Int) :
  ∃ ps w, pkOk ps (szA [0, 0, 0, 0] (actsL ds)) ∧ gcall KC (geval KC) 18 [.bptr nm 0, .pure (.agg [.slice ws, .slice (ds.map Deal.row)])] c (H.set nm (wbox w0)) = some (.pure (.slice (ps.map irow)), H.set nm (wbox w)) := by
 suffices hs : WPv (gcall KC (geval KC) 18 [.bptr nm 0, .pure (.agg [.slice ws, .slice (ds.map Deal.row)])] c (H.set nm (wbox w0))) (fun x => ∃ ps w, pkOk ps (szA [0, 0, 0, 0] (actsL ds)) ∧ x = (.pure (.slice (ps.map irow)), H.set nm (wbox w))) by
  obtain ⟨x, hx, ps, w, h1, e⟩ := hs
  exact ⟨ps, w, h1, by rw [hx, e]⟩
 have hH : 0 < H.length := by omega
 refine call_enter KC needT Try.func18 rfl rfl good18 rfl rfl rfl (by simp) (by rw [Heap.length_set]; exact hH) ?_
 have S := fun c (G : Heap) (hG : 0 < G.length) => sizes_ok (c := c) (H := G) (ws := ws) hds hc ha hG
 have hl1 := actsL_len ds fun d hd => (hc d hd).2
 have hl2 := szA_len (actsL ds) [0, 0, 0, 0]
 have hz := szA_rng SI0 ha
 generalize szA [0, 0, 0, 0] (actsL ds) = zs at *
 have L := fun g Q hq => picks_loop zs hz (by omega) hlt g Q hq zs.length 0 w0 [] (by omega) trivial rfl
 simp [apS_nil, apF_nil] at L
 simp [S, Heap.length_set]
 refine L _ _ (fun ps w hp => ?_)
 simp [gleave_free, Heap.length_set]
 exact ⟨ps, hp, cc_apS (by simp [Heap.length_set]) (by omega), w, rfl⟩
end
section
variable {c : Nat} {H : Heap}
theorem draws_ok {d : Deal} (hH : 0 < H.length) : gcall KC (geval KC) 58 [.pure (.agg d.row)] c H = some (.pure (.tuple [.int .i64 (if drawsB d = true then d.count else 0), .bool (d.kind == 5)]), H) := by
 refine WPv_eq (call_enter KC needT Try.func58 rfl rfl good58 rfl rfl rfl (by simp) hH ?_)
 obtain ⟨dk, db, dO, dw, dc⟩ := d
 simp only [Deal.row, drawsB]
 by_cases h : dk = 4
 ·subst h; simp [gleave_free]
 ·by_cases h5 : dk = 5
  ·subst h5; simp [gleave_free]
  ·simp [h, h5, gleave_free]
theorem sizeG_loop (L : List Int) (hL : L.length = 6) (hx : ∀ x ∈ L, 0 ≤ x ∧ x ≤ 1000) (F : Fr) (Q : GX → GSt → Prop) (hH : 0 < H.length) : ∀ (k i : Nat), i + k = 6 →
  (Q (.exit 0) ⟨[(5, .pure (.int .i64 L.sum))], F :: H, 19⟩) →
  WPL KC needT 61 (lp Try.f61 0) [5, 10, 11] [5] Q [(5, .pure (.int .i64 (L.take i).sum)), (10, .pure (.agg (L.map fun n => (PV.int .i64 n)))), (11, .pure (.int .i64 i))] (F :: H) 19 := by
 intro k
 induction k with
 | zero =>
  intro i hi h1
  have : i = 6 := by omega
  subst this
  rw [List.take_of_length_le (by omega)]
  apply WPL_step
  conv => arg 4; whnf
  simp [hH]
  exact h1
 | succ k ih =>
  intro i hi h1
  have hi6 : i < 6 := by omega
  have hlt : i < L.length := by omega
  have hg : L[i]? = some L[i] := List.getElem?_eq_getElem hlt
  have hs := take_sum hg
  have hxi := hx L[i] (List.getElem_mem hlt)
  have hr := sum_rng (L := L.take i) fun y hy => hx y (List.mem_of_mem_take hy)
  have hl : (L.take i).length ≤ 6 := by simp; omega
  have hw := w64 (x := (i : Int) + 1) (by omega) (by omega)
  have hw2 := w64 (x := (L.take i).sum + L[i]) (by omega) (by omega)
  have ih' := ih (i + 1) (by omega) h1
  rw [hs] at ih'
  have hb := bg_get hg
  generalize (L.take i).sum = sm at *
  generalize L[i] = x at *
  have hlP : (L.map fun n => (PV.int .i64 n)).length = 6 := by simp [hL]
  generalize (L.map fun n => (PV.int .i64 n)) = Ps at *
  have hi' : (i : Int) < 6 := by omega
  have hi2 : ¬ (6 : Int) ≤ i := by omega
  have hi5 : i ≤ 5 := by omega
  have hlt' : i < Ps.length := by omega
  have hb2 : Ps[i] = .int .i64 x := by rw [List.getElem?_eq_getElem hlt'] at hb; simpa using hb
  apply WPL_step
  conv => arg 4; whnf
  simp [hi', hi2, hi6, hi5, hH, hw, hw2, hb2, hlP]
  simpa using ih'
theorem sizeG_ok {B : List Int} (hB : BOk B) {b : Nat} (hb : b < 4) (hH : 0 < H.length) : gcall KC (geval KC) 61 [.pure (bgP B), .pure (.int .i64 b)] c H = some (.pure (.int .i64 (sizeB B b)), H) := by
 refine WPv_eq (call_enter KC needT Try.func61 rfl rfl good61 rfl rfl rfl (by simp) hH ?_)
 have L := fun F Q hq => sizeG_loop (bagL B b) (hB.blen hb) (hB.bag b) F Q hH 6 0 (by omega) hq
 have hl := hB.len
 have hb' : ¬ (4 : Int) ≤ b := by omega
 have hle : b * 6 + 6 ≤ 24 := by omega
 have e : (bagL B b).map (fun n => (PV.int .i64 n)) = ((B.map fun n => (PV.int .i64 n)).drop (b * 6)).take 6 := by unfold bagL; rw [List.map_take, List.map_drop]
 rw [e] at L
 have hlP : (B.map fun n => (PV.int .i64 n)).length = 24 := by simp [hl]
 unfold bgP
 generalize (B.map fun n => (PV.int .i64 n)) = Ps at *
 have e2 : List.take 6 (List.drop (b * 6) (List.map GV.pure Ps)) = (List.take 6 (List.drop (b * 6) Ps)).map GV.pure := by rw [List.map_take, List.map_drop]
 simp at L
 simp [hb', hlP, hle, e2, mkA, -List.map_take, -List.map_drop]
 refine L _ _ ?_
 simp [sizeB, gleave_free]
end
section
variable {c : Nat} {H : Heap}
def addB (B L : List Int) (o : Nat) : Nat → List Int
 | 0 => B
 | n + 1 => (addB B L o n).set (o * 6 + n) ((addB B L o n).getD (o * 6 + n) 0 + L.getD n 0)
theorem addB_len (B L : List Int) (o : Nat) : ∀ n, (addB B L o n).length = B.length
 | 0 => rfl
 | n + 1 => by simp [addB, addB_len B L o n]
theorem addB_get {B L : List Int} {o : Nat} (hl : B.length = 24) (ho : o < 4) : ∀ n, n ≤ 6 → ∀ j, (addB B L o n).getD j 0 = if o * 6 ≤ j ∧ j < o * 6 + n then B.getD j 0 + L.getD (j - o * 6) 0 else B.getD j 0
 | 0, _, j => by rw [if_neg (by omega)]; rfl
 | n + 1, hn, j => by
  have ih := addB_get (L := L) hl ho n (by omega)
  rw [addB, set24 (by rw [addB_len]; exact hl) (by omega), ih, ih]
  by_cases e : j = o * 6 + n
  ·subst e
   rw [if_pos rfl, if_neg (by omega), if_pos (by omega), show o * 6 + n - o * 6 = n by omega]
  ·rw [if_neg e]
   by_cases g : o * 6 ≤ j ∧ j < o * 6 + n
   ·rw [if_pos g, if_pos (by omega)]
   ·rw [if_neg g, if_neg (by omega)]
theorem pourB_get {B : List Int} {b o : Nat} (hl : B.length = 24) (hb : b < 4) (ho : o < 4) (hne : b ≠ o) : ∀ n, n ≤ 6 → ∀ j, (pourB B b o n).getD j 0 = if b * 6 ≤ j ∧ j < b * 6 + n then 0 else if o * 6 ≤ j ∧ j < o * 6 + n then B.getD j 0 + B.getD (b * 6 + (j - o * 6)) 0 else B.getD j 0
 | 0, _, j => by rw [if_neg (by omega), if_neg (by omega)]; rfl
 | n + 1, hn, j => by
  have ih := pourB_get hl hb ho hne n (by omega)
  have gx := pourB_keep B b o n (o * 6 + n) (by omega) (by omega)
  have gy := pourB_keep B b o n (b * 6 + n) (by omega) (by omega)
  rw [pourB, gx, gy, set24 (by simp [pourB_len, hl]) (by omega), set24 (by rw [pourB_len]; exact hl) (by omega), ih]
  by_cases e : j = b * 6 + n
  ·subst e
   rw [if_pos rfl, if_pos (by omega)]
  ·rw [if_neg e]
   by_cases e2 : j = o * 6 + n
   ·subst e2
    rw [if_pos rfl, if_neg (by omega), if_pos (by omega), show o * 6 + n - o * 6 = n by omega]
   ·rw [if_neg e2]
    by_cases g1 : b * 6 ≤ j ∧ j < b * 6 + n
    ·rw [if_pos g1, if_pos (by omega)]
    ·rw [if_neg g1, if_neg (by omega : ¬ (b * 6 ≤ j ∧ j < b * 6 + (n + 1)))]
     by_cases g2 : o * 6 ≤ j ∧ j < o * 6 + n
     ·rw [if_pos g2, if_pos (by omega)]
     ·rw [if_neg g2, if_neg (by omega)]
def zero6 (C : List Int) (b : Nat) : List Int := C.take (b * 6) ++ (0 :: 0 :: 0 :: 0 :: 0 :: 0 :: C.drop (b * 6 + 6))
theorem zero6_get {C : List Int} {b : Nat} (hl : C.length = 24) (hb : b < 4) (j : Nat) : (zero6 C b).getD j 0 = if b * 6 ≤ j ∧ j < b * 6 + 6 then 0 else C.getD j 0 := by
 unfold zero6
 have ht : (C.take (b * 6)).length = b * 6 := by simp; omega
 rw [List.getD_eq_getElem?_getD, List.getElem?_append, ht]
 by_cases h1 : j < b * 6
 ·rw [if_pos h1, if_neg (by omega), List.getElem?_take, if_pos h1, ← List.getD_eq_getElem?_getD]
 ·rw [if_neg h1]
  by_cases h2 : j < b * 6 + 6
  ·rw [if_pos (by omega)]
   have : j - b * 6 = 0 ∨ j - b * 6 = 1 ∨ j - b * 6 = 2 ∨ j - b * 6 = 3 ∨ j - b * 6 = 4 ∨ j - b * 6 = 5 := by omega
   rcases this with e | e | e | e | e | e <;> simp [e]
  ·rw [if_neg (by omega)]
   obtain ⟨q, hq⟩ : ∃ q, j - b * 6 = q + 6 := ⟨j - b * 6 - 6, by omega⟩
   rw [hq]
   simp only [List.getElem?_cons_succ]
   rw [List.getElem?_drop, List.getD_eq_getElem?_getD, show b * 6 + 6 + q = j by omega]
theorem mix_pour {B : List Int} {b o : Nat} (hl : B.length = 24) (hb : b < 4) (ho : o < 4) (hne : b ≠ o) : zero6 (addB B (bagL B b) o 6) b = pourB B b o 6 := by
 have hla : (addB B (bagL B b) o 6).length = 24 := by rw [addB_len]; exact hl
 have hlz : (zero6 (addB B (bagL B b) o 6) b).length = 24 := by unfold zero6; simp [hla]; omega
 have hlp : (pourB B b o 6).length = 24 := by rw [pourB_len]; exact hl
 refine List.ext_getElem? fun j => ?_
 by_cases hj : j < 24
 ·have e : (zero6 (addB B (bagL B b) o 6) b).getD j 0 = (pourB B b o 6).getD j 0 := by
   rw [zero6_get hla hb, addB_get hl ho 6 (by omega), pourB_get hl hb ho hne 6 (by omega)]
   by_cases g1 : b * 6 ≤ j ∧ j < b * 6 + 6
   ·rw [if_pos g1, if_pos g1]
   ·rw [if_neg g1, if_neg g1]
    by_cases g2 : o * 6 ≤ j ∧ j < o * 6 + 6
    ·rw [if_pos g2, if_pos g2, bagL_getD (by omega)]
    ·rw [if_neg g2, if_neg g2]
  rw [getD_get (by omega), getD_get (by omega), e]
 ·rw [List.getElem?_eq_none (by omega), List.getElem?_eq_none (by omega)]
end
section
variable {c : Nat} {H : Heap}
theorem spl6 {Ps : List PV} {o : Nat} {a0 a1 a2 a3 a4 a5 : PV} : List.take o (Ps.map GV.pure) ++ (GV.pure a0 :: GV.pure a1 :: GV.pure a2 :: GV.pure a3 :: GV.pure a4 :: GV.pure a5 :: List.drop (o + 6) (Ps.map GV.pure)) = (Ps.take o ++ (a0 :: a1 :: a2 :: a3 :: a4 :: a5 :: Ps.drop (o + 6))).map GV.pure := by
 simp
theorem zero6_map (C : List Int) (b : Nat) : (zero6 C b).map (fun n => (PV.int .i64 n)) = (C.map fun n => (PV.int .i64 n)).take (b * 6) ++ (.int .i64 0 :: .int .i64 0 :: .int .i64 0 :: .int .i64 0 :: .int .i64 0 :: .int .i64 0 :: (C.map fun n => (PV.int .i64 n)).drop (b * 6 + 6)) := by
 unfold zero6; simp
theorem mixed_loop (B L : List Int) (hB : BOk B) (hL : L.length = 6) (hx : ∀ x ∈ L, 0 ≤ x ∧ x ≤ 1000) (dk db dw dc : Int) (o : Nat) (ho : o < 4) (z : Blk) (Q : GX → GSt → Prop) (hH : 0 < H.length) : ∀ (k n : Nat), n + k = 6 →
  (Q (.exit 1) ⟨[(2, .bptr (H.length, 2) 0), (3, .bptr (H.length, 3) 0), (4, .bptr (H.length, 4) 0)], [(2, bx (addB B L o 6)), (3, .box [.pure (.int .i64 dk), .pure (.int .i64 db), .pure (.int .i64 o), .pure (.int .i64 dw), .pure (.int .i64 dc)]), (4, z)] :: H, 49⟩) →
  WPL KC needT 59 (lp Try.f59 0) [2, 3, 4, 28, 29] [2, 3, 4] Q [(2, .bptr (H.length, 2) 0), (3, .bptr (H.length, 3) 0), (4, .bptr (H.length, 4) 0), (28, .pure (.agg (L.map fun n => (PV.int .i64 n)))), (29, .pure (.int .i64 n))]
   ([(2, bx (addB B L o n)), (3, .box [.pure (.int .i64 dk), .pure (.int .i64 db), .pure (.int .i64 o), .pure (.int .i64 dw), .pure (.int .i64 dc)]), (4, z)] :: H) 49 := by
 intro k
 induction k with
 | zero =>
  intro n hn h1
  have : n = 6 := by omega
  subst this
  apply WPL_step
  conv => arg 4; whnf
  simp [hH]
  exact h1
 | succ k ih =>
  intro n hn h1
  have hn6 : n < 6 := by omega
  have hl := hB.len
  have hlp := addB_len B L o n
  obtain ⟨x, hx1, hx0, hxx⟩ := hB.get (o := o * 6 + n) (by omega)
  have gx : (addB B L o n).getD (o * 6 + n) 0 = x := by rw [addB_get hl ho n (by omega), if_neg (by omega), List.getD_eq_getElem?_getD, hx1]; rfl
  have hlt : n < L.length := by omega
  have hgL : L[n]? = some L[n] := List.getElem?_eq_getElem hlt
  have gy : L.getD n 0 = L[n] := by rw [List.getD_eq_getElem?_getD, hgL]; rfl
  have hyr := hx L[n] (List.getElem_mem hlt)
  have hx' := bg_get (B := addB B L o n) (o := o * 6 + n) (x := x) (by rw [getD_get (by omega), gx])
  have hy' := bg_get hgL
  have ih' := ih (n + 1) (by omega) h1
  clear ih h1
  have e : ((addB B L o (n + 1)).map fun n => (PV.int .i64 n)) = (((addB B L o n).map fun n => (PV.int .i64 n)).set (o * 6 + n) (.int .i64 (x + L[n]))) := by rw [addB, gx, gy, List.map_set]
  unfold bx at ih' ⊢
  rw [e] at ih'
  clear e
  have hlP : ((addB B L o n).map fun n => (PV.int .i64 n)).length = 24 := by simp [hlp, hl]
  generalize ((addB B L o n).map fun n => (PV.int .i64 n)) = Ps at *
  generalize L[n] = y at *
  have hlL : (L.map fun n => (PV.int .i64 n)).length = 6 := by simp [hL]
  generalize (L.map fun n => (PV.int .i64 n)) = Ls at *
  have hwr := w64 (x := (n : Int) + 1) (by omega) (by omega)
  have hw2 := w64 (x := x + y) (by omega) (by omega)
  have hn' : (n : Int) < 6 := by omega
  have hn2 : ¬ (6 : Int) ≤ n := by omega
  have hn5 : n ≤ 5 := by omega
  have ho' : ¬ (4 : Int) ≤ o := by omega
  have hlt' : n < Ls.length := by omega
  have hy2 : Ls[n] = .int .i64 y := by rw [List.getElem?_eq_getElem hlt'] at hy'; simpa using hy'
  have s1 := spl (Ps := Ps) (o := o * 6 + n) (y := .int .i64 (x + y)) (by omega)
  have l1 : o * 6 + n + 1 ≤ 24 := by omega
  apply WPL_step
  conv => arg 4; whnf
  simp [hn', hn2, hn5, ho', hn6, ho, hH, hwr, hw2, hx', hy2, s1, l1, hlP, hlL, -List.map_set, -List.map_map]
  simpa [-List.map_set, -List.map_map] using ih'
theorem mixed_ok {B : List Int} (hB : BOk B) {d : Deal} (hd : DR d) (hH : 0 < H.length) :
  gcall KC (geval KC) 59 [.pure (bgP B), .pure (.agg d.row)] c H = some (.pure (bgP (readyB B d)), H) := by
 refine WPv_eq (call_enter KC needT Try.func59 rfl rfl good59 rfl rfl rfl (by simp) hH ?_)
 obtain ⟨dk, db, dO, dw, dc⟩ := d
 obtain ⟨h1, h2, h3, h4, h5, h6, h7, h8, h9⟩ := hd
 simp only at h1 h2 h3 h4 h5 h6 h7 h8 h9
 obtain ⟨b, rfl⟩ := Int.eq_ofNat_of_zero_le h1
 obtain ⟨o, rfl⟩ := Int.eq_ofNat_of_zero_le h3
 obtain ⟨w, rfl⟩ := Int.eq_ofNat_of_zero_le h5
 have hb : b < 4 := by omega
 have ho : o < 4 := by omega
 have hw : w < 6 := by omega
 have hb' : ¬ (4 : Int) ≤ b := by omega
 have ho' : ¬ (4 : Int) ≤ o := by omega
 have hw' : ¬ (6 : Int) ≤ w := by omega
 have hl := hB.len
 unfold readyB bgP
 simp only [Deal.row, Int.toNat_natCast]
 by_cases k2 : dk = 2
 ·subst k2
  obtain ⟨x, hx, hx0, hx1⟩ := hB.get (o := b * 6 + w) (by omega)
  have hg : B.getD (b * 6 + w) 0 = x := by rw [List.getD_eq_getElem?_getD, hx]; rfl
  have hx' := bg_get hx
  have hwr := w64 (x := x + dc) (by omega) (by omega)
  rw [if_pos rfl, hg, List.map_set]
  have hlP : (B.map fun n => (PV.int .i64 n)).length = 24 := by simp [hl]
  generalize (B.map fun n => (PV.int .i64 n)) = Ps at *
  have s1 := spl (Ps := Ps) (o := b * 6 + w) (y := .int .i64 (x + dc)) (by omega)
  have l1 : b * 6 + w + 1 ≤ 24 := by omega
  have hl2 : (Ps.set (b * 6 + w) (.int .i64 (x + dc))).length = 24 := by simp [hlP]
  simp [hb', hw', hx', hwr, hlP, l1, s1, ld24 hl2, -List.map_set, gleave_free]
 rw [if_neg k2]
 by_cases k3 : dk = 3
 ·subst k3
  have hne : b ≠ o := fun e => h9 rfl (by rw [e])
  have L := fun z Q h1 => mixed_loop B (bagL B b) hB (hB.blen hb) (hB.bag b) 3 b w dc o ho z Q hH 6 0 (by omega) h1
  rw [if_pos rfl, ← mix_pour hl hb ho hne, zero6_map]
  rw [addB] at L
  unfold bx at L
  have hlP : (B.map fun n => (PV.int .i64 n)).length = 24 := by simp [hl]
  have hl2 : ((addB B (bagL B b) o 6).map fun n => (PV.int .i64 n)).length = 24 := by simp [addB_len, hl]
  have e : (bagL B b).map (fun n => (PV.int .i64 n)) = ((B.map fun n => (PV.int .i64 n)).drop (b * 6)).take 6 := by unfold bagL; rw [List.map_take, List.map_drop]
  rw [e] at L
  generalize ((addB B (bagL B b) o 6).map fun n => (PV.int .i64 n)) = P6 at *
  generalize (B.map fun n => (PV.int .i64 n)) = Ps at *
  have e2 : List.take 6 (List.drop (b * 6) (List.map GV.pure Ps)) = (List.take 6 (List.drop (b * 6) Ps)).map GV.pure := by rw [List.map_take, List.map_drop]
  have hle : b * 6 + 6 ≤ 24 := by omega
  have s6 := spl6 (Ps := P6) (o := b * 6) (a0 := .int .i64 0) (a1 := .int .i64 0) (a2 := .int .i64 0) (a3 := .int .i64 0) (a4 := .int .i64 0) (a5 := .int .i64 0)
  have hl3 : (P6.take (b * 6) ++ (PV.int .i64 0 :: .int .i64 0 :: .int .i64 0 :: .int .i64 0 :: .int .i64 0 :: .int .i64 0 :: P6.drop (b * 6 + 6))).length = 24 := by simp [hl2]; omega
  generalize hZ : (P6.take (b * 6) ++ (PV.int .i64 0 :: .int .i64 0 :: .int .i64 0 :: .int .i64 0 :: .int .i64 0 :: .int .i64 0 :: P6.drop (b * 6 + 6))) = Z at *
  simp at L
  simp [hlP, hb', hle, e2, mkA, -List.map_take, -List.map_drop]
  refine L _ _ ?_
  simp [hl2, hb', hle, s6, ld24 hl3, hl3, gleave_free, -List.map_take, -List.map_drop]
 ·rw [if_neg k3]
  have hlP : (B.map fun n => (PV.int .i64 n)).length = 24 := by simp [hl]
  generalize (B.map fun n => (PV.int .i64 n)) = Ps at *
  simp [k2, k3, ld24 hlP, hlP, gleave_free]
end
section
variable {c : Nat} {H : Heap}
def nk (rows : List (List PV)) (d key : Nat) : Nat := if rows = [] then d else key
theorem apK_hd {l d key bytes es : Nat} {rows : List (List PV)} {r : List PV} (hr : rows ≠ []) {G : Heap} : apK l d (apS (l, key) es rows) es bytes [r] G = apK l key (apS (l, key) es rows) es bytes [r] G := by
 unfold apS; rw [if_neg hr]; simp
theorem apN_1 {l d key bytes es : Nat} {rows : List (List PV)} {r : List PV} {f0 fr : Fr} (hl : H.length = l) (hf : fr.get key = none) (hd : fr.get d = none) (hb : (rows.length + 1) * bytes ≤ 1099511627776) (hk : key < tyBase) (hk2 : d < tyBase) :
  apK l d (apS (l, key) es rows) es bytes [r] (f0 :: apF key es rows fr :: H) = some (apS (l, nk rows d key) es (rows ++ [r]), f0 :: apF (nk rows d key) es (rows ++ [r]) fr :: H) := by
 by_cases hr : rows = []
 ·subst hr
  have := apK_1 (f0 := f0) (r := r) (es := es) (rows := []) hl hd hb hk2
  simpa [nk, apS_nil, apF_nil] using this
 ·rw [apK_hd hr]
  have := apK_1 (f0 := f0) (r := r) (es := es) (rows := rows) hl hf hb hk
  simpa [nk, hr] using this
theorem apN_2 {l d key bytes es : Nat} {rows : List (List PV)} {r : List PV} {f0 f1 fr : Fr} (hl : H.length = l) (hf : fr.get key = none) (hd : fr.get d = none) (hb : (rows.length + 1) * bytes ≤ 1099511627776) (hk : key < tyBase) (hk2 : d < tyBase) :
  apK l d (apS (l, key) es rows) es bytes [r] (f0 :: f1 :: apF key es rows fr :: H) = some (apS (l, nk rows d key) es (rows ++ [r]), f0 :: f1 :: apF (nk rows d key) es (rows ++ [r]) fr :: H) := by
 by_cases hr : rows = []
 ·subst hr
  have := apK_2 (f0 := f0) (f1 := f1) (r := r) (es := es) (rows := []) hl hd hb hk2
  simpa [nk, apS_nil, apF_nil] using this
 ·rw [apK_hd hr]
  have := apK_2 (f0 := f0) (f1 := f1) (r := r) (es := es) (rows := rows) hl hf hb hk
  simpa [nk, hr] using this
end
section
variable {c : Nat} {H : Heap}
def drawN (d : Deal) : Int := if drawsB d = true then d.count else 0
def drawsN (ds : List Deal) : Int := (ds.map drawN).sum
theorem szA_app : ∀ (a b : List Deal) (s : List Int), (szA s (a ++ b)).length = (szA s a).length + (szA (a.foldl stepS s) b).length
 | [], b, s => by simp [szA]
 | d :: a, b, s => by
  have ih := szA_app a b (stepS s d)
  simp only [List.cons_append, szA, List.foldl_cons]
  split
  ·simp only [List.length_cons]; omega
  ·exact ih
theorem szA_rep (d : Deal) (hd : drawsB d = true) : ∀ (n : Nat) (s : List Int), (szA s (List.replicate n d)).length = n
 | 0, s => rfl
 | n + 1, s => by rw [List.replicate_succ, szA, if_pos hd, List.length_cons, szA_rep d hd n]
theorem szA_num : ∀ (ds : List Deal) (s : List Int), (∀ d ∈ ds, 0 ≤ d.count) → ((szA s (actsL ds)).length : Int) = drawsN ds
 | [], s, _ => rfl
 | d :: r, s, h => by
  have h0 := h d (by simp)
  have e : actsL (d :: r) = actsD d ++ actsL r := by unfold actsL; rw [List.flatMap_cons]
  have ih := szA_num r ((actsD d).foldl stepS s) fun x hx => h x (by simp [hx])
  have h1 : ((szA s (actsD d)).length : Int) = drawN d := by
   unfold actsD drawN
   by_cases g : drawsB d = true
   ·have g' : drawsB { d with count := 1 } = true := g
    rw [if_pos g, if_pos g, szA_rep _ g']; omega
   ·rw [if_neg g, if_neg g, szA, if_neg g]; rfl
  have e2 : drawsN (d :: r) = drawN d + drawsN r := by unfold drawsN; simp
  rw [e, szA_app, e2]
  omega
theorem all_loop (ds : List Deal) (hl : ds.length ≤ 24) (hc : ∀ d ∈ ds, 0 ≤ d.count ∧ d.count ≤ 12) (F : Fr) (p : GV) (hp : ∀ H' : Heap, ∀ n, clean H' n p = p) (Q : GX → GSt → Prop) (hH : 0 < H.length) : ∀ (k i : Nat), i + k = ds.length →
  (Q (.exit 0) ⟨[(1, p), (2, .bptr (H.length, 2) 0), (7, .pure (.int .i64 (drawsN ds)))], F :: H, 121⟩) →
  WPL KC needT 17 (lp Try.f17 0) [1, 2, 7, 26, 27, 28] [1, 2, 7] Q [(1, p), (2, .bptr (H.length, 2) 0), (7, .pure (.int .i64 (drawsN (ds.take i)))), (26, .pure (.slice (ds.map Deal.row))), (27, .pure (.int .i64 ds.length)), (28, .pure (.int .i64 i))] (F :: H) 121 := by
 intro k
 induction k with
 | zero =>
  intro i hi h1
  have hia : ¬ i < ds.length := by omega
  rw [List.take_of_length_le (by omega)]
  apply WPL_step
  conv => arg 4; whnf
  simp [hia, hH, hp]
  exact h1
 | succ k ih =>
  intro i hi h1
  have hia : i < ds.length := by omega
  have hwr := w64 (x := (i : Int) + 1) (by omega) (by omega)
  have hs : drawsN (ds.take (i + 1)) = drawsN (ds.take i) + drawN ds[i] := by
   unfold drawsN
   rw [List.map_take, List.map_take]
   exact take_sum (by rw [List.getElem?_map, List.getElem?_eq_getElem hia]; rfl)
  have hr : 0 ≤ drawsN (ds.take i) ∧ drawsN (ds.take i) ≤ 1000 * ((ds.take i).map drawN).length := sum_rng fun y hy => by
   obtain ⟨d, hd, rfl⟩ := List.mem_map.1 hy
   have := hc d (List.mem_of_mem_take hd)
   unfold drawN; split <;> omega
  have hlen : ((ds.take i).map drawN).length ≤ 24 := by simp; omega
  have hn : 0 ≤ drawN ds[i] ∧ drawN ds[i] ≤ 12 := by
   have := hc ds[i] (List.getElem_mem hia)
   unfold drawN; split <;> omega
  have hw2 := w64 (x := drawsN (ds.take i) + drawN ds[i]) (by omega) (by omega)
  have ih' := ih (i + 1) (by omega) h1
  rw [hs] at ih'
  have D := fun c (G : Heap) (hG : 0 < G.length) => draws_ok (c := c) (H := G) (d := ds[i]) hG
  have e : (if drawsB ds[i] = true then ds[i].count else 0) = drawN ds[i] := rfl
  rw [e] at D
  clear e hs ih h1
  generalize drawsN (ds.take i) = sm at *
  generalize drawN ds[i] = n at *
  generalize hdd : ds[i] = d at *
  obtain ⟨dk, db, dO, dw, dc⟩ := d
  simp only [Deal.row] at D
  apply WPL_step
  conv => arg 4; whnf
  simp [hia, hH, hwr, hw2, hdd, Deal.row, D, hp]
  simpa using ih'
end
section
variable {c : Nat} {H : Heap}
def dBox (d : Deal) : Blk := .box [.pure (.int .i64 d.kind), .pure (.int .i64 d.bag), .pure (.int .i64 d.other), .pure (.int .i64 d.wood), .pure (.int .i64 d.count)]
theorem pick_loop (B : List Int) (hB : BOk B) (d : Deal) (b : Nat) (hdb : d.bag = b) (hb : b < 4) (ps : List (List PV)) (key : Nat) (hk1 : key ≠ 2) (hk2 : key ≠ 12) (rows : List (List PV)) (n i47 i48 : Int) (pb : Bool) (dsR : List (List PV)) (g : Blk) (F0 : Fr) (Q : GX → GSt → Prop) (hH : 0 < H.length)
  (h1 : ∀ w' : Nat, w' < 6 → 0 < B.getD (b * 6 + w') 0 → Q (.exit 6) ⟨[(1, .pure (.slice ps)), (12, .bptr (H.length, 12) 0), (13, apS (H.length, key) 1 rows), (15, .bptr (H.length + 1, 15) 0), (16, .pure (.int .i64 n)), (17, .pure (.bool pb)), (18, .pure (.int .i64 w')), (46, .pure (.slice dsR)), (47, .pure (.int .i64 i47)), (48, .pure (.int .i64 i48))],
   F0 :: [(15, dBox d)] :: apF key 1 rows [(2, g), (12, bx B)] :: H, 121⟩) : ∀ (m w : Nat) (k : Int), w + m = 6 → 0 ≤ k → k < ((bagL B b).drop w).sum →
  WPL KC needT 17 (lp Try.f17 3) [1, 12, 13, 15, 16, 17, 18, 19, 46, 47, 48] [1, 12, 13, 15, 16, 17, 18, 46, 47, 48] Q
   [(1, .pure (.slice ps)), (12, .bptr (H.length, 12) 0), (13, apS (H.length, key) 1 rows), (15, .bptr (H.length + 1, 15) 0), (16, .pure (.int .i64 n)), (17, .pure (.bool pb)), (18, .pure (.int .i64 w)), (19, .pure (.int .i64 k)), (46, .pure (.slice dsR)), (47, .pure (.int .i64 i47)), (48, .pure (.int .i64 i48))]
   (F0 :: [(15, dBox d)] :: apF key 1 rows [(2, g), (12, bx B)] :: H) 121 := by
 intro m
 induction m with
 | zero =>
  intro w k hw h0 hk
  rw [List.drop_eq_nil_of_le (by rw [hB.blen hb]; omega)] at hk
  simp at hk; omega
 | succ m ih =>
  intro w k hw h0 hk
  have hw6 : w < 6 := by omega
  obtain ⟨x, hx, hx0, hx1⟩ := hB.get (o := b * 6 + w) (by omega)
  have hds := drop_sum (L := bagL B b) (i := w) (x := x) (by rw [bagL_get hw6]; exact hx)
  have hg : B.getD (b * 6 + w) 0 = x := by rw [List.getD_eq_getElem?_getD, hx]; rfl
  have hx' := bg_get hx
  have hlB := hB.len
  have hr := sum_rng (L := (bagL B b).drop w) fun y hy => hB.bag b y (List.mem_of_mem_drop hy)
  have hrl : ((bagL B b).drop w).length ≤ 6 := by rw [List.length_drop, hB.blen hb]; omega
  have hw2 : ¬ (6 : Int) ≤ w := by omega
  have hb2 : ¬ (4 : Int) ≤ b := by omega
  have hwr := w64 (x := (w : Int) + 1) (by omega) (by omega)
  have hkr := w64 (x := k - x) (by omega) (by omega)
  have h1w := h1 w hw6
  rw [hg] at h1w
  have ih' := fun h => ih (w + 1) (k - x) (by omega) h (by omega)
  clear ih h1
  unfold bx dBox at *
  have hlP : (B.map fun n => (PV.int .i64 n)).length = 24 := by simp [hlB]
  generalize (B.map fun n => (PV.int .i64 n)) = Ps at *
  obtain ⟨dk, db, dO, dw, dc⟩ := d
  simp only at hdb
  subst hdb
  have k2 : ¬ 2 = key := Ne.symm hk1
  have k12 : ¬ 12 = key := Ne.symm hk2
  apply WPL_step
  conv => arg 4; whnf
  by_cases g1 : x ≤ k
  ·have g2 : (0 : Int) ≤ k - x := by omega
   simp [hH, hw2, hb2, hw6, hb, hwr, hkr, hx', g1, k2, k12]
   simpa using ih' g2
  ·have g2 : 0 < x := by omega
   simp [hH, hw2, hb2, hw6, hb, hwr, hkr, hx', g1, k2, k12]
   exact h1w g2
end
section
variable {c : Nat} {H : Heap}
def lowL (nw : Nat) (cs : List Int) : Prop := ∀ x ∈ cs, 0 ≤ x ∧ x < nw
theorem draws_loop (d : Deal) (hd4 : drawsB d = true) (b : Nat) (hdb : d.bag = b) (hb : b < 4) (nw : Nat) (hnw : nw ≤ 6) (rest : List Deal) (pb : Bool) (i47 i48 : Int) (dsR : List (List PV)) (g : Blk) (Q : GX → GSt → Prop) (hH : 0 < H.length) :
  ∀ (n : Nat) (s B ps cs : List Int) (key : Nat), n ≤ 12 → cs.length + n ≤ 1000 → key = 62 ∨ key = 118 → SI s → BI nw s B → okA nw s (List.replicate n { d with count := 1 } ++ rest) → pkOk ps (szA s (List.replicate n { d with count := 1 } ++ rest)) → lowL nw cs →
  (∀ s' B' ps' cs' key', s' = (List.replicate n { d with count := 1 }).foldl stepS s → key' = 62 ∨ key' = 118 → SI s' → BI nw s' B' → okA nw s' rest → pkOk ps' (szA s' rest) → lowL nw cs' → cs'.length = cs.length + (if pb = true then n else 0) →
   Q (.exit 4) ⟨[(1, .pure (.slice (ps'.map irow))), (4, gdead), (5, gdead), (12, .bptr (H.length, 12) 0), (13, apS (H.length, key') 1 (cs'.map irow)), (46, .pure (.slice dsR)), (47, .pure (.int .i64 i47)), (48, .pure (.int .i64 i48))],
    [(15, dBox d)] :: apF key' 1 (cs'.map irow) [(2, g), (12, bx B')] :: H, 121⟩) →
  WPL KC needT 17 (lp Try.f17 2) [1, 12, 13, 15, 16, 17, 46, 47, 48] [1, 4, 5, 12, 13, 46, 47, 48] Q
   [(1, .pure (.slice (ps.map irow))), (12, .bptr (H.length, 12) 0), (13, apS (H.length, key) 1 (cs.map irow)), (15, .bptr (H.length + 1, 15) 0), (16, .pure (.int .i64 n)), (17, .pure (.bool pb)), (46, .pure (.slice dsR)), (47, .pure (.int .i64 i47)), (48, .pure (.int .i64 i48))]
   ([(15, dBox d)] :: apF key 1 (cs.map irow) [(2, g), (12, bx B)] :: H) 121 := by
 intro n
 induction n with
 | zero =>
  intro s B ps cs key hn hcl hk hs hB ha hp hcs h1
  have h1' := h1 s B ps cs key rfl hk hs hB ha hp hcs (by simp)
  apply WPL_step
  conv => arg 4; whnf
  simp [hH]
  exact h1'
 | succ n ih =>
  intro s B ps cs key hn hcl hk hs hB ha hp hcs h1
  have hdr : drawsB { d with count := 1 } = true := hd4
  rw [List.replicate_succ, List.cons_append] at ha hp
  obtain ⟨hs2, hd, hdw, hwd, ha2⟩ := ha
  rw [szA, if_pos hdr] at hp
  have hbn : d.bag.toNat = b := by omega
  have hss : s.getD b 0 ≥ 1 := by have := hdw hdr; simp only [hbn] at this; exact this
  cases ps with
  | nil => exact hp.elim
  | cons p ps =>
  obtain ⟨hp0, hp1, hp2⟩ := hp
  simp only [hbn] at hp1
  have hbok := hB.bok hs
  have hsz := hB.sz b hb
  have hle := hs.le b
  have es : stepS s { d with count := 1 } = s.set b (s.getD b 0 - 1) := by unfold stepS drawS; rw [if_pos hdr]; simp only [hbn]
  have hdrop0 : ((bagL B b).drop 0).sum = sizeB B b := rfl
  have L3 := fun F0 Q h1 => pick_loop B hbok d b hdb hb ((p :: ps).map irow) key (by omega) (by omega) (cs.map irow) ((n : Int) + 1) i47 i48 pb dsR g F0 Q hH h1 6 0 p (by omega) hp0 (by rw [hdrop0, hsz]; exact hp1)
  have S := fun c (G : Heap) (hG : 0 < G.length) => sizeG_ok (c := c) (H := G) hbok hb hG
  rw [hsz] at S
  have I := fun c (G : Heap) (hG : 0 < G.length) => in_ok (c := c) (H := G) (x := p) (lo := 0) (hi := s.getD b 0 - 1) hG
  have hin : inB p 0 (s.getD b 0 - 1) = true := by rw [inB_iff]; omega
  rw [hin] at I
  have hw1 := w64 (x := s.getD b 0 - 1) (by omega) (by omega)
  have hwn : IntKind.i64.wrap ((n : Int) + 1 - 1) = n := by rw [show (n : Int) + 1 - 1 = n by omega]; exact w64 (by omega) (by omega)
  have hlB := hB.len
  have hb2 : ¬ (4 : Int) ≤ b := by omega
  have k2 : ¬ 2 = key := by omega
  have k12 : ¬ 12 = key := by omega
  have hkt : key < tyBase := Nat.lt_of_le_of_lt (show key ≤ 118 by omega) (by decide)
  have hpos : (0 : Int) < (n : Int) + 1 := by omega
  have cont : ∀ w : Nat, w < 6 → 0 < B.getD (b * 6 + w) 0 → ∀ cs' key', cs' = (if pb = true then cs ++ [(w : Int)] else cs) → key' = (if pb = true then nk (cs.map irow) 118 key else key) →
    WPL KC needT 17 (lp Try.f17 2) [1, 12, 13, 15, 16, 17, 46, 47, 48] [1, 4, 5, 12, 13, 46, 47, 48] Q
     [(1, .pure (.slice (ps.map irow))), (12, .bptr (H.length, 12) 0), (13, apS (H.length, key') 1 (cs'.map irow)), (15, .bptr (H.length + 1, 15) 0), (16, .pure (.int .i64 n)), (17, .pure (.bool pb)), (46, .pure (.slice dsR)), (47, .pure (.int .i64 i47)), (48, .pure (.int .i64 i48))]
     ([(15, dBox d)] :: apF key' 1 (cs'.map irow) [(2, g), (12, bx (B.set (b * 6 + w) (B.getD (b * 6 + w) 0 - 1)))] :: H) 121 := by
   intro w hw6 hwp cs' key' hc hk'
   have hbd := hB.draw hs hb hw6 hwp
   have hlow : lowL nw cs' := by
    rw [hc]; split
    ·intro x hx
     rcases List.mem_append.1 hx with hx | hx
     ·exact hcs x hx
     ·rw [List.mem_singleton] at hx; subst hx; have := hbd.2; omega
    ·exact hcs
   have hlen : cs'.length = cs.length + (if pb = true then 1 else 0) := by rw [hc]; split <;> simp
   have hk2' : key' = 62 ∨ key' = 118 := by
    rw [hk']; unfold nk; split
    ·split
     ·exact .inr rfl
     ·exact hk
    ·exact hk
   refine ih (stepS s { d with count := 1 }) _ ps cs' key' (by omega) (by rw [hlen]; split <;> omega) hk2' hs2 (es ▸ hbd.1) ha2 hp2 hlow (fun s' B' ps' cs2 key2 e1 e2 e3 e4 e5 e6 e7 e8 => h1 s' B' ps' cs2 key2 ?_ e2 e3 e4 e5 e6 e7 ?_)
   ·rw [e1, List.replicate_succ, List.foldl_cons]
   ·rw [e8, hlen]; split <;> omega
  clear ih h1 ha2 hs2 hwd hdw
  have l1 : (B.map fun n => (PV.int .i64 n)).length = 24 := by simp [hlB]
  have hcons : (p :: ps).map irow = [.int .i64 p] :: ps.map irow := rfl
  unfold bgP at S
  rw [hcons, show ((0 : Nat) : Int) = 0 from rfl] at L3
  generalize s.getD b 0 = z at S I hw1
  have hbx : ∀ (w : Nat) (v : Int), bx (B.set (b * 6 + w) v) = .box (((B.map fun n => (PV.int .i64 n)).set (b * 6 + w) (.int .i64 v)).map GV.pure) := fun w v => by unfold bx; rw [List.map_set]
  have hxg : ∀ w : Nat, w < 6 → ∃ x, B.getD (b * 6 + w) 0 = x ∧ 0 ≤ x ∧ x ≤ 1000 ∧ (B.map fun n => (PV.int .i64 n))[b * 6 + w]? = some (.int .i64 x) := fun w hw => by
   obtain ⟨x, hx, h0, h1⟩ := hbok.get (o := b * 6 + w) (by omega)
   exact ⟨x, by rw [List.getD_eq_getElem?_getD, hx]; rfl, h0, h1, bg_get hx⟩
  simp only [hbx] at cont
  unfold bx at L3 ⊢
  generalize (B.map fun n => (PV.int .i64 n)) = Ps at *
  unfold dBox at *
  obtain ⟨dk, db, dO, dw, dc⟩ := d
  simp only at hdb L3 cont ⊢
  subst hdb
  apply WPL_step
  conv => arg 4; whnf
  simp [hH, hpos, k2, k12, S, I, hw1, irow, ld24 l1]
  refine L3 _ _ (fun w hw6 hwp => ?_)
  obtain ⟨x, hx, hx0, hx1, hxg⟩ := hxg w hw6
  have ct := cont w hw6 hwp
  rw [hx] at ct
  have hw2 : ¬ (6 : Int) ≤ w := by omega
  have hwx := w64 (x := x - 1) (by omega) (by omega)
  have s1 := spl (Ps := Ps) (o := b * 6 + w) (y := .int .i64 (x - 1)) (by omega)
  have lo1 : b * 6 + w + 1 ≤ 24 := by omega
  have hb3 : ((4 : Int) ≤ (b : Int)) = False := eq_false hb2
  have hw3 : ((6 : Int) ≤ (w : Int)) = False := eq_false hw2
  have hr1 : (∀ y : Int, y ∈ ps → (irow y).length = 1) = True := eq_true fun _ _ => rfl
  have htk : List.take ps.length (List.map irow ps) = List.map irow ps := List.take_of_length_le (by simp)
  have hwn2 := w64 (x := (n : Int)) (by omega) (by omega)
  cases pb with
  | true =>
   have ct' := ct _ _ rfl rfl
   simp only [if_true] at ct'
   have h2 : ¬ key = 2 := by omega
   have h12 : ¬ key = 12 := by omega
   have AP := fun (f0 f1 : Fr) (v : Blk) => apN_2 (H := H) (l := H.length) (d := 118) (key := key) (bytes := 8) (es := 1) (rows := cs.map irow) (r := [.int .i64 w]) (f0 := f0) (f1 := f1) (fr := [(2, g), (12, v)]) rfl (by simp [Fr.get, h2, h12]) (by simp [Fr.get]) (by simp; omega) hkt (by decide)
   simp [hH, k2, k12, hb2, hw2, hb3, hw3, hr1, htk, hwn2, hw6, hb, hxg, hwx, s1, lo1, l1, hwn, AP, hkt, -List.map_set]
   simpa [irow, -List.map_set] using ct'
  | false =>
   have ct' := ct _ _ rfl rfl
   simp only [Bool.false_eq_true, if_false] at ct'
   simp [hH, k2, k12, hb2, hw2, hb3, hw3, hr1, htk, hwn2, hw6, hb, hxg, hwx, s1, lo1, l1, hwn, -List.map_set]
   simpa [irow, -List.map_set] using ct'
end
section
variable {c : Nat} {H : Heap}
theorem draws_zero (F1 F : Fr) (p1 cr : GV) (hp1 : ∀ (G : Heap) n, clean G n p1 = p1) (hcr : ∀ (G : Heap), clean G H.length.succ cr = cr) (pb : Bool) (i47 i48 : Int) (dsR : List (List PV)) (Q : GX → GSt → Prop) (hH : 0 < H.length)
  (h1 : Q (.exit 4) ⟨[(1, p1), (4, gdead), (5, gdead), (12, .bptr (H.length, 12) 0), (13, cr), (46, .pure (.slice dsR)), (47, .pure (.int .i64 i47)), (48, .pure (.int .i64 i48))], F1 :: F :: H, 121⟩) :
  WPL KC needT 17 (lp Try.f17 2) [1, 12, 13, 15, 16, 17, 46, 47, 48] [1, 4, 5, 12, 13, 46, 47, 48] Q
   [(1, p1), (12, .bptr (H.length, 12) 0), (13, cr), (15, .bptr (H.length + 1, 15) 0), (16, .pure (.int .i64 0)), (17, .pure (.bool pb)), (46, .pure (.slice dsR)), (47, .pure (.int .i64 i47)), (48, .pure (.int .i64 i48))]
   (F1 :: F :: H) 121 := by
 apply WPL_step
 conv => arg 4; whnf
 simp [hH, hp1, hcr]
 exact h1
def censD (d : Deal) : Nat := if d.kind = 6 then 1 else if d.kind = 5 then d.count.toNat else 0
theorem actsL_cons (d : Deal) (r : List Deal) : actsL (d :: r) = actsD d ++ actsL r := by unfold actsL; rw [List.flatMap_cons]
theorem readyB_draw {B : List Int} {d : Deal} (h : drawsB d = true) : readyB B d = B := by
 unfold drawsB at h
 simp only [Bool.or_eq_true, beq_iff_eq] at h
 unfold readyB
 rw [if_neg (by omega), if_neg (by omega)]
end
section
variable {c : Nat} {H : Heap}
theorem play_loop (ds : List Deal) (hl : ds.length ≤ 24) (nw : Nat) (hnw : nw ≤ 6) (hDR : ∀ d ∈ ds, DR d) (g : Blk) (Q : GX → GSt → Prop) (hH : 0 < H.length) : ∀ (k i : Nat) (s B ps cs : List Int) (key : Nat), i + k = ds.length → cs.length + 13 * k ≤ 900 → key = 62 ∨ key = 118 →
  SI s → BI nw s B → okA nw s (actsL (ds.drop i)) → pkOk ps (szA s (actsL (ds.drop i))) → lowL nw cs →
  (∀ B' cs' key', lowL nw cs' → cs'.length = cs.length + ((ds.drop i).map censD).sum → key' = 62 ∨ key' = 118 →
   Q (.exit 2) ⟨[(4, gdead), (5, gdead), (13, apS (H.length, key') 1 (cs'.map irow))], apF key' 1 (cs'.map irow) [(2, g), (12, bx B')] :: H, 121⟩) →
  WPL KC needT 17 (lp Try.f17 1) [1, 12, 13, 46, 47, 48] [4, 5, 13] Q
   [(1, .pure (.slice (ps.map irow))), (12, .bptr (H.length, 12) 0), (13, apS (H.length, key) 1 (cs.map irow)), (46, .pure (.slice (ds.map Deal.row))), (47, .pure (.int .i64 ds.length)), (48, .pure (.int .i64 i))]
   (apF key 1 (cs.map irow) [(2, g), (12, bx B)] :: H) 121 := by
 intro k
 induction k with
 | zero =>
  intro i s B ps cs key hi hcl hk hs hB ha hp hcs h1
  have hia : ¬ i < ds.length := by omega
  rw [List.drop_eq_nil_of_le (by omega)] at h1
  have h1' := h1 B cs key hcs (by simp) hk
  apply WPL_step
  conv => arg 4; whnf
  simp [hia, hH]
  exact h1'
 | succ k ih =>
  intro i s B ps cs key hi hcl hk hs hB ha hp hcs h1
  have hia : i < ds.length := by omega
  have hwr := w64 (x := (i : Int) + 1) (by omega) (by omega)
  rw [List.drop_eq_getElem_cons hia] at ha hp h1
  rw [actsL_cons] at ha hp
  have hd := hDR ds[i] (List.getElem_mem hia)
  have hbok := hB.bok hs
  have M := fun c (G : Heap) (hG : 0 < G.length) => mixed_ok (c := c) (H := G) hbok hd hG
  have D := fun c (G : Heap) (hG : 0 < G.length) => draws_ok (c := c) (H := G) (d := ds[i]) hG
  have hlB := hB.len
  generalize hdd : ds[i] = d at *
  by_cases g4 : drawsB d = true
  ·rw [readyB_draw g4] at M
   have es : actsD d = List.replicate d.count.toNat { d with count := 1 } := by unfold actsD; rw [if_pos g4]
   rw [es] at ha hp
   have hn12 : d.count.toNat ≤ 12 := by have := hd.c12; omega
   have hcn : ((d.count.toNat : Nat) : Int) = d.count := by have := hd.c0; omega
   have hdb : d.bag = (d.bag.toNat : Nat) := by have := hd.b0; omega
   have hb4 : d.bag.toNat < 4 := by have := hd.b3; omega
   have L2 := fun Q hq => draws_loop d g4 d.bag.toNat hdb hb4 nw hnw (actsL (ds.drop (i + 1))) (d.kind == 5) ds.length i (ds.map Deal.row) g Q hH d.count.toNat s B ps cs key hn12 (by omega) hk hs hB ha hp hcs hq
   rw [hcn] at L2
   rw [if_pos g4] at D
   have cont : ∀ s' B' ps' cs' key', key' = 62 ∨ key' = 118 → SI s' → BI nw s' B' → okA nw s' (actsL (ds.drop (i + 1))) → pkOk ps' (szA s' (actsL (ds.drop (i + 1)))) → lowL nw cs' → cs'.length = cs.length + (if (d.kind == 5) = true then d.count.toNat else 0) → _ := fun s' B' ps' cs' key' e2 e3 e4 e5 e6 e7 e8 =>
    ih (i + 1) s' B' ps' cs' key' (by omega) (by rw [e8]; split <;> omega) e2 e3 e4 e5 e6 e7 (fun B2 cs2 key2 f1 f2 f3 => h1 B2 cs2 key2 f1 (by
     rw [f2, e8, List.map_cons, List.sum_cons]
     have : censD d = (if (d.kind == 5) = true then d.count.toNat else 0) := by
      unfold drawsB at g4
      simp only [Bool.or_eq_true, beq_iff_eq] at g4
      unfold censD
      rw [if_neg (by omega)]
      by_cases k5 : d.kind = 5
      ·simp [k5]
      ·simp [k5]
     omega) f3)
   clear ih h1
   have k2 : ¬ 2 = key := by omega
   have k12 : ¬ 12 = key := by omega
   have l1 : (B.map fun n => (PV.int .i64 n)).length = 24 := by simp [hlB]
   have k6 : ¬ d.kind = 6 := by
    unfold drawsB at g4
    simp only [Bool.or_eq_true, beq_iff_eq] at g4
    omega
   unfold bgP at M
   unfold bx at L2 cont ⊢
   generalize (B.map fun n => (PV.int .i64 n)) = Ps at *
   obtain ⟨dk, db, dO, dw, dc⟩ := d
   unfold dBox at L2
   simp only [Deal.row] at M D
   simp only at L2 k6
   have l3 : List.drop 24 (List.map GV.pure Ps) = [] := List.drop_eq_nil_of_le (by simp [l1])
   apply WPL_step
   conv => arg 4; whnf
   simp [hia, hH, k2, k12, hdd, Deal.row, ld24 l1, M, l1, l3, k6, D]
   refine L2 _ (fun s' B' ps' cs' key' e1 e2 e3 e4 e5 e6 e7 e8 => ?_)
   have ct := cont s' B' ps' cs' key' e2 e3 e4 e5 e6 e7 e8
   simp [hwr]
   simpa [bx] using ct
  ·have es : actsD d = [d] := by unfold actsD; rw [if_neg g4]
   rw [es] at ha hp
   obtain ⟨hs2, _, _, hwd, ha2⟩ := ha
   have e2 : stepS s d = readyS s d := by unfold stepS; rw [if_neg g4]
   have hB1 := hB.ready hs hd (fun e => hwd (.inl e))
   rw [← e2] at hB1
   rw [List.singleton_append, szA, if_neg g4] at hp
   have hk45 : ¬ d.kind = 4 ∧ ¬ d.kind = 5 := by
    unfold drawsB at g4
    simpa using g4
   rw [if_neg g4, show (d.kind == 5) = false by simp [hk45.2]] at D
   have cont := fun cs' key' (hk' : key' = 62 ∨ key' = 118) (hlow : lowL nw cs') (hcl' : cs'.length = cs.length + censD d) =>
    ih (i + 1) (stepS s d) (readyB B d) ps cs' key' (by omega) (by rw [hcl']; unfold censD; split <;> first | omega | (rw [if_neg hk45.2]; omega)) hk' hs2 hB1 ha2 hp hlow (fun B2 cs2 key2 f1 f2 f3 => h1 B2 cs2 key2 f1 (by rw [f2, hcl', List.map_cons, List.sum_cons]; omega) f3)
   clear ih h1
   have hlB1 := hB1.len
   generalize readyB B d = B1 at *
   have k2 : ¬ 2 = key := by omega
   have k12 : ¬ 12 = key := by omega
   have h2 : ¬ key = 2 := by omega
   have h12 : ¬ key = 12 := by omega
   have hkt : key < tyBase := Nat.lt_of_le_of_lt (show key ≤ 118 by omega) (by decide)
   have l1 : (B.map fun n => (PV.int .i64 n)).length = 24 := by simp [hlB]
   have l2 : (B1.map fun n => (PV.int .i64 n)).length = 24 := by simp [hlB1]
   unfold bgP at M
   unfold bx at cont ⊢
   generalize (B.map fun n => (PV.int .i64 n)) = Ps at *
   generalize (B1.map fun n => (PV.int .i64 n)) = P1 at *
   have l3 : List.drop 24 (List.map GV.pure Ps) = [] := List.drop_eq_nil_of_le (by simp [l1])
   by_cases k6 : d.kind = 6
   ·have ct := cont (cs ++ [d.wood]) (nk (cs.map irow) 62 key) (by unfold nk; split; exact .inl rfl; exact hk) (fun x hx => by
     rcases List.mem_append.1 hx with hx | hx
     ·exact hcs x hx
     ·rw [List.mem_singleton] at hx; subst hx
      have := hwd (.inr k6); have := hd.w0; omega) (by simp [censD, k6])
    clear cont
    have AP := fun (f0 : Fr) (v : Blk) => apN_1 (H := H) (l := H.length) (d := 62) (key := key) (bytes := 8) (es := 1) (rows := cs.map irow) (r := [.int .i64 d.wood]) (f0 := f0) (fr := [(2, g), (12, v)]) rfl (by simp [Fr.get, h2, h12]) (by simp [Fr.get]) (by simp; omega) hkt (by decide)
    have AP2 := fun (f0 f1 : Fr) (v : Blk) => apN_2 (H := H) (l := H.length) (d := 62) (key := key) (bytes := 8) (es := 1) (rows := cs.map irow) (r := [.int .i64 d.wood]) (f0 := f0) (f1 := f1) (fr := [(2, g), (12, v)]) rfl (by simp [Fr.get, h2, h12]) (by simp [Fr.get]) (by simp; omega) hkt (by decide)
    obtain ⟨dk, db, dO, dw, dc⟩ := d
    simp only [Deal.row] at M D
    simp only at k6 ct AP AP2
    subst k6
    apply WPL_step
    conv => arg 4; whnf
    simp [hia, hH, k2, k12, hdd, Deal.row, ld24 l1, M, l1, l2, l3, D, AP, AP2]
    refine draws_zero _ _ _ _ (by intros; rfl) (by intros; simp) _ _ _ _ _ hH ?_
    simp [hwr]
    simpa [irow] using ct
   ·have ct := cont cs key hk hcs (by unfold censD; rw [if_neg k6, if_neg hk45.2]; rfl)
    clear cont
    obtain ⟨dk, db, dO, dw, dc⟩ := d
    simp only [Deal.row] at M D
    simp only at k6 ct
    apply WPL_step
    conv => arg 4; whnf
    simp [hia, hH, k2, k12, hdd, Deal.row, ld24 l1, M, l1, l2, l3, D, k6]
    refine draws_zero _ _ _ _ (by intros; rfl) (by intros; simp) _ _ _ _ _ hH ?_
    simp [hwr]
    simpa [irow] using ct
end
section
variable {c : Nat} {H : Heap}
theorem pkOk_len : ∀ {ps zs : List Int}, pkOk ps zs → ps.length = zs.length
 | [], [], _ => rfl
 | _ :: ps, _ :: zs, h => by simp [pkOk_len h.2.2]
 | [], _ :: _, h => h.elim
 | _ :: _, [], h => h.elim
theorem play_ok {ws : List Wood} {ds : List Deal} (h : GOk ws ds) (hDR : ∀ d ∈ ds, DR d) (ha : okA ws.length [0, 0, 0, 0] (actsL ds)) {ps : List Int} (hp : pkOk ps (szA [0, 0, 0, 0] (actsL ds))) (hH : 0 < H.length) :
  ∃ cs, lowL ws.length cs ∧ cs.length = (ds.map censD).sum ∧ gcall KC (geval KC) 17 [.pure (.agg [.slice (ws.map Wood.row), .slice (ds.map Deal.row)]), .pure (.slice (ps.map irow))] c H = some (.pure (.tuple [.slice (cs.map irow), .int .i64 0]), H) := by
 suffices hs : WPv (gcall KC (geval KC) 17 [.pure (.agg [.slice (ws.map Wood.row), .slice (ds.map Deal.row)]), .pure (.slice (ps.map irow))] c H) (fun x => ∃ cs, lowL ws.length cs ∧ cs.length = (ds.map censD).sum ∧ x = (.pure (.tuple [.slice (cs.map irow), .int .i64 0]), H)) by
  obtain ⟨x, hx, cs, h1, h2, e⟩ := hs
  exact ⟨cs, h1, h2, by rw [hx, e]⟩
 refine call_enter KC needT Try.func17 rfl rfl good17 rfl rfl rfl (by simp) hH ?_
 have C := fun c (G : Heap) (hG : 0 < G.length) => check_ok (c := c) (H := G) h hG
 have hn := szA_num ds [0, 0, 0, 0] fun d hd => (hDR d hd).c0
 rw [← pkOk_len hp] at hn
 have A := fun F Q hq => all_loop ds h.l (fun d hd => ⟨(hDR d hd).c0, (hDR d hd).c12⟩) F (.pure (.slice (ps.map irow))) (fun _ _ => rfl) Q hH ds.length 0 (by omega) hq
 have L := fun g Q hq => play_loop ds h.l ws.length h.w.le hDR g Q hH ds.length 0 _ _ ps [] 62 (by omega) (by have := h.l; simp; omega) (.inl rfl) SI0 (BI0 _) ha hp (fun x hx => by simp at hx) hq
 simp [drawsN] at A
 simp [bx, apS_nil, apF_nil] at L
 simp [C]
 refine A _ _ ?_
 simp [hn, drawsN]
 refine L _ _ (fun B' cs' key' f1 f2 f3 => ?_)
 simp [gleave_free]
 refine ⟨cs', f1, by simpa using f2, ?_⟩
 have hlt : ¬ H.length ≤ H.length - 1 := by omega
 by_cases hr : cs' = []
 ·subst hr
  simp [apS_nil, apF_nil]
 ·have hr' : cs'.map irow ≠ [] := by simpa using hr
  simp [apS, hr, hlt, apF_self hr']
  exact List.take_of_length_le (by simp)
end
section
variable {c : Nat} {H : Heap}
def stepRow (d : Deal) (a b : Bool) : List PV := d.row ++ [.bool a, .bool b]
def stepsD (d : Deal) : List (List PV) := if drawsB d = true then List.replicate d.count.toNat (stepRow d true (d.kind == 5)) else [stepRow d false (d.kind == 6)]
def stepsL (ds : List Deal) : List (List PV) := ds.flatMap stepsD
theorem steps_in (d : Deal) (pb : Bool) (i11 i10 : Int) (dsR : List (List PV)) (g : Blk) (N : Int) (hN : N ≤ 12) (Q : GX → GSt → Prop) (hH : 0 < H.length) : ∀ (k : Nat) (j : Int) (rows : List (List PV)) (key : Nat), j + k = N → 0 ≤ j → rows.length + k ≤ 100000 → key = 28 ∨ key = 39 →
  (∀ key', key' = 28 ∨ key' = 39 → Q (.exit 2) ⟨[(3, apS (H.length, key') 7 (rows ++ List.replicate k (stepRow d true pb))), (5, .bptr (H.length + 1, 5) 0), (6, .pure (.int .i64 N)), (9, .pure (.slice dsR)), (10, .pure (.int .i64 i10)), (11, .pure (.int .i64 i11))],
   [(5, dBox d)] :: apF key' 7 (rows ++ List.replicate k (stepRow d true pb)) [(1, g)] :: H, 42⟩) →
  WPL KC needT 134 (lp Try.f134 1) [3, 5, 6, 7, 9, 10, 11, 20, 21] [3, 5, 6, 9, 10, 11] Q
   [(3, apS (H.length, key) 7 rows), (5, .bptr (H.length + 1, 5) 0), (6, .pure (.int .i64 N)), (7, .pure (.bool pb)), (9, .pure (.slice dsR)), (10, .pure (.int .i64 i10)), (11, .pure (.int .i64 i11)), (20, .pure (.int .i64 N)), (21, .pure (.int .i64 j))]
   ([(5, dBox d)] :: apF key 7 rows [(1, g)] :: H) 42 := by
 intro k
 induction k with
 | zero =>
  intro j rows key hj h0 hr hk h1
  have hia : ¬ j < N := by omega
  have h1' := h1 key hk
  simp only [List.replicate_zero, List.append_nil] at h1'
  apply WPL_step
  conv => arg 4; whnf
  simp [hia, hH]
  exact h1'
 | succ k ih =>
  intro j rows key hj h0 hr hk h1
  have hia : j < N := by omega
  have hwr := w64 (x := j + 1) (by omega) (by omega)
  have hkt : key < tyBase := Nat.lt_of_le_of_lt (show key ≤ 39 by omega) (by decide)
  have k1 : ¬ key = 1 := by omega
  have ih' := ih (j + 1) (rows ++ [stepRow d true pb]) (nk rows 28 key) (by omega) (by omega) (by simp; omega) (by unfold nk; split; exact .inl rfl; exact hk) (fun key' hk' => by
   rw [List.append_assoc, List.singleton_append, ← List.replicate_succ]; exact h1 key' hk')
  clear ih h1
  have AP := fun (f0 f1 : Fr) => apN_2 (H := H) (l := H.length) (d := 28) (key := key) (bytes := 48) (es := 7) (rows := rows) (r := stepRow d true pb) (f0 := f0) (f1 := f1) (fr := [(1, g)]) rfl (by simp [Fr.get, k1]) (by simp [Fr.get]) (by omega) hkt (by decide)
  obtain ⟨dk, db, dO, dw, dc⟩ := d
  simp only [stepRow, Deal.row, dBox, List.cons_append, List.nil_append] at AP ih' ⊢
  apply WPL_step
  conv => arg 4; whnf
  simp [hia, hH, hwr, AP]
  exact ih'
theorem stepsL_take {ds : List Deal} {i : Nat} (h : i < ds.length) : stepsL (ds.take (i + 1)) = stepsL (ds.take i) ++ stepsD ds[i] := by
 unfold stepsL
 rw [List.take_add_one, List.getElem?_eq_getElem h, List.flatMap_append]
 simp
theorem stepsL_len : ∀ (ds : List Deal), (∀ d ∈ ds, d.count ≤ 12) → (stepsL ds).length ≤ 13 * ds.length
 | [], _ => by simp [stepsL]
 | d :: r, h => by
  have h1 := h d (by simp)
  have h2 := stepsL_len r fun x hx => h x (by simp [hx])
  unfold stepsL at *
  rw [List.flatMap_cons, List.length_append, List.length_cons]
  have : (stepsD d).length ≤ 13 := by
   unfold stepsD; split
   ·simp; omega
   ·simp
  omega
end
section
variable {c : Nat} {H : Heap}
theorem steps_loop (ds : List Deal) (hds : ds.length ≤ 24) (hDR : ∀ d ∈ ds, DR d) (hdc : ∀ d ∈ ds, drawsB d = true → 1 ≤ d.count) (g : Blk) (Q : GX → GSt → Prop) (hH : 0 < H.length) : ∀ (k i : Nat) (key : Nat), i + k = ds.length → key = 28 ∨ key = 39 →
  (∀ key', key' = 28 ∨ key' = 39 → Q (.exit 0) ⟨[(3, apS (H.length, key') 7 (stepsL ds))], apF key' 7 (stepsL ds) [(1, g)] :: H, 42⟩) →
  WPL KC needT 134 (lp Try.f134 0) [3, 9, 10, 11] [3] Q [(3, apS (H.length, key) 7 (stepsL (ds.take i))), (9, .pure (.slice (ds.map Deal.row))), (10, .pure (.int .i64 ds.length)), (11, .pure (.int .i64 i))]
   (apF key 7 (stepsL (ds.take i)) [(1, g)] :: H) 42 := by
 intro k
 induction k with
 | zero =>
  intro i key hi hk h1
  have hia : ¬ i < ds.length := by omega
  rw [List.take_of_length_le (by omega)]
  have h1' := h1 key hk
  apply WPL_step
  conv => arg 4; whnf
  simp [hia, hH]
  exact h1'
 | succ k ih =>
  intro i key hi hk h1
  have hia : i < ds.length := by omega
  have hwr := w64 (x := (i : Int) + 1) (by omega) (by omega)
  have ih' := fun key hk => ih (i + 1) key (by omega) hk h1
  clear ih h1
  rw [stepsL_take hia] at ih'
  have hlen := stepsL_len (ds.take i) fun d hd => (hDR d (List.mem_of_mem_take hd)).c12
  have hlen2 : (stepsL (ds.take i)).length ≤ 400 := by rw [List.length_take] at hlen; omega
  generalize stepsL (ds.take i) = rows at *
  have hd := hDR ds[i] (List.getElem_mem hia)
  have hcnt := hdc ds[i] (List.getElem_mem hia)
  have D := fun c (G : Heap) (hG : 0 < G.length) => draws_ok (c := c) (H := G) (d := ds[i]) hG
  generalize hdd : ds[i] = d at *
  have k1 : ¬ key = 1 := by omega
  by_cases g4 : drawsB d = true
  ·have hc := hcnt g4
   have hc12 := hd.c12
   have es : stepsD d = List.replicate d.count.toNat (stepRow d true (d.kind == 5)) := by unfold stepsD; rw [if_pos g4]
   rw [es] at ih'
   rw [if_pos g4] at D
   have L := fun Q hq => steps_in d (d.kind == 5) i ds.length (ds.map Deal.row) g d.count hc12 Q hH d.count.toNat 0 rows key (by omega) (by omega) (by omega) hk hq
   have hn0 : ¬ d.count = 0 := by omega
   clear hd hcnt
   obtain ⟨dk, db, dO, dw, dc⟩ := d
   unfold dBox at L
   simp only [Deal.row] at D
   simp only at L hn0
   apply WPL_step
   conv => arg 4; whnf
   simp [hia, hH, hdd, Deal.row, D]
   refine L _ (fun key' hk' => ?_)
   have ih2 := ih' key' hk'
   simp [hn0, hwr]
   simpa using ih2
  ·have es : stepsD d = [stepRow d false (d.kind == 6)] := by unfold stepsD; rw [if_neg g4]
   have hk5 : (d.kind == 5) = false := by unfold drawsB at g4; simp at g4; simp [g4.2]
   rw [es] at ih'
   rw [if_neg g4, hk5] at D
   have L := fun Q hq => steps_in d false i ds.length (ds.map Deal.row) g 0 (by omega) Q hH 0 0 rows key (by omega) (by omega) (by omega) hk hq
   have k1' : ∀ key' : Nat, key' = 28 ∨ key' = 39 → ¬ key' = 1 := fun key' h => by omega
   have ih2 := fun key' (hk' : key' = 28 ∨ key' = 39) => ih' (nk rows 39 key') (by unfold nk; split; exact .inr rfl; exact hk')
   have AP := fun (key' : Nat) (hk' : key' = 28 ∨ key' = 39) (f0 : Fr) => apN_1 (H := H) (l := H.length) (d := 39) (key := key') (bytes := 48) (es := 7) (rows := rows) (r := stepRow d false (d.kind == 6)) (f0 := f0) (fr := [(1, g)]) rfl (by simp [Fr.get, k1' key' hk']) (by simp [Fr.get]) (by omega) (Nat.lt_of_le_of_lt (show key' ≤ 39 by omega) (by decide)) (by decide)
   clear hd hcnt ih'
   obtain ⟨dk, db, dO, dw, dc⟩ := d
   unfold dBox at L
   simp only [Deal.row] at D
   simp only [stepRow, Deal.row, List.cons_append, List.nil_append] at L AP ih2
   apply WPL_step
   conv => arg 4; whnf
   simp [hia, hH, hdd, Deal.row, D]
   refine L _ (fun key' hk' => ?_)
   have ih3 := ih2 key' hk'
   have AP1 := AP key' hk'
   simp [hwr, AP1]
   simpa using ih3
def stepsT (ds : List Deal) : List (Deal × Bool × Bool) := ds.flatMap fun d => if drawsB d = true then List.replicate d.count.toNat (d, true, d.kind == 5) else [(d, false, d.kind == 6)]
def stR (s : Deal × Bool × Bool) : List PV := stepRow s.1 s.2.1 s.2.2
theorem stepsL_T (ds : List Deal) : stepsL ds = (stepsT ds).map stR := by
 unfold stepsL stepsT
 rw [List.map_flatMap]
 congr 1
 funext d
 unfold stepsD
 split <;> simp [stR]
def cenN (l : List (Deal × Bool × Bool)) : Nat := l.countP fun s => s.2.2
theorem cenN_steps (ds : List Deal) : cenN (stepsT ds) = (ds.map censD).sum := by
 unfold cenN stepsT
 rw [List.countP_flatMap]
 congr 1
 apply List.map_congr_left
 intro d _
 simp only [Function.comp_apply]
 unfold censD
 by_cases h : drawsB d = true
 ·rw [if_pos h]
  unfold drawsB at h
  simp only [Bool.or_eq_true, beq_iff_eq] at h
  rw [if_neg (by omega), List.countP_replicate]
  by_cases k5 : d.kind = 5
  ·simp [k5]
  ·simp [k5]
 ·rw [if_neg h]
  unfold drawsB at h
  simp at h
  by_cases k6 : d.kind = 6
  ·simp [k6]
  ·simp [k6, h.2]
theorem stepsT_len (ds : List Deal) (h : ∀ d ∈ ds, d.count ≤ 12) : (stepsT ds).length ≤ 13 * ds.length := by
 have := stepsL_len ds h
 rw [stepsL_T, List.length_map] at this
 exact this
theorem steps_ok {ws : List (List PV)} {ds : List Deal} (hds : ds.length ≤ 24) (hDR : ∀ d ∈ ds, DR d) (hdc : ∀ d ∈ ds, drawsB d = true → 1 ≤ d.count) (hH : 0 < H.length) :
  gcall KC (geval KC) 134 [.pure (.agg [.slice ws, .slice (ds.map Deal.row)])] c H = some (.pure (.slice ((stepsT ds).map stR)), H) := by
 refine WPv_eq (call_enter KC needT Try.func134 rfl rfl good134 rfl rfl rfl (by simp) hH ?_)
 have hl := stepsL_len ds fun d hd => (hDR d hd).c12
 have L := fun g Q hq => steps_loop ds hds hDR hdc g Q hH ds.length 0 28 (by omega) (.inl rfl) hq
 rw [← stepsL_T]
 simp [stepsL, apS_nil, apF_nil] at L
 simp
 unfold stepsL at hl ⊢
 generalize List.flatMap stepsD ds = rows at *
 refine L _ _ ?_ ?_
 all_goals
  simp [gleave_free]
  exact cc_apS rfl (by omega)
theorem cens_loop (l : List (Deal × Bool × Bool)) (hl : l.length ≤ 1000) (g : Blk) (Q : GX → GSt → Prop) (hH : 0 < H.length) : ∀ (k i : Nat) (n : Nat), i + k = l.length → n ≤ i →
  (Q (.exit 0) ⟨[(3, .pure (.int .i64 ((n + cenN (l.drop i) : Nat) : Int)))], [(1, g)] :: H, 19⟩) →
  WPL KC needT 100 (lp Try.f100 0) [3, 7, 8, 9] [3] Q [(3, .pure (.int .i64 (n : Int))), (7, .pure (.slice (l.map stR))), (8, .pure (.int .i64 l.length)), (9, .pure (.int .i64 i))]
   ([(1, g)] :: H) 19 := by
 intro k
 induction k with
 | zero =>
  intro i n hi hn h1
  have hia : ¬ i < l.length := by omega
  rw [List.drop_eq_nil_of_le (by omega)] at h1
  simp only [cenN, List.countP_nil, Nat.add_zero] at h1
  apply WPL_step
  conv => arg 4; whnf
  simp [hia, hH]
  exact h1
 | succ k ih =>
  intro i n hi hn h1
  have hia : i < l.length := by omega
  have hwr := w64 (x := (i : Int) + 1) (by omega) (by omega)
  have hwn := w64 (x := (n : Int) + 1) (by omega) (by omega)
  rw [List.drop_eq_getElem_cons hia] at h1
  unfold cenN at h1
  rw [List.countP_cons] at h1
  have ih' := fun (n' : Nat) (hn' : n' ≤ i + 1) (e : n' = n + (if l[i].2.2 = true then 1 else 0)) => ih (i + 1) n' (by omega) hn' (by
   have : n' + cenN (l.drop (i + 1)) = n + (List.countP (fun s => s.2.2) (l.drop (i + 1)) + if l[i].2.2 = true then 1 else 0) := by rw [e]; unfold cenN; omega
   rw [this]; exact h1)
  clear ih h1
  generalize hs : l[i] = s at *
  obtain ⟨d, a, b⟩ := s
  obtain ⟨dk, db, dO, dw, dc⟩ := d
  simp only at ih'
  apply WPL_step
  conv => arg 4; whnf
  cases b with
  | true =>
   have ih2 := ih' (n + 1) (by omega) (by simp)
   simp [hia, hH, hs, stR, stepRow, Deal.row, hwr, hwn]
   simpa using ih2
  | false =>
   have ih2 := ih' n (by omega) (by simp)
   simp [hia, hH, hs, stR, stepRow, Deal.row, hwr]
   simpa using ih2
theorem censers_ok {ws : List (List PV)} {ds : List Deal} (hds : ds.length ≤ 24) (hDR : ∀ d ∈ ds, DR d) (hdc : ∀ d ∈ ds, drawsB d = true → 1 ≤ d.count) (hH : 0 < H.length) :
  gcall KC (geval KC) 100 [.pure (.agg [.slice ws, .slice (ds.map Deal.row)])] c H = some (.pure (.int .i64 ((ds.map censD).sum : Nat)), H) := by
 refine WPv_eq (call_enter KC needT Try.func100 rfl rfl good100 rfl rfl rfl (by simp) hH ?_)
 have S := fun c (G : Heap) (hG : 0 < G.length) => steps_ok (c := c) (H := G) (ws := ws) hds hDR hdc hG
 have hl := stepsT_len ds fun d hd => (hDR d hd).c12
 have L := fun g Q hq => cens_loop (stepsT ds) (by omega) g Q hH (stepsT ds).length 0 0 (by omega) (by omega) hq
 rw [List.drop_zero, Nat.zero_add, cenN_steps] at L
 generalize stepsT ds = l at *
 simp at L
 simp [S]
 refine L _ _ ?_
 simp [gleave_free]
end
theorem runC_snoc (k : Chk) (ds : List Deal) (d : Deal) : runC k (ds ++ [d]) = stepC (runC k ds) d := by simp [runC]
theorem okAll_snoc : ∀ {ds : List Deal} {k : Chk} {d : Deal}, okAll k ds → wfD d → okD (runC k ds) d → okAll k (ds ++ [d])
 | [], k, d, _, h2, h3 => ⟨h2, h3, trivial⟩
 | x :: r, k, d, h1, h2, h3 => ⟨h1.1, h1.2.1, okAll_snoc (ds := r) (k := stepC k x) h1.2.2 h2 h3⟩
theorem stepC_woods (k : Chk) (d : Deal) : (stepC k d).woods = k.woods := by
 unfold stepC; repeat' split
 all_goals rfl
theorem runC_woods : ∀ (ds : List Deal) (k : Chk), (runC k ds).woods = k.woods
 | [], _ => rfl
 | d :: r, k => by
  have := runC_woods r (stepC k d)
  rw [stepC_woods] at this
  exact this
theorem okD_DR {k : Chk} {d : Deal} (hk : KOk k) (hw : wfD d) (ho : okD k d) : DR d := by
 have h6 := hk.w6
 have hm := hk.small
 obtain ⟨dk, db, dO, dw, dc⟩ := d
 unfold wfD at hw
 unfold okD at ho
 simp only at hw ho
 rcases ho with ⟨rfl, h1, h2, h3⟩ | ⟨rfl, h1, h2, h3, h4, h5, h6', h7⟩ | ⟨rfl, h1, h2, h3, h4, h5⟩ | ⟨rfl, h1, h2, h3, h4, h5⟩ | ⟨rfl, h1, h2, h3, h4, h5, h6'⟩ | ⟨rfl, h1, h2, h3⟩
 all_goals
  simp at hw
  constructor <;> simp <;> omega
theorem okAll_DR : ∀ {ds : List Deal} {k : Chk}, KOk k → okAll k ds → ∀ d ∈ ds, DR d ∧ (drawsB d = true → 1 ≤ d.count)
 | [], _, _, _, d, h => by simp at h
 | x :: r, k, hk, ho, d, h => by
  rcases List.mem_cons.1 h with rfl | h
  ·refine ⟨okD_DR hk ho.1 ho.2.1, fun hb => ?_⟩
   have := ho.2.1
   unfold okD at this
   unfold drawsB at hb
   simp at hb
   omega
  ·exact okAll_DR (ds := r) (k := stepC k x) (hk.step ho.2.1) ho.2.2 d h
theorem set_getD_self {s : List Int} {b : Nat} : s.set b (s.getD b 0) = s := by
 apply List.ext_getElem?
 intro i
 rw [List.getElem?_set]
 by_cases h : b = i
 ·subst h
  rw [if_pos rfl]
  by_cases hb : b < s.length
  ·rw [if_pos hb, List.getD_eq_getElem?_getD, List.getElem?_eq_getElem hb]; rfl
  ·rw [if_neg hb, List.getElem?_eq_none (by omega)]
 ·rw [if_neg h]
theorem SI.of_K {k : Chk} (h : KOk k) : SI k.bags := ⟨h.b4, h.bx, by have := h.sum; have := h.m12; omega⟩
theorem SI.draw {s : List Int} (h : SI s) {b : Nat} (hb : b < 4) (h1 : 1 ≤ s.getD b 0) : SI (s.set b (s.getD b 0 - 1)) := by
 refine ⟨by simp [h.len], mem_set_nn h.nn (by omega), ?_⟩
 rw [sum_set (by rw [h.len]; exact hb)]
 have := h.sum
 omega
theorem okA_draws {nw : Nat} {d1 : Deal} (hd : DR d1) (hdb : drawsB d1 = true) (rest : List Deal) : ∀ (n : Nat) (s : List Int), SI s → (n : Int) ≤ s.getD d1.bag.toNat 0 →
  okA nw (s.set d1.bag.toNat (s.getD d1.bag.toNat 0 - n)) rest → okA nw s (List.replicate n d1 ++ rest)
 | 0, s, hs, hn, hr => by
  have e : s.getD d1.bag.toNat 0 - ((0 : Nat) : Int) = s.getD d1.bag.toNat 0 := by omega
  rw [e, set_getD_self] at hr
  simpa using hr
 | n + 1, s, hs, hn, hr => by
  have hb4 : d1.bag.toNat < 4 := by have := hd.b0; have := hd.b3; omega
  have e : stepS s d1 = s.set d1.bag.toNat (s.getD d1.bag.toNat 0 - 1) := by unfold stepS drawS; rw [if_pos hdb]
  have hs2 := hs.draw hb4 (by omega)
  have hg : (s.set d1.bag.toNat (s.getD d1.bag.toNat 0 - 1)).getD d1.bag.toNat 0 = s.getD d1.bag.toNat 0 - 1 := by rw [set4 hs.len hb4, if_pos rfl]
  rw [List.replicate_succ, List.cons_append, okA, e]
  refine ⟨hs2, hd, fun _ => by omega, fun h => ?_, okA_draws hd hdb rest n _ hs2 (by rw [hg]; omega) ?_⟩
  ·unfold drawsB at hdb
   simp at hdb
   omega
  ·rw [hg, List.set_set]
   rw [show s.getD d1.bag.toNat 0 - 1 - (n : Int) = s.getD d1.bag.toNat 0 - ((n + 1 : Nat) : Int) by omega]
   exact hr
theorem DR.one {d : Deal} (h : DR d) : DR { d with count := 1 } := ⟨h.b0, h.b3, h.o0, h.o3, h.w0, h.w5, by simp, by simp, h.ne⟩
theorem acts_okA : ∀ {ds : List Deal} {k : Chk}, KOk k → okAll k ds → okA k.woods.toNat k.bags (actsL ds)
 | [], k, _, _ => trivial
 | d :: r, k, hk, ho => by
  have hk2 := hk.step ho.2.1
  have ih := acts_okA (ds := r) hk2 ho.2.2
  rw [stepC_woods] at ih
  have hd := okD_DR hk ho.1 ho.2.1
  have hoD := ho.2.1
  have hb4 : d.bag.toNat < 4 := by have := hd.b0; have := hd.b3; omega
  rw [actsL_cons]
  by_cases g : drawsB d = true
  ·have hg := g
   unfold drawsB at hg
   simp at hg
   have hcnt : 1 ≤ d.count ∧ d.count ≤ k.bags.getD d.bag.toNat 0 := by
    unfold okD at hoD
    omega
   have eb : (stepC k d).bags = k.bags.set d.bag.toNat (k.bags.getD d.bag.toNat 0 - (d.count.toNat : Nat)) := by
    have e : ((d.count.toNat : Nat) : Int) = d.count := by omega
    unfold stepC
    rw [e]
    rcases hg with e4 | e5
    ·rw [if_neg (by omega), if_neg (by omega), if_neg (by omega), if_pos e4]
    ·rw [if_neg (by omega), if_neg (by omega), if_neg (by omega), if_neg (by omega), if_pos e5]
   have ea : actsD d = List.replicate d.count.toNat { d with count := 1 } := by unfold actsD; rw [if_pos g]
   rw [eb] at ih
   rw [ea]
   exact okA_draws hd.one g (actsL r) d.count.toNat k.bags (SI.of_K hk) (by simp only; omega) ih
  ·have hg := g
   unfold drawsB at hg
   simp at hg
   have ea : actsD d = [d] := by unfold actsD; rw [if_neg g]
   have eb : stepS k.bags d = (stepC k d).bags := by
    unfold stepS readyS stepC
    rw [if_neg g]
    unfold okD at hoD
    by_cases k2 : d.kind = 2
    ·rw [if_pos k2, if_neg (by omega), if_pos k2]
    ·by_cases k3 : d.kind = 3
     ·rw [if_neg k2, if_pos k3, if_neg (by omega), if_neg k2, if_pos k3]
     ·rw [if_neg k2, if_neg k3]
      by_cases k1 : d.kind = 1
      ·rw [if_pos k1]
      ·rw [if_neg k1, if_neg k2, if_neg k3, if_neg hg.1, if_neg hg.2]
   rw [ea]
   refine ⟨?_, hd, fun h => absurd h g, fun h => ?_, ?_⟩
   ·rw [eb]; exact SI.of_K hk2
   ·have := hk.w0
    unfold okD at hoD
    omega
   ·rw [eb]; exact ih
theorem censC : ∀ {ds : List Deal} {k : Chk}, KOk k → okAll k ds → (runC k ds).censers = k.censers + ((ds.map censD).sum : Nat)
 | [], k, _, _ => by simp [runC]
 | d :: r, k, hk, ho => by
  have ih := censC (ds := r) (hk.step ho.2.1) ho.2.2
  have hoD := ho.2.1
  have e : (stepC k d).censers = k.censers + (censD d : Nat) := by
   unfold stepC censD
   unfold okD at hoD
   by_cases k1 : d.kind = 1
   ·rw [if_pos k1, if_neg (by omega), if_neg (by omega)]; simp
   ·rw [if_neg k1]
    by_cases k2 : d.kind = 2
    ·rw [if_pos k2, if_neg (by omega), if_neg (by omega)]; simp
    ·rw [if_neg k2]
     by_cases k3 : d.kind = 3
     ·rw [if_pos k3, if_neg (by omega), if_neg (by omega)]; simp
     ·rw [if_neg k3]
      by_cases k4 : d.kind = 4
      ·rw [if_pos k4, if_neg (by omega), if_neg (by omega)]; simp
      ·rw [if_neg k4]
       by_cases k5 : d.kind = 5
       ·rw [if_pos k5, if_neg (by omega), if_pos k5]
        simp only
        omega
       ·have k6 : d.kind = 6 := by omega
        rw [if_neg k5, if_pos k6]; simp
  show (runC (stepC k d) r).censers = _
  rw [ih, e, List.map_cons, List.sum_cons]
  omega
theorem GOk.DR {ws : List Wood} {ds : List Deal} (h : GOk ws ds) : ∀ d ∈ ds, Gh.DR d := fun d hd => (okAll_DR (k0_ok h.w.ne h.w.le) h.d d hd).1
theorem GOk.cnt {ws : List Wood} {ds : List Deal} (h : GOk ws ds) : ∀ d ∈ ds, drawsB d = true → 1 ≤ d.count := fun d hd => (okAll_DR (k0_ok h.w.ne h.w.le) h.d d hd).2
theorem GOk.acts {ws : List Wood} {ds : List Deal} (h : GOk ws ds) : okA ws.length [0, 0, 0, 0] (actsL ds) := by
 have := acts_okA (k0_ok h.w.ne h.w.le) h.d
 simpa [k0] using this
theorem GOk.cens {ws : List Wood} {ds : List Deal} (h : GOk ws ds) : 1 ≤ (ds.map censD).sum ∧ (ds.map censD).sum ≤ 9 := by
 have h1 := censC (k0_ok h.w.ne h.w.le) h.d
 have h2 := h.c
 have h3 := ((k0_ok h.w.ne h.w.le).run h.d).c9
 rw [h1] at h2 h3
 simp [k0] at h2 h3
 omega
section
variable {c : Nat} {H : Heap}
def ofT (l : List Int) : List PV := if l.length = 0 then [.slice [], .int .i64 6] else if 9 < l.length then [.slice [], .int .i64 8] else [.slice ((numL l []).map irow), .int .i64 0]
theorem Of_ok (l : List Int) (hn : l.length ≤ 1000000) (hH : 0 < H.length) : gcall KC (geval KC) 45 [.pure (.slice (l.map irow))] c H = some (.pure (.tuple (ofT l)), H) := by
 refine WPv_eq (call_enter KC needT Try.func45 rfl rfl good45 rfl rfl rfl (by simp) hH ?_)
 have N := fun c (H : Heap) (hH : 0 < H.length) => number_ok (c := c) (H := H) l hn hH
 unfold ofT
 by_cases h : l.length = 0
 ·have h3 : l = [] := List.length_eq_zero_iff.1 h
  subst h3
  simp [gleave_free]
 ·have h2 : ((l.length : Int) == 0) = false := by simp; exact fun e => h (by rw [e]; rfl)
  have h0 : ¬ l = [] := fun e => h (by rw [e]; rfl)
  by_cases h3 : 9 < l.length
  ·have h4 : (9 : Int) < l.length := by omega
   simp [h, h0, h2, h3, h4, gleave_free]
  ·have h4 : ¬ (9 : Int) < l.length := by omega
   simp [h, h0, h2, h3, h4, N, gleave_free]
def hasB (a : List Int) (i : Nat) : Bool := decide (0 ≤ a.getD i 0)
def eqB (l : List Int) (i k : Nat) : Bool := l.getD i 0 == l.getD k 0
def prB (t a : List Int) (i k : Nat) : Bool := eqB a i k == eqB t i k
def pairB (t a : List Int) (i k : Nat) : Bool := hasB a i && hasB a k && prB t a i k
theorem has_ok (t a : List Int) (i : Nat) (h : i < a.length) (hH : 0 < H.length) : gcall KC (geval KC) 109 [.pure (.agg [.slice (t.map irow), .slice (a.map irow)]), .pure (.int .i64 i)] c H = some (.pure (.bool (hasB a i)), H) := by
 refine WPv_eq (call_enter KC needT Try.func109 rfl rfl good109 rfl rfl rfl (by simp) hH ?_)
 have e : hasB a i = decide (0 ≤ a[i]) := by unfold hasB; rw [getD_lt h]
 simp [h, irow, gleave_free, e]
theorem sright_ok (t a : List Int) (i k : Nat) (h : i < a.length) (h2 : k < a.length) (h3 : i < t.length) (h4 : k < t.length) (hH : 0 < H.length) : gcall KC (geval KC) 110 [.pure (.agg [.slice (t.map irow), .slice (a.map irow)]), .pure (.int .i64 i), .pure (.int .i64 k)] c H = some (.pure (.bool (prB t a i k)), H) := by
 refine WPv_eq (call_enter KC needT Try.func110 rfl rfl good110 rfl rfl rfl (by simp) hH ?_)
 have e : prB t a i k = ((a[i] == a[k]) == (t[i] == t[k])) := by unfold prB eqB; rw [getD_lt h, getD_lt h2, getD_lt h3, getD_lt h4]
 simp [h, h2, h3, h4, irow, gleave_free, e]
def badB (t a : List Int) (i k : Nat) : Bool := hasB a k && !pairB t a i k
def anyB (p : Nat → Bool) : Nat → Nat → Bool
 | 0, _ => false
 | k + 1, i => p i || anyB p k (i + 1)
theorem anyB_iff (p : Nat → Bool) : ∀ (k i : Nat), anyB p k i = true ↔ ∃ j, i ≤ j ∧ j < i + k ∧ p j = true
 | 0, i => by simp [anyB]; omega
 | k + 1, i => by
  simp only [anyB, Bool.or_eq_true, anyB_iff p k (i + 1)]
  constructor
  ·rintro (h | ⟨j, a, b, d⟩)
   ·exact ⟨i, by omega, by omega, h⟩
   ·exact ⟨j, by omega, by omega, d⟩
  ·rintro ⟨j, a, b, d⟩
   by_cases e : j = i
   ·subst e; exact .inl d
   ·exact .inr ⟨j, by omega, by omega, d⟩
def rightB (t a : List Int) (i : Nat) : Bool := if anyB (badB t a i) i 0 = true then false else hasB a i
def nearB (t a : List Int) (i k : Nat) : Bool := !(k == i) && (eqB t k i || (hasB a i && eqB a i k))
def heardB (t a : List Int) (i : Nat) : Bool := if anyB (nearB t a i) t.length 0 = true then false else hasB a i
end
section
variable {c : Nat} {H : Heap}
theorem idxN_loop (l : List Int) (hn : l.length ≤ 1000000) (g : GV) (hg : ∀ x ∈ l, ∀ (c : Nat) (f0 : Fr), gcallee KC (geval KC) g [.pure (.int .i64 x)] c (f0 :: H) = some (.pure (.bool false), f0 :: H))
  (hcl : ∀ f0 : Fr, clean (f0 :: H) (H.length - 1) g = g) (Q : GX → GSt → Prop) (hH : 0 < H.length) : ∀ k i : Nat, i + k = l.length →
  Q (.exit 0) ⟨[(4, gdead)], H, 19⟩ →
  WPL KC needT 135 (lp Try.f135 0) [0, 1, 7, 8] [4] Q [(0, .pure (.slice (l.map irow))), (1, g), (7, .pure (.int .i64 l.length)), (8, .pure (.int .i64 i))] H 19 := by
 intro k
 induction k with
 | zero =>
  intro i hi h1
  have hia : ¬ i < l.length := by omega
  apply WPL_step
  conv => arg 4; whnf
  simp [hia, hH]
  exact h1
 | succ k ih =>
  intro i hi h1
  have hia : i < l.length := by omega
  have hw := w64 (x := (i : Int) + 1) (by omega) (by omega)
  have ih' := ih (i + 1) (by omega) h1
  have hg' := hg l[i] (List.getElem_mem hia)
  apply WPL_step
  conv => arg 4; whnf
  simp [hia, hH, irow, hg', hw, hcl]
  simpa [irow] using ih'
theorem indexN_ok (l : List Int) (hn : l.length ≤ 1000000) (g : GV) (hcan : canon g = g) (hfz : ∀ H, frzVal H g = (g, H)) (hg : ∀ x ∈ l, ∀ (c : Nat) (f0 fr : Fr), gcallee KC (geval KC) g [.pure (.int .i64 x)] c (f0 :: fr :: H) = some (.pure (.bool false), f0 :: fr :: H))
  (hcl : ∀ f0 fr : Fr, clean (f0 :: fr :: H) (H.length) g = g) (hH : 0 < H.length) :
  gcall KC (geval KC) 135 [.pure (.slice (l.map irow)), g] c H = some (.pure (.int .i64 (-1)), H) := by
 refine WPv_eq (call_enter KC needT Try.func135 rfl rfl good135 (by simp [frzVals, hfz]) rfl rfl (by simp) hH ?_)
 simp [hcan]
 refine idxN_loop (H := [] :: H) l hn g (fun x hx c fr => hg x hx c fr []) (fun fr => by simpa using hcl fr []) _ (by simp) l.length 0 (by omega) ?_
 simp [gleave_free]
theorem containsN_ok (l : List Int) (hn : l.length ≤ 1000000) (g : GV) (hcan : canon g = g) (hfz : ∀ H, frzVal H g = (g, H)) (hg : ∀ x ∈ l, ∀ (c : Nat) (f0 f1 fr : Fr), gcallee KC (geval KC) g [.pure (.int .i64 x)] c (f0 :: f1 :: fr :: H) = some (.pure (.bool false), f0 :: f1 :: fr :: H))
  (hcl : ∀ f0 f1 fr : Fr, clean (f0 :: f1 :: fr :: H) (H.length + 1) g = g) (hH : 0 < H.length) :
  gcall KC (geval KC) 101 [.pure (.slice (l.map irow)), g] c H = some (.pure (.bool false), H) := by
 refine WPv_eq (call_enter KC needT Try.func101 rfl rfl good101 (by simp [frzVals, hfz]) rfl rfl (by simp) hH ?_)
 have I := fun c (fr : Fr) => indexN_ok (c := c) (H := fr :: H) l hn g hcan hfz (fun x hx c f0 f1 => hg x hx c f0 f1 fr) (fun f0 f1 => by simpa using hcl f0 f1 fr) (by simp)
 simp [hcan, I, gleave_free]
def gbox (ws : List Wood) (ds : List Deal) : Blk := .box [.pure (.slice (ws.map Wood.row)), .pure (.slice (ds.map Deal.row))]
theorem out_ok {ws : List Wood} {ds : List Deal} (hw : ws.length ≤ 6) {x : Int} (h0 : 0 ≤ x) (h1 : x < ws.length) {nm : Nm} (hg : H.get nm = some (gbox ws ds)) :
  gcall KC (geval KC) 102 [.pure (.int .i64 x), .bptr nm 0] c H = some (.pure (.bool false), H) := by
 have hl : nm.1 < H.length := Heap.get_lt hg
 have hne : ¬ nm.1 = H.length := by omega
 refine WPv_eq (call_enter KC needT Try.func102 rfl rfl good102 rfl rfl rfl (by simp) (by omega) ?_)
 have I := fun c (G : Heap) (hG : 0 < G.length) => in_ok (c := c) (H := G) (x := x) (lo := 0) (hi := ws.length - 1) hG
 have hb : inB x 0 (ws.length - 1) = true := by rw [inB_iff]; omega
 rw [hb] at I
 have hww := w64 (x := (ws.length : Int) - 1) (by omega) (by omega)
 unfold gbox at hg
 simp [hg, hne, hww, I, gleave_free]
theorem course_ok {ws : List Wood} {ds : List Deal} (h : GOk ws ds) {cs : List Int} (hc : lowL ws.length cs) (hl : cs.length = (ds.map censD).sum) (hH : 0 < H.length) :
  gcall KC (geval KC) 64 [.pure (.agg [.slice (ws.map Wood.row), .slice (ds.map Deal.row)]), .pure (.slice (cs.map irow))] c H = some (.pure (.int .i64 0), H) := by
 refine WPv_eq (call_enter KC needT Try.func64 rfl rfl good64 rfl rfl rfl (by simp) hH ?_)
 have C := fun c (G : Heap) (hG : 0 < G.length) => censers_ok (c := c) (H := G) (ws := ws.map Wood.row) h.l h.DR h.cnt hG
 have h9 := h.cens
 rw [← hl] at C h9
 have N := fun c => containsN_ok (c := c) (H := [(2, gbox ws ds)] :: H) cs (by omega) (.func 102 [] [.bptr (H.length, 2) 0]) rfl (fun _ => rfl) (fun x hx c f0 f1 fr => by
  rw [gcallee_func]
  have := hc x hx
  exact out_ok (ds := ds) h.w.le this.1 this.2 (by simp)) (fun f0 f1 fr => by simp) (by simp)
 unfold gbox at N
 try simp at N
 simp [C, N, gleave_free]
theorem askSame_ok {ws : List Wood} {ds : List Deal} (hH : 0 < H.length) :
  gcall KC (geval KC) 63 [.pure (.agg [.slice (ws.map Wood.row), .slice (ds.map Deal.row)]), .pure (.agg [.int .i64 1, .int .i64 0])] c H = some (.pure (.int .i64 0), H) := by
 refine WPv_eq (call_enter KC needT Try.func63 rfl rfl good63 rfl rfl rfl (by simp) hH ?_)
 have I := fun c (G : Heap) (hG : 0 < G.length) => in_ok (c := c) (H := G) (x := 1) (lo := 1) (hi := 6) hG
 have hb : inB 1 1 6 = true := rfl
 rw [hb] at I
 simp [I, gleave_free]
theorem dueS_ok {ws : List Wood} {ds : List Deal} {cs : List Int} (hn : cs.length ≤ 9) (h1 : 1 ≤ cs.length) (hH : 0 < H.length) :
  gcall KC (geval KC) 65 [.pure (.agg [.slice (ws.map Wood.row), .slice (ds.map Deal.row)]), .pure (.agg [.int .i64 1, .int .i64 0]), .pure (.slice (cs.map irow))] c H = some (.pure (.slice ((numL cs []).map irow)), H) := by
 refine WPv_eq (call_enter KC needT Try.func65 rfl rfl good65 rfl rfl rfl (by simp) hH ?_)
 have O := fun c (G : Heap) (hG : 0 < G.length) => Of_ok (c := c) (H := G) cs (by omega) hG
 have e : ofT cs = [.slice ((numL cs []).map irow), .int .i64 0] := by unfold ofT; rw [if_neg (by omega), if_neg (by omega)]
 rw [e] at O
 simp [O, gleave_free]
theorem Due_ok {ws : List Wood} {ds : List Deal} (h : GOk ws ds) {cs : List Int} (hc : lowL ws.length cs) (hl : cs.length = (ds.map censD).sum) (hH : 0 < H.length) :
  gcall KC (geval KC) 19 [.pure (.agg [.slice (ws.map Wood.row), .slice (ds.map Deal.row)]), .pure (.agg [.int .i64 1, .int .i64 0]), .pure (.slice (cs.map irow))] c H = some (.pure (.tuple [.slice ((numL cs []).map irow), .int .i64 0]), H) := by
 refine WPv_eq (call_enter KC needT Try.func19 rfl rfl good19 rfl rfl rfl (by simp) hH ?_)
 have h9 := h.cens
 have K := fun c (G : Heap) (hG : 0 < G.length) => check_ok (c := c) (H := G) h hG
 have A := fun c (G : Heap) (hG : 0 < G.length) => askSame_ok (c := c) (H := G) (ws := ws) (ds := ds) hG
 have C := fun c (G : Heap) (hG : 0 < G.length) => course_ok (c := c) (H := G) h hc hl hG
 have D := fun c (G : Heap) (hG : 0 < G.length) => dueS_ok (c := c) (H := G) (ws := ws) (ds := ds) (cs := cs) (by omega) (by omega) hG
 simp [K, A, C, D, gleave_free]
end
section
variable {c : Nat} {H : Heap}
@[simp] theorem wrap_1 : IntKind.i64.wrap 1 = 1 := by decide
@[simp] theorem wrap_2 : IntKind.i64.wrap 2 = 2 := by decide
def swapL (l : List Int) (i j : Nat) : List Int := ((l ++ [(i : Int)]).set i ((l ++ [(i : Int)]).getD j 0)).set j i
theorem swapL_len (l : List Int) (i j : Nat) : (swapL l i j).length = l.length + 1 := by simp [swapL]
noncomputable def orderR : Nat → Nat → List Int → Int → List Int × Int
 | 0, _, l, wd => (l, wd)
 | k + 1, i, l, wd => orderR k (i + 1) (swapL l i (upR wd (i + 1 : Nat)).1.toNat) (upR wd (i + 1 : Nat)).2
theorem set_perm (l : List Int) (j : Nat) (hj : j < l.length) (x : Int) : (l.set j x ++ [l[j]]).Perm (l ++ [x]) := by
 have e : l = l.take j ++ l[j] :: l.drop (j + 1) := by rw [← List.drop_eq_getElem_cons hj, List.take_append_drop]
 have e2 : l.set j x = l.take j ++ x :: l.drop (j + 1) := List.set_eq_take_append_cons_drop .. |>.trans (by simp [hj])
 rw [e2]
 conv => rhs; rw [e]
 simp only [List.append_assoc]
 refine List.Perm.append_left _ ?_
 simp only [List.cons_append]
 refine (List.Perm.cons x List.perm_append_comm).trans ?_
 simp only [List.singleton_append]
 refine (List.Perm.swap ..).trans ?_
 refine List.Perm.cons _ ?_
 exact (List.perm_append_comm (l₁ := [x]) (l₂ := l.drop (j + 1)))
theorem swapL_perm (l : List Int) (i j : Nat) (hl : l.length = i) (hj : j ≤ i) : (swapL l i j).Perm (l ++ [(i : Int)]) := by
 subst hl
 unfold swapL
 by_cases e : j = l.length
 ·subst e; simp
 ·have hj' : j < l.length := by omega
  have h1 : (l ++ [(l.length : Int)]).getD j 0 = l[j] := by simp [List.getD_eq_getElem?_getD, List.getElem?_append_left hj', hj']
  rw [h1]
  have h2 : (l ++ [(l.length : Int)]).set l.length l[j] = l ++ [l[j]] := by simp
  rw [h2]
  have h3 : (l ++ [l[j]]).set j (l.length : Int) = l.set j l.length ++ [l[j]] := by rw [List.set_append_left _ _ hj']
  rw [h3]
  exact set_perm l j hj' _
theorem orderR_perm : ∀ (k i : Nat) (l : List Int) (wd : Int), l.Perm ((List.range i).map Int.ofNat) → i + k ≤ 1000000 → (orderR k i l wd).1.Perm ((List.range (i + k)).map Int.ofNat)
 | 0, i, l, wd, h, _ => by simpa [orderR] using h
 | k + 1, i, l, wd, h, hk => by
  have hr := upR_rng wd ((i + 1 : Nat) : Int) (by omega)
  have hl : l.length = i := by simpa using h.length_eq
  have e : i + (k + 1) = i + 1 + k := by omega
  rw [orderR, e]
  refine orderR_perm k (i + 1) _ _ ((swapL_perm l i _ hl (by omega)).trans ?_) (by omega)
  rw [List.range_succ, List.map_append]
  exact h.append_right _
def ordF (l : List Int) : Fr := [(20, .arr 1 (l.map irow) l.length false)]
theorem order_loop {nm : Nm} (hlt : nm.1 < H.length) (n : Nat) (hn : n ≤ 1000000) (Q : GX → GSt → Prop) : ∀ (k i : Nat) (l : List Int) (wd : Int), i + k = n → l.length = i → 0 < i →
  Q (.exit 0) ⟨[(5, .hdr (H.length, 20) 1 (orderR k i l wd).1.length 0 (orderR k i l wd).1.length)], ordF (orderR k i l wd).1 :: H.set nm (wbox (orderR k i l wd).2), 36⟩ →
  WPL KC needT 44 (lp Try.f44 0) [0, 1, 5, 6] [5] Q
   [(0, .bptr nm 0), (1, .pure (.int .i64 n)), (5, .hdr (H.length, 20) 1 l.length 0 l.length), (6, .pure (.int .i64 i))] (ordF l :: H.set nm (wbox wd)) 36 := by
 have hB : ∀ w f0 f1, isBox (f0 :: f1 :: H.set nm (wbox w)) nm := fun w f0 f1 => isBox_up (isBox_up (isBox_set' hlt))
 have hne : ¬ nm.1 = H.length := by omega
 have hne2 : ¬ nm.1 = H.length + 1 := by omega
 have hle : nm.1 ≤ H.length := by omega
 intro k
 induction k with
 | zero =>
  intro i l wd hi hl h0 hq
  have : ¬ i < n := by omega
  apply WPL_step
  conv => arg 4; whnf
  simp [ordF, this, Heap.length_set]
  simpa [ordF, orderR] using hq
 | succ k ih =>
  intro i l wd hi hl h0 hq
  have hia : i < n := by omega
  have hw := w64 (x := (i : Int) + 1) (by omega) (by omega)
  have hr := upR_rng wd ((i + 1 : Nat) : Int) (by omega)
  obtain ⟨j, ej⟩ : ∃ j : Nat, (upR wd ((i + 1 : Nat) : Int)).1 = j := ⟨(upR wd ((i + 1 : Nat) : Int)).1.toNat, by omega⟩
  have ih' := ih (i + 1) (swapL l i j) (upR wd ((i + 1 : Nat) : Int)).2 (by omega) (by rw [swapL_len, hl]) (by omega)
  rw [orderR, ej, Int.toNat_natCast] at hq
  have ih'' := ih' hq
  have hji : j < l.length + 1 := by omega
  have ec : ((i + 1 : Nat) : Int) = (i : Int) + 1 := by omega
  rw [ec] at ej ih''
  have hb : (l.length + 1) * 8 ≤ 1099511627776 := by omega
  have hnb : (i : Int) + 1 ≤ 9223372036854775807 := by omega
  have hW : ∀ w f0 f1, wordAt (f0 :: f1 :: H.set nm (wbox w)) nm = w := fun w f0 f1 => by rw [wordAt_up (by simp [Heap.length_set]; omega), wordAt_up (by simpa [Heap.length_set] using hlt), wordAt_set hlt]
  subst hl
  obtain ⟨m, em⟩ : ∃ m, m = l ++ [(l.length : Int)] := ⟨_, rfl⟩
  have hm : m.length = l.length + 1 := by simp [em]
  have ra : List.map irow l ++ [[PV.int .i64 l.length]] = List.map irow m := by simp [em, irow]
  have hjm : j < m.length := by omega
  have him : l.length < m.length := by omega
  have hjI : (j : Int) < (l.length : Int) + 1 := by omega
  have hiI : (l.length : Int) < (l.length : Int) + 1 := by omega
  have gi : m[l.length] = (l.length : Int) := by simp [em]
  have sw : swapL l l.length j = (m.set l.length m[j]).set j l.length := by
   unfold swapL; rw [← em]; simp [List.getD_eq_getElem?_getD, hjm]
  rw [sw] at ih''
  have hgj : ((List.map irow m).set l.length [PV.int .i64 m[j]])[j]'(by simpa using hjm) = [PV.int .i64 m[j]] := by rw [List.getElem_set]; split <;> simp [irow]
  apply WPL_step
  conv => arg 4; whnf
  simp [ordF, hia, hw, Heap.length_set, up_ok, hB, hW, hnb, hlt, hne, hne2, Heap.set_up, ej, hb, hji, hjI, hiI, hle, ra, hm, irow, splice, gi, hgj]
  simpa [ordF, irow, hm] using ih''
noncomputable def orderV : Nat → Int → List Int × Int := hid fun n wd => orderR n 0 [] wd
theorem orderV_def (n : Nat) (wd : Int) : orderV n wd = orderR n 0 [] wd := by rw [orderV, hid_eq]
theorem orderV_perm {n : Nat} (wd : Int) (hn : n ≤ 1000000) : (orderV n wd).1.Perm ((List.range n).map Int.ofNat) := by
 rw [orderV_def]
 simpa using orderR_perm n 0 [] wd (by simp) (by omega)
theorem order_ok {nm : Nm} (hB : isBox H nm) {n : Nat} (h0 : 0 < n) (hn : n ≤ 1000000) :
  gcall KC (geval KC) 44 [.bptr nm 0, .pure (.int .i64 n)] c H = some (.pure (.slice ((orderV n (wordAt H nm)).1.map irow)), H.set nm (wbox (orderV n (wordAt H nm)).2)) := by
 have hlt := isBox_lt hB
 have hset := isBox_set hB
 have hne : ¬ nm.1 = H.length := by omega
 have hne2 : ¬ nm.1 = H.length + 1 := by omega
 have hle : nm.1 ≤ H.length := by omega
 have hB2 : ∀ f0 f1, isBox (f0 :: f1 :: H) nm := fun f0 f1 => isBox_up (isBox_up hB)
 have hW : ∀ f0 f1, wordAt (f0 :: f1 :: H) nm = wordAt H nm := fun f0 f1 => by rw [wordAt_up (by simp; omega), wordAt_up hlt]
 have hnl : ¬ H.length ≤ H.length - 1 := by omega
 refine WPv_eq (call_enter KC needT Try.func44 rfl rfl good44 rfl rfl rfl (by simp) (by omega) ?_)
 obtain ⟨k, rfl⟩ : ∃ k, n = k + 1 := ⟨n - 1, by omega⟩
 have hr := upR_rng (wordAt H nm) 1 (by omega)
 have ej : (upR (wordAt H nm) 1).1 = 0 := by omega
 have L := fun Q => order_loop (H := H) hlt (k + 1) hn Q k 1 [0] (upR (wordAt H nm) 1).2 (by omega) rfl (by omega)
 have hd := orderV_def (k + 1) (wordAt H nm)
 have e1 : orderR (k + 1) 0 [] (wordAt H nm) = orderR k 1 [0] (upR (wordAt H nm) 1).2 := by
  rw [orderR]; simp [ej, swapL]
 rw [e1] at hd
 have hk : (0 : Int) < (k : Int) + 1 := by omega
 simp [ordF] at L
 simp
 apply WPL_step
 conv => arg 4; whnf
 simp [hk, Heap.length_set, up_ok, hB2, hW, hlt, hne, hne2, Heap.set_up, ej, hle, irow, splice]
 simp [irow] at L
 refine L _ ?_
 have tk : ∀ l : List Int, List.take l.length (List.map irow l) = List.map irow l := fun l => List.take_of_length_le (by simp)
 simp [gleave_free, hd, Heap.length_set, hnl, tk]
end
section
variable {c : Nat} {H : Heap}
def AnsOk (a : List Int) : Prop := ∀ x ∈ a, -1 ≤ x ∧ x ≤ 8
theorem AnsOk.wr {a : List Int} (h : AnsOk a) {n : Nat} (hl : a.length = n) : wrF a n = 0 := by
 unfold wrF
 rw [if_neg (by omega)]
 clear hl
 induction a with
 | nil => rfl
 | cons x r ih =>
  have hx := h x (List.mem_cons_self ..)
  have e : ansE x = 0 := by unfold ansE; rw [if_pos (inB_iff.2 hx)]
  simp only [firstE, e]
  rw [if_neg (by simp)]
  exact ih fun y hy => h y (List.mem_cons_of_mem _ hy)
theorem keyE_zero {l : List Int} (hr : ∀ x ∈ l, 1 ≤ x ∧ x ≤ 6) (hd : l.Nodup) : ∀ k i, i + k = l.length → keyE l k i = 0
 | 0, _, _ => rfl
 | k + 1, i, h => by
  have hi : i < l.length := by omega
  simp only [keyE]
  rw [getD_lt hi, if_neg (by rw [inB_iff.2 (hr _ (List.getElem_mem hi))]; simp), if_neg]
  ·exact keyE_zero hr hd k (i + 1) (by omega)
  ·intro hc
   rw [List.contains_iff_mem] at hc
   obtain ⟨j, hj, e⟩ := List.mem_take_iff_getElem.1 hc
   have := List.pairwise_iff_getElem.1 hd j i (by omega) hi (by omega)
   exact this e
structure SOk (s : Scoring) : Prop where
 five : ∀ x ∈ s.five, 0 ≤ x ∧ x ≤ 20
 rng : ∀ x ∈ s.keys, 1 ≤ x ∧ x ≤ 6
 nd : s.keys.Nodup
 len : s.keys.length ≤ 4
theorem SOk.chk {s : Scoring} (h : SOk s) : chkS s = 0 := by
 have h5 : okFive s.five = true := by
  unfold okFive
  rw [List.all_eq_true]
  intro x hx
  have := h.five x hx
  exact inB_iff.2 ⟨by omega, by omega⟩
 have := h.len
 unfold chkS
 rw [h5, if_neg (by simp), if_neg (by omega)]
 exact keyE_zero h.rng h.nd _ 0 (by omega)
def zsb : Blk := .box [.pure (.int .i64 0), .pure (.int .i64 0), .pure (.int .i64 0), .pure (.int .i64 0), .pure (.int .i64 0), .nils]
def sFr (L : Nat) (p q w n l : Int) (keys : List Int) : Fr := apF 42 1 (keys.map irow) [(2, zsb), (3, .box [.pure (.int .i64 p), .pure (.int .i64 q), .pure (.int .i64 w), .pure (.int .i64 n), .pure (.int .i64 l), apS (L, 42) 1 (keys.map irow)])]
theorem keyOf_loop (p q w n o : Int) (l : List Int) (hl : l.length = 6) (hr : ∀ x ∈ l, 0 ≤ x ∧ x ≤ 5) (hd : l.Nodup) (Q : GX → GSt → Prop) : ∀ (i : Nat) (keys : List Int), i ≤ 4 → keys.length + i ≤ 4 → keys.Nodup → (∀ x ∈ keys, ∃ j, ∃ h : j < l.length, i < j ∧ x = 1 + l[j]) →
  (∀ keys' : List Int, keys'.length ≤ 4 → keys'.Nodup → (∀ x ∈ keys', 1 ≤ x ∧ x ≤ 6) → Q (.exit 0) ⟨[(2, .bptr (H.length, 2) 0), (3, .bptr (H.length, 3) 0)], sFr H.length p q w n o keys' :: H, 45⟩) →
  WPL KC needT 16 (lp Try.f16 0) [2, 3, 4, 5] [2, 3] Q [(2, .bptr (H.length, 2) 0), (3, .bptr (H.length, 3) 0), (4, .pure (.slice (l.map irow))), (5, .pure (.int .i64 (i : Nat)))] (sFr H.length p q w n o keys :: H) 45 := by
 intro i
 induction i with
 | zero =>
  intro keys hi hkl hkd hk h1
  have h1' := h1 keys (by omega) hkd (fun x hx => by
   obtain ⟨j, hj, _, e⟩ := hk x hx
   have := hr _ (List.getElem_mem hj)
   omega)
  apply WPL_step
  conv => arg 4; whnf
  simp
  exact h1'
 | succ i ih =>
  intro keys hi hkl hkd hk h1
  have hil : i + 1 < l.length := by omega
  have ri := hr _ (List.getElem_mem hil)
  have hw := w64 (x := 1 + l[i + 1]) (by omega) (by omega)
  have e0 : ((i : Int) + 1) - 1 = i := by omega
  have hw2 := w64 (x := (i : Int) + 1 - 1) (by omega) (by omega)
  rw [e0] at hw2
  have hb : (keys.length + 1) * 8 ≤ 1099511627776 := by omega
  have ih' := ih (keys ++ [1 + l[i + 1]]) (by omega) (by simp; omega) (by
   rw [List.nodup_append]
   refine ⟨hkd, by simp, fun x hx y hy => ?_⟩
   simp at hy
   subst hy
   obtain ⟨j, hj, hij, e⟩ := hk x hx
   intro e2
   have := List.pairwise_iff_getElem.1 hd (i + 1) j hil hj hij
   omega) (fun x hx => by
   rcases List.mem_append.1 hx with h | h
   ·obtain ⟨j, hj, hij, e⟩ := hk x h
    exact ⟨j, hj, by omega, e⟩
   ·simp at h; subst h; exact ⟨i + 1, hil, by omega, rfl⟩) h1
  have A := fun f0 fr (hf : Fr.get fr 42 = none) => apK_1 (H := H) (l := H.length) (key := 42) (es := 1) (bytes := 8) (rows := keys.map irow) (r := irow (1 + l[i + 1])) (fr := fr) (f0 := f0) rfl hf (by simpa using hb)
  simp only [irow] at A
  have t1 : ((i : Int) + 1).toNat = i + 1 := by omega
  have hp0 : (0 : Int) < (i : Int) + 1 := by omega
  have hn0 : ¬ (i : Int) + 1 < 0 := by omega
  apply WPL_step
  conv => arg 4; whnf
  simp [sFr, hil, hp0, hn0, t1, e0, hw, hw2, A, irow, zsb]
  simpa [sFr, irow, zsb] using ih'
end
section
variable {c : Nat} {H : Heap}
section
variable {nm : Nm}
theorem up1 (hlt : nm.1 < H.length) (f0 : Fr) (w : Int) {n : Int} (hn : n ≤ 9223372036854775807) : gcall KC (geval KC) 32 [.bptr nm 0, .pure (.int .i64 n)] c (f0 :: H.set nm (wbox w)) = some (.pure (.int .i64 (upR w n).1), f0 :: H.set nm (wbox (upR w n).2)) := by
 have := up_ok (c := c) (box1 hlt w f0) hn
 rwa [word1 hlt, Heap.set_up (by rw [Heap.length_set]; exact hlt), Heap.set_set] at this
theorem any1 (hlt : nm.1 < H.length) (f0 : Fr) (w : Int) {lo hi : Int} : gcall KC (geval KC) 25 [.bptr nm 0, .pure (.int .i64 lo), .pure (.int .i64 hi)] c (f0 :: H.set nm (wbox w)) = some (.pure (.int .i64 (anyR w lo hi).1), f0 :: H.set nm (wbox (anyR w lo hi).2)) := by
 have := any_ok (c := c) (lo := lo) (hi := hi) (box1 hlt w f0)
 rwa [word1 hlt, Heap.set_up (by rw [Heap.length_set]; exact hlt), Heap.set_set] at this
theorem pick1 (hlt : nm.1 < H.length) (f0 : Fr) (w : Int) {l : List Int} (hn : l.length < 4611686018427387904) : gcall KC (geval KC) 56 [.bptr nm 0, .pure (.slice (l.map irow))] c (f0 :: H.set nm (wbox w)) = some (.pure (.int .i64 (pickR w l).1), f0 :: H.set nm (wbox (pickR w l).2)) := by
 have := pick_ok (c := c) (box1 hlt w f0) hn
 rwa [word1 hlt, Heap.set_up (by rw [Heap.length_set]; exact hlt), Heap.set_set] at this
theorem order1 (hlt : nm.1 < H.length) (f0 : Fr) (w : Int) {n : Nat} (h0 : 0 < n) (hn : n ≤ 1000000) : gcall KC (geval KC) 44 [.bptr nm 0, .pure (.int .i64 n)] c (f0 :: H.set nm (wbox w)) = some (.pure (.slice ((orderV n w).1.map irow)), f0 :: H.set nm (wbox (orderV n w).2)) := by
 have := order_ok (c := c) (box1 hlt w f0) h0 hn
 rwa [word1 hlt, Heap.set_up (by rw [Heap.length_set]; exact hlt), Heap.set_set] at this
end
theorem pick_rng (w u m : Int) (h0 : 0 ≤ u) (h9 : u ≤ m) : ∃ v w', pickR w [0, u] = (v, w') ∧ 0 ≤ v ∧ v ≤ m := by
 refine ⟨(pickR w [0, u]).1, (pickR w [0, u]).2, rfl, ?_⟩
 rw [pickR_def]
 have hr := upR_rng w 2 (by omega)
 simp only [List.length_cons, List.length_nil]
 rw [if_neg (by omega)]
 have : (upR w 2).1 = 0 ∨ (upR w 2).1 = 1 := by omega
 show 0 ≤ [0, u].getD (upR w 2).1.toNat 0 ∧ [0, u].getD (upR w 2).1.toNat 0 ≤ m
 rcases this with e | e <;> rw [e] <;> simp <;> omega
theorem scoring_ok0 {nm : Nm} (hlt : nm.1 < H.length) (w0 : Int) : ∃ s wd, SOk s ∧ gcall KC (geval KC) 16 [.bptr nm 0] c (H.set nm (wbox w0)) = some (.pure (.agg s.row), H.set nm (wbox wd)) := by
 have hle : nm.1 ≤ H.length := by omega
 have hl2 : ∀ w, (H.set nm (wbox w)).length = H.length := fun w => Heap.length_set _ _ _
 suffices hs : WPv (gcall KC (geval KC) 16 [.bptr nm 0] c (H.set nm (wbox w0))) (fun x => ∃ s wd, SOk s ∧ x = (.pure (.agg s.row), H.set nm (wbox wd))) by
  obtain ⟨x, hx, s, wd, h1, e⟩ := hs
  exact ⟨s, wd, h1, by rw [hx, e]⟩
 refine call_enter KC needT Try.func16 rfl rfl good16 rfl rfl rfl (by simp) (by rw [hl2]; omega) ?_
 obtain ⟨p, w1, e1, p5⟩ := upR_get w0 5 (by omega) (by omega)
 obtain ⟨q, w2, e2, q4⟩ := upR_get w1 4 (by omega) (by omega)
 obtain ⟨a1, w3, e3, a20⟩ := upR_get w2 20 (by omega) (by omega)
 obtain ⟨wh, w4, e4, wh0, wh9⟩ := pick_rng w3 a1 20 (by omega) (by omega)
 obtain ⟨a2, w5, e5, a6⟩ := upR_get w4 6 (by omega) (by omega)
 obtain ⟨nw, w6, e6, nw0, nw9⟩ := pick_rng w5 a2 20 (by omega) (by omega)
 obtain ⟨a3, w7, e7, a4⟩ := upR_get w6 4 (by omega) (by omega)
 obtain ⟨ls, w8, e8, ls0, ls9⟩ := pick_rng w7 a3 20 (by omega) (by omega)
 obtain ⟨l, w9, e9⟩ : ∃ l w9, orderV 6 w8 = (l, w9) := ⟨_, _, rfl⟩
 obtain ⟨i, w10, e10, i5⟩ := upR_get w9 5 (by omega) (by omega)
 have pm := orderV_perm (n := 6) w8 (by omega)
 rw [e9] at pm
 have hl6 : l.length = 6 := by simpa using pm.length_eq
 have hr : ∀ x ∈ l, 0 ≤ x ∧ x ≤ 5 := fun x hx => by
  have := pm.mem_iff.1 hx
  simp at this
  obtain ⟨k, hk, e⟩ := this
  omega
 have hd : l.Nodup := by
  rw [pm.nodup_iff]
  decide
 have U := fun c f0 w n hn => up1 (c := c) (H := H) hlt f0 w (n := n) hn
 have Pk := fun c f0 w (u : Int) => pick1 (c := c) (H := H) hlt f0 w (l := [0, u]) (by simp)
 have O := fun c f0 w => order1 (c := c) (H := H) hlt f0 w (n := 6) (by omega) (by omega)
 simp only [List.map_cons, List.map_nil, irow] at Pk
 have O6 : ∀ c f0 w, gcall KC (geval KC) 44 [.bptr nm 0, .pure (.int .i64 6)] c (f0 :: H.set nm (wbox w)) = some (.pure (.slice ((orderV 6 w).1.map irow)), f0 :: H.set nm (wbox (orderV 6 w).2)) := O
 have L := fun Q => keyOf_loop (H := H.set nm (wbox w10)) p q wh nw ls l hl6 hr hd Q i [] (by omega) (by simp; omega) (by simp) (fun x hx => absurd hx List.not_mem_nil)
 simp only [hl2, sFr, zsb, List.map_nil, apS_nil, apF_nil] at L
 simp [hle, hl2, U, e1, e2, e3, Pk, e4, e5, e6, e7, e8, O6, e9, e10]
 refine L _ (fun keys h1 h2 h3 => ?_)
 simp
 rw [gleave_free (by simp)]
 rw [WPv_some, hl2]
 refine ⟨⟨p, q, wh, nw, ls, keys⟩, ⟨fun x hx => ?_, h3, h2, h1⟩, w10, ?_⟩
 ·simp only [Scoring.five, List.mem_cons, List.not_mem_nil, or_false] at hx
  rcases hx with rfl | rfl | rfl | rfl | rfl <;> omega
 ·rw [clean_agg]
  simp only [List.map_cons, List.map_nil, clean1_pure]
  rw [clean1_apS (hl2 _) (by omega) (fun hne => apF_self hne)]
  by_cases hk : keys = []
  ·subst hk; simp [Scoring.row]
  ·have : keys.map irow ≠ [] := by simpa using hk
   rw [if_neg this]
   simp [Scoring.row]
theorem scoring_ok {nm : Nm} (hB : isBox H nm) : ∃ s wd, SOk s ∧ gcall KC (geval KC) 16 [.bptr nm 0] c H = some (.pure (.agg s.row), H.set nm (wbox wd)) := by
 obtain ⟨s, wd, h1, h2⟩ := scoring_ok0 (c := c) (isBox_lt hB) (wordAt H nm)
 rw [isBox_set hB] at h2
 exact ⟨s, wd, h1, h2⟩
end
section
variable {c : Nat} {H : Heap}
def wnames : List (List UInt8) := [[107, 121, 97, 114, 97], [114, 97, 107, 111, 107, 117], [109, 97, 110, 97, 98, 97, 110], [115, 111, 114, 97], [98], [97, 98, 99, 100, 101, 102, 103, 104]]
def srow (s : List UInt8) : List PV := [.str s]
theorem woodNames_ok (hH : 0 < H.length) : gcall KC (geval KC) 90 [] c H = some (.pure (.slice (wnames.map srow)), H) := by
 refine WPv_eq (call_enter KC needT Try.func90 rfl rfl good90 rfl rfl rfl (by simp) hH ?_)
 simp [wnames, srow, gleave_free]
def WIn (ws : List Wood) : Prop := ∀ i (h : i < ws.length), ws[i].name = wnames.getD i [] ∧ 0 ≤ ws[i].fam ∧ ws[i].fam ≤ 9
theorem wn_good : ∀ i, i < 6 → nameB (wnames.getD i []) := by
 intro i hi
 have : i = 0 ∨ i = 1 ∨ i = 2 ∨ i = 3 ∨ i = 4 ∨ i = 5 := by omega
 unfold nameB
 rcases this with rfl | rfl | rfl | rfl | rfl | rfl <;> decide
theorem wn_dis : ∀ i, i < 6 → ∀ j, j < i → wnames.getD j [] ≠ wnames.getD i [] := by decide
theorem WIn.ok {ws : List Wood} (h : WIn ws) (h1 : 1 ≤ ws.length) (h6 : ws.length ≤ 6) : WoodsOk ws := by
 refine ⟨h1, h6, fun x hx => ?_, fun x hx => ?_, fun i j hi hj => ?_⟩
 ·obtain ⟨i, hi, rfl⟩ := List.getElem_of_mem hx
  rw [(h i hi).1]
  exact wn_good i (by omega)
 ·obtain ⟨i, hi, rfl⟩ := List.getElem_of_mem hx
  exact (h i hi).2
 ·rw [(h i hi).1, (h j (by omega)).1]
  exact wn_dis i (by omega) j hj
theorem WIn.snoc {ws : List Wood} {f : Int} (h : WIn ws) (h0 : 0 ≤ f) (h9 : f ≤ 9) : WIn (ws ++ [⟨wnames.getD ws.length [], f⟩]) := by
 intro i hi
 by_cases hl : i < ws.length
 ·rw [List.getElem_append_left hl]; exact h i hl
 ·simp at hi
  have : i = ws.length := by omega
  subst this
  simp
  exact ⟨h0, h9⟩
section
variable {nm : Nm}
theorem up2 (hlt : nm.1 < H.length) (f0 f1 : Fr) (w : Int) {n : Int} (hn : n ≤ 9223372036854775807) : gcall KC (geval KC) 32 [.bptr nm 0, .pure (.int .i64 n)] c (f0 :: f1 :: H.set nm (wbox w)) = some (.pure (.int .i64 (upR w n).1), f0 :: f1 :: H.set nm (wbox (upR w n).2)) := by
 have := up_ok (c := c) (box2 hlt w f0 f1) hn
 rwa [word2 hlt, Heap.set_up (by simp [Heap.length_set]; omega), Heap.set_up (by rw [Heap.length_set]; exact hlt), Heap.set_set] at this
theorem any2 (hlt : nm.1 < H.length) (f0 f1 : Fr) (w : Int) {lo hi : Int} : gcall KC (geval KC) 25 [.bptr nm 0, .pure (.int .i64 lo), .pure (.int .i64 hi)] c (f0 :: f1 :: H.set nm (wbox w)) = some (.pure (.int .i64 (anyR w lo hi).1), f0 :: f1 :: H.set nm (wbox (anyR w lo hi).2)) := by
 have := any_ok (c := c) (lo := lo) (hi := hi) (box2 hlt w f0 f1)
 rwa [word2 hlt, Heap.set_up (by simp [Heap.length_set]; omega), Heap.set_up (by rw [Heap.length_set]; exact hlt), Heap.set_set] at this
theorem one2 (hlt : nm.1 < H.length) (f0 f1 : Fr) (w : Int) {n : Int} (hn : n ≤ 9223372036854775807) : gcall KC (geval KC) 49 [.bptr nm 0, .pure (.int .i64 n)] c (f0 :: f1 :: H.set nm (wbox w)) = some (.pure (.bool (oneR w n).1), f0 :: f1 :: H.set nm (wbox (oneR w n).2)) := by
 have := one_ok (c := c) (box2 hlt w f0 f1) hn
 rwa [word2 hlt, Heap.set_up (by simp [Heap.length_set]; omega), Heap.set_up (by rw [Heap.length_set]; exact hlt), Heap.set_set] at this
theorem woods_loopW (hlt : nm.1 < H.length) (Q : GX → GSt → Prop) : ∀ (k : Nat) (w : Int) (ws : List Wood), ws.length + k ≤ 6 → WIn ws →
  (∀ ws' w', WIn ws' → ws'.length = ws.length + k → Q (.exit 0) ⟨[(5, apS (H.length, 24) 2 (ws'.map Wood.row))], apF 24 2 (ws'.map Wood.row) [] :: H.set nm (wbox w'), 26⟩) →
  WPL KC needT 55 (lp Try.f55 0) [0, 5, 6] [5] Q [(0, .bptr nm 0), (5, apS (H.length, 24) 2 (ws.map Wood.row)), (6, .pure (.int .i64 k))]
   (apF 24 2 (ws.map Wood.row) [] :: H.set nm (wbox w)) 26 := by
 have hH : 0 < H.length := by omega
 intro k
 induction k with
 | zero =>
  intro w ws hl hw h1
  have h1' := h1 ws w hw (by omega)
  apply WPL_step
  conv => arg 4; whnf
  simp [hH, Heap.length_set]
  exact h1'
 | succ k ih =>
  intro w ws hl hw h1
  have hp : (0 : Int) < (k : Int) + 1 := by omega
  have hwr := w64 (x := (k : Int) + 1 - 1) (by omega) (by omega)
  rw [show (k : Int) + 1 - 1 = k by omega] at hwr
  obtain ⟨f, w', e, hf⟩ := upR_get w 10 (by omega) (by omega)
  have ih' := ih w' (ws ++ [⟨wnames.getD ws.length [], f⟩]) (by simp; omega) (hw.snoc (by omega) (by omega)) (fun ws' w'' a b => h1 ws' w'' a (by rw [b]; simp; omega))
  clear ih h1
  have W := fun c (G : Heap) (hG : 0 < G.length) => woodNames_ok (c := c) (H := G) hG
  have U := fun c f0 f1 => up2 (c := c) (H := H) hlt f0 f1 w (n := 10) (by omega)
  simp only [e] at U
  have hwl : ws.length < wnames.length := by show _ < 6; omega
  have hge : wnames.getD ws.length [] = wnames[ws.length] := by rw [List.getD_eq_getElem?_getD, List.getElem?_eq_getElem hwl]; rfl
  rw [hge] at ih'
  generalize wnames = N at *
  have hb : (ws.length + 1) * 24 ≤ 1099511627776 := by omega
  have hle : nm.1 ≤ H.length := by omega
  have hne : ¬ nm.1 = H.length := by omega
  have hne2 : ¬ nm.1 = H.length + 1 := by omega
  apply WPL_step
  conv => arg 4; whnf
  simp [hH, hp, hwr, W, U, hwl, srow, hb, hle, Heap.length_set]
  simpa [Wood.row] using ih'
theorem woods_ok {most : Nat} (hm1 : 1 ≤ most) (hm6 : most ≤ 6) (hlt : nm.1 < H.length) (w0 : Int) :
  ∃ ws w, WIn ws ∧ 1 ≤ ws.length ∧ ws.length ≤ most ∧ gcall KC (geval KC) 55 [.bptr nm 0, .pure (.int .i64 most)] c (H.set nm (wbox w0)) = some (.pure (.slice (ws.map Wood.row)), H.set nm (wbox w)) := by
 suffices hs : WPv (gcall KC (geval KC) 55 [.bptr nm 0, .pure (.int .i64 most)] c (H.set nm (wbox w0))) (fun x => ∃ ws w, WIn ws ∧ 1 ≤ ws.length ∧ ws.length ≤ most ∧ x = (.pure (.slice (ws.map Wood.row)), H.set nm (wbox w))) by
  obtain ⟨x, hx, ws, w, h1, h2, h3, e⟩ := hs
  exact ⟨ws, w, h1, h2, h3, by rw [hx, e]⟩
 have hH : 0 < H.length := by omega
 have hle : nm.1 ≤ H.length := by omega
 refine call_enter KC needT Try.func55 rfl rfl good55 rfl rfl rfl (by simp) (by rw [Heap.length_set]; exact hH) ?_
 obtain ⟨i, w1, e, hi1, hi2⟩ := anyR_get w0 most (by omega) hm1
 have A := fun c f0 => any1 (c := c) (H := H) hlt f0 w0 (lo := 1) (hi := most)
 simp only [e] at A
 have L := fun Q hq => woods_loopW hlt Q i w1 [] (by simp; omega) (fun _ h => by simp at h) hq
 simp [apS_nil, apF_nil] at L
 simp [A, Heap.length_set, hle]
 refine L _ (fun ws w h1 h2 => ?_)
 simp [gleave_free, Heap.length_set]
 exact ⟨ws, h1, by omega, by omega, cc_apS (by simp [Heap.length_set]) (by omega), w, rfl⟩
end
end
section
variable {c : Nat} {H : Heap}
def gk (key : Nat) : Prop := key = 42 ∨ key = 78 ∨ key = 103 ∨ key = 129 ∨ key = 164 ∨ key = 205 ∨ key = 236 ∨ key = 252
theorem gk_nk {rows : List (List PV)} {d key : Nat} (h : gk key) (hd : gk d) : gk (nk rows d key) := by
 unfold nk; split
 ·exact hd
 ·exact h
def gB (l : Nat) (ws : List Wood) (ds : List Deal) (key : Nat) : Blk := .box [.pure (.slice (ws.map Wood.row)), apS (l, key) 5 (ds.map Deal.row)]
structure TI (nw i : Nat) (ds : List Deal) : Prop where
 ok : okAll (k0 nw) ds
 l : ds.length ≤ i
 b : (runC (k0 nw) ds).bags = [0, 0, 0, 0]
 m : (runC (k0 nw) ds).mixed = 0
 c : (runC (k0 nw) ds).censers = 0
 tl : (runC (k0 nw) ds).tried.length = 6
 t : ∀ j, i ≤ j → (runC (k0 nw) ds).tried.getD j false = false
theorem TI.start (nw : Nat) : TI nw 0 [] := ⟨trivial, by simp, rfl, rfl, rfl, rfl, fun j _ => by
 show [false, false, false, false, false, false].getD j false = false
 match j with
 | 0 | 1 | 2 | 3 | 4 | 5 => rfl
 | _ + 6 => rfl⟩
theorem TI.skip {nw i : Nat} {ds : List Deal} (h : TI nw i ds) : TI nw (i + 1) ds := ⟨h.ok, by have := h.l; omega, h.b, h.m, h.c, h.tl, fun j hj => h.t j (by omega)⟩
theorem TI.snoc {nw i : Nat} {ds : List Deal} (h : TI nw i ds) (hi : i < nw) : TI nw (i + 1) (ds ++ [⟨1, 0, 0, i, 0⟩]) := by
 have hw := runC_woods ds (k0 nw)
 have e : runC (k0 nw) (ds ++ [⟨1, 0, 0, i, 0⟩]) = { runC (k0 nw) ds with tried := (runC (k0 nw) ds).tried.set i true } := by
  rw [runC_snoc]; rfl
 refine ⟨okAll_snoc h.ok (.inl ⟨rfl, rfl, rfl, rfl⟩) (.inl ⟨rfl, by simp, ?_, ?_⟩), by have := h.l; simp; omega, by rw [e]; exact h.b, by rw [e]; exact h.m, by rw [e]; exact h.c, by rw [e]; simpa using h.tl, fun j hj => ?_⟩
 ·rw [hw]; show (i : Int) < nw; omega
 ·exact h.t i (Nat.le_refl i)
 ·rw [e]
  show ((runC (k0 nw) ds).tried.set i true).getD j false = false
  rw [List.getD_eq_getElem?_getD, List.getElem?_set, if_neg (by omega), ← List.getD_eq_getElem?_getD]
  exact h.t j (by omega)
section
variable {nm : Nm}
theorem trials_loop (ws : List Wood) (hws : ws.length ≤ 6) (dr ce : Int) (g8 : Blk) (hlt : nm.1 < H.length) (Q : GX → GSt → Prop) : ∀ (k i : Nat) (w : Int) (ds : List Deal) (key : Nat), i + k = ws.length → gk key → TI ws.length i ds →
  (∀ ds' w' key', TI ws.length ws.length ds' → gk key' → Q (.exit 0) ⟨[(0, .bptr nm 0), (2, .pure (.int .i64 dr)), (3, .pure (.int .i64 ce)), (8, .bptr (H.length, 8) 0), (9, .bptr (H.length, 9) 0)],
   apF key' 5 (ds'.map Deal.row) [(8, g8), (9, gB H.length ws ds' key')] :: H.set nm (wbox w'), 255⟩) →
  WPL KC needT 15 (lp Try.f15 0) [0, 2, 3, 8, 9, 10] [0, 2, 3, 8, 9] Q [(0, .bptr nm 0), (2, .pure (.int .i64 dr)), (3, .pure (.int .i64 ce)), (8, .bptr (H.length, 8) 0), (9, .bptr (H.length, 9) 0), (10, .pure (.int .i64 i))]
   (apF key 5 (ds.map Deal.row) [(8, g8), (9, gB H.length ws ds key)] :: H.set nm (wbox w)) 255 := by
 have hH : 0 < H.length := by omega
 intro k
 induction k with
 | zero =>
  intro i w ds key hi hk ht h1
  have : i = ws.length := by omega
  subst this
  have h1' := h1 ds w key ht hk
  have k9 : ¬ 9 = key := by unfold gk at hk; omega
  unfold gB at h1' ⊢
  apply WPL_step
  conv => arg 4; whnf
  have hle : nm.1 ≤ H.length := by omega
  simp [hH, Heap.length_set, k9, hle]
  exact h1'
 | succ k ih =>
  intro i w ds key hi hk ht h1
  have hia : i < ws.length := by omega
  have hwr := w64 (x := (i : Int) + 1) (by omega) (by omega)
  obtain ⟨b, w1, e⟩ : ∃ b w1, oneR w 3 = (b, w1) := ⟨_, _, rfl⟩
  have O := fun c f0 f1 => one2 (c := c) (H := H) hlt f0 f1 w (n := 3) (by omega)
  simp only [e] at O
  have k9 : ¬ 9 = key := by unfold gk at hk; omega
  have k9' : ¬ key = 9 := by unfold gk at hk; omega
  have k8' : ¬ key = 8 := by unfold gk at hk; omega
  have hle : nm.1 ≤ H.length := by omega
  have hne : ¬ nm.1 = H.length := by omega
  have hkt : key < tyBase := Nat.lt_of_le_of_lt (show key ≤ 252 by unfold gk at hk; omega) (by decide)
  have hdl := ht.l
  cases b with
  | true =>
   have ih' := ih (i + 1) w1 ds key (by omega) hk ht.skip h1
   clear ih h1
   unfold gB at ih' ⊢
   apply WPL_step
   conv => arg 4; whnf
   simp [hia, hH, hwr, O, k9, hle, hne, Heap.length_set]
   simpa using ih'
  | false =>
   have hk2 : gk (nk (ds.map Deal.row) 42 key) := gk_nk hk (.inl rfl)
   have ih' := ih (i + 1) w1 (ds ++ [⟨1, 0, 0, i, 0⟩]) (nk (ds.map Deal.row) 42 key) (by omega) hk2 (ht.snoc hia) h1
   clear ih h1
   have k9n : ¬ 9 = nk (ds.map Deal.row) 42 key := by unfold gk at hk2; omega
   unfold gB at ih' ⊢
   rw [List.map_append] at ih'
   have AP := fun (f0 : Fr) (v : Blk) => apN_1 (H := H.set nm (wbox w1)) (l := H.length) (d := 42) (key := key) (bytes := 40) (es := 5) (rows := ds.map Deal.row) (r := [.int .i64 1, .int .i64 0, .int .i64 0, .int .i64 i, .int .i64 0]) (f0 := f0) (fr := [(8, g8), (9, v)]) (Heap.length_set _ _ _) (by simp [Fr.get, k9', k8']) (by simp [Fr.get]) (by simp; omega) hkt (by decide)
   apply WPL_step
   conv => arg 4; whnf
   simp [hia, hH, hwr, O, k9, hle, hne, AP, k9n, Heap.length_set]
   simpa [Deal.row] using ih'
end
end
end Go.Gh
