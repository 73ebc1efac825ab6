/- Lists of numbers: what they contain; the errors of partitions and answers. -/
import Derived.Test.YthcpepcmnmlmeaaRa
namespace Go.Gh
open Go.Proofs
set_option linter.unusedSimpArgs false
set_option linter.unusedVariables false
set_option linter.unnecessarySimpa false
set_option maxRecDepth 100000
set_option maxHeartbeats 4000000
variable {c : Nat} {H : Heap}
theorem getD_lt {α : Type} {l : List α} {i : Nat} {d : α} (h : i < l.length) : l.getD i d = l[i] := by simp [List.getD_eq_getElem?_getD, h]
def firstE (g : Int → Int) : List Int → Int
  | [] => 0
  | x :: r => if g x ≠ 0 then g x else firstE g r
theorem drop_nil {α : Type} {l : List α} {i : Nat} (h : l.length ≤ i) : l.drop i = [] := List.drop_of_length_le h
theorem drop_cons {α : Type} {l : List α} {i : Nat} (h : i < l.length) : l.drop i = l[i] :: l.drop (i + 1) := List.drop_eq_getElem_cons h
def idxF (x : Int) : List Int → Nat → Int
  | [], _ => -1
  | y :: r, i => if x = y then i else idxF x r (i + 1)
theorem idxF_nn (x : Int) : ∀ (l : List Int) (i : Nat), decide (0 ≤ idxF x l i) = l.contains x
  | [], i => by simp [idxF]
  | y :: r, i => by
    by_cases h : x = y
    · subst h; simp [idxF]
    · have := idxF_nn x r (i + 1)
      simp only [idxF, if_neg h, this, List.contains_cons]
      simp [h]
theorem index_loop (l : List Int) (x : Int) (hn : l.length ≤ 1000000) (Q : GX → GSt → Prop) (hH : 0 < H.length) : ∀ k i : Nat, i + k = l.length →
    (idxF x (l.drop i) i = -1 → Q (.exit 0) ⟨[(4, gdead)], H, 19⟩) → (0 ≤ idxF x (l.drop i) i → Q .ret ⟨[(4, .pure (.int .i64 (idxF x (l.drop i) i)))], H, 19⟩) →
    WPL KC needT 119 (lp Try.f119 0) [0, 1, 7, 8] [4] Q [(0, .pure (.slice (l.map irow))), (1, .pure (.int .i64 x)), (7, .pure (.int .i64 l.length)), (8, .pure (.int .i64 i))] H 19 := by
  intro k
  induction k with
  | zero =>
    intro i hi h1 h2
    rw [drop_nil (by omega)] at h1
    apply WPL_step
    conv => arg 4; whnf
    have : ¬ i < l.length := by omega
    simp [this, hH]
    exact h1 rfl
  | succ k ih =>
    intro i hi h1 h2
    have hia : i < l.length := by omega
    have hw := w64 (x := (i : Int) + 1) (by omega) (by omega)
    rw [drop_cons hia] at h1 h2
    unfold idxF at h1 h2
    apply WPL_step
    conv => arg 4; whnf
    by_cases he : x = l[i]
    · rw [if_pos he] at h1 h2
      simp [hia, hH, irow, he]
      exact h2 (by omega)
    · have he' : (x == l[i]) = false := by simpa using he
      rw [if_neg he] at h1 h2
      simp [hia, hH, irow, he', hw]
      simpa [irow] using ih (i + 1) (by omega) h1 h2
theorem index_ok (l : List Int) (x : Int) (hn : l.length ≤ 1000000) (hH : 0 < H.length) : gcall KC (geval KC) 119 [.pure (.slice (l.map irow)), .pure (.int .i64 x)] c H = some (.pure (.int .i64 (idxF x l 0)), H) := by
  refine WPv_eq (call_enter KC needT Try.func119 rfl rfl good119 rfl rfl rfl (by simp) hH ?_)
  have L := fun Q => index_loop (H := [] :: H) l x hn Q (by simp) l.length 0 (by omega)
  simp only [List.drop_zero] at L
  simp
  refine L _ (fun h => ?_) (fun h => ?_)
  · simp [h, gleave_free]
  · simp [gleave_free]
theorem contains_ok (l : List Int) (x : Int) (hn : l.length ≤ 1000000) (hH : 0 < H.length) : gcall KC (geval KC) 78 [.pure (.slice (l.map irow)), .pure (.int .i64 x)] c H = some (.pure (.bool (l.contains x)), H) := by
  refine WPv_eq (call_enter KC needT Try.func78 rfl rfl good78 rfl rfl rfl (by simp) hH ?_)
  have I := fun c (H : Heap) (hH : 0 < H.length) => index_ok (c := c) (H := H) l x hn hH
  have e := idxF_nn x l 0
  simp only [List.contains_eq_mem] at e
  simp [I, gleave_free]
  simpa using e
theorem count_loop (l : List Int) (x : Int) (hn : l.length ≤ 1000000) (Q : GX → GSt → Prop) (hH : 0 < H.length) : ∀ k i n : Nat, i + k = l.length → n ≤ i →
    Q (.exit 0) ⟨[(5, .pure (.int .i64 ((n + (l.drop i).count x : Nat) : Int)))], H, 21⟩ →
    WPL KC needT 85 (lp Try.f85 0) [1, 5, 8, 9, 10] [5] Q [(1, .pure (.int .i64 x)), (5, .pure (.int .i64 (n : Int))), (8, .pure (.slice (l.map irow))), (9, .pure (.int .i64 l.length)), (10, .pure (.int .i64 i))] H 21 := by
  intro k
  induction k with
  | zero =>
    intro i n hi hni h1
    rw [drop_nil (by omega)] at h1
    apply WPL_step
    conv => arg 4; whnf
    have : ¬ i < l.length := by omega
    simp [this, hH]
    simpa using h1
  | succ k ih =>
    intro i n hi hni h1
    have hia : i < l.length := by omega
    have hw := w64 (x := (i : Int) + 1) (by omega) (by omega)
    have hw2 := w64 (x := (n : Int) + 1) (by omega) (by omega)
    rw [drop_cons hia, List.count_cons] at h1
    apply WPL_step
    conv => arg 4; whnf
    by_cases he : l[i] = x
    · have ih' := ih (i + 1) (n + 1) (by omega) (by omega) (by
        have e : n + 1 + (l.drop (i + 1)).count x = n + ((l.drop (i + 1)).count x + if (l[i] == x) = true then 1 else 0) := by simp [he]; omega
        rw [e]; exact h1)
      simp [hia, hH, irow, he, hw, hw2]
      simpa [irow] using ih'
    · have he' : (l[i] == x) = false := by simpa using he
      have ih' := ih (i + 1) n (by omega) (by omega) (by
        have e : n + (l.drop (i + 1)).count x = n + ((l.drop (i + 1)).count x + if (l[i] == x) = true then 1 else 0) := by simp [he]
        rw [e]; exact h1)
      simp [hia, hH, irow, he', hw]
      simpa [irow] using ih'
theorem count_ok (l : List Int) (x : Int) (hn : l.length ≤ 1000000) (hH : 0 < H.length) : gcall KC (geval KC) 85 [.pure (.slice (l.map irow)), .pure (.int .i64 x)] c H = some (.pure (.int .i64 (l.count x : Nat)), H) := by
  refine WPv_eq (call_enter KC needT Try.func85 rfl rfl good85 rfl rfl rfl (by simp) hH ?_)
  simp
  have L := fun Q => count_loop (H := [] :: H) l x hn Q (by simp) l.length 0 0 (by omega) (by omega)
  simp at L
  refine L _ ?_
  simp [gleave_free]
def ansE (x : Int) : Int := if inB x (-1) 8 = true then 0 else 2
def wrF (l : List Int) (n : Int) : Int := if (l.length : Int) ≠ n then 3 else firstE ansE l
theorem written_loop (l : List Int) (hn : l.length ≤ 1000000) (Q : GX → GSt → Prop) (hH : 0 < H.length) : ∀ k i : Nat, i + k = l.length →
    (firstE ansE (l.drop i) = 0 → Q (.exit 0) ⟨[(4, gdead)], H, 21⟩) → (firstE ansE (l.drop i) = 2 → Q .ret ⟨[(4, .pure (.int .i64 2))], H, 21⟩) →
    WPL KC needT 67 (lp Try.f67 0) [11, 12, 13] [4] Q [(11, .pure (.slice (l.map irow))), (12, .pure (.int .i64 l.length)), (13, .pure (.int .i64 i))] H 21 := by
  intro k
  induction k with
  | zero =>
    intro i hi h1 h2
    rw [drop_nil (by omega)] at h1
    apply WPL_step
    conv => arg 4; whnf
    have : ¬ i < l.length := by omega
    simp [this, hH]
    exact h1 rfl
  | succ k ih =>
    intro i hi h1 h2
    have hia : i < l.length := by omega
    have hw := w64 (x := (i : Int) + 1) (by omega) (by omega)
    rw [drop_cons hia] at h1 h2
    unfold firstE at h1 h2
    have W := fun c (H : Heap) (hH : 0 < H.length) => withinP_ok (c := c) (x := l[i]) (lo := -1) (hi := 8) (H := H) hH
    apply WPL_step
    conv => arg 4; whnf
    by_cases he : inB l[i] (-1) 8 = true
    · have e : ansE l[i] = 0 := by simp [ansE, he]
      simp only [e, ne_eq, not_true_eq_false, if_false] at h1 h2
      simp [hia, hH, irow, W, he, hw]
      simpa [irow] using ih (i + 1) (by omega) h1 h2
    · have e : ansE l[i] = 2 := by simp [ansE, he]
      have he' : inB l[i] (-1) 8 = false := by simpa using he
      simp only [e] at h1 h2
      simp [hia, hH, irow, W, he']
      exact h2 (by simp)
theorem written_ok0 (l : List Int) (n : Int) (hn : l.length ≤ 1000000) (hH : 0 < H.length) : gcall0 KC (geval KC) 67 [.pure (.slice (l.map irow)), .pure (.int .i64 n)] c H = some (.pure (.int .i64 (wrF l n)), H) := by
  refine WPv_eq (call_enter0 KC needT Try.func67 rfl rfl good67 (by simp) hH ?_)
  unfold wrF
  by_cases h : (l.length : Int) = n
  · have h2 : ((l.length : Int) != n) = false := by simpa using h
    have L := fun Q => written_loop (H := [] :: H) l hn Q (by simp) l.length 0 (by omega)
    simp only [List.drop_zero] at L
    simp [h2, h]
    subst h
    refine L _ (fun h => ?_) (fun h => ?_)
    · simp [h, gleave_free]
    · simp [h, gleave_free]
  · have h2 : ((l.length : Int) != n) = true := by simpa using h
    simp [h2, h, gleave_free]
theorem written_ok (l : List Int) (n : Int) (hn : l.length ≤ 1000000) (hH : 0 < H.length) : gcall KC (geval KC) 67 [.pure (.slice (l.map irow)), .pure (.int .i64 n)] c H = some (.pure (.int .i64 (wrF l n)), H) :=
  bor_c rfl rfl rfl rfl rfl hH fun H hH => written_ok0 l n hn hH
theorem checkAnswer_loop (l : List Int) (hn : l.length ≤ 1000000) (Q : GX → GSt → Prop) (hH : 0 < H.length) : ∀ k i : Nat, i + k = l.length →
    (firstE ansE (l.drop i) = 0 → Q (.exit 0) ⟨[(4, gdead)], H, 21⟩) → (firstE ansE (l.drop i) = 2 → Q .ret ⟨[(4, .pure (.int .i64 2))], H, 21⟩) →
    WPL KC needT 75 (lp Try.f75 0) [0, 1, 5] [4] Q [(0, .pure (.slice (l.map irow))), (1, .pure (.int .i64 l.length)), (5, .pure (.int .i64 i))] H 21 := by
  intro k
  induction k with
  | zero =>
    intro i hi h1 h2
    rw [drop_nil (by omega)] at h1
    apply WPL_step
    conv => arg 4; whnf
    have : ¬ i < l.length := by omega
    simp [this, hH]
    exact h1 rfl
  | succ k ih =>
    intro i hi h1 h2
    have hia : i < l.length := by omega
    have hw := w64 (x := (i : Int) + 1) (by omega) (by omega)
    rw [drop_cons hia] at h1 h2
    unfold firstE at h1 h2
    have W := fun c (H : Heap) (hH : 0 < H.length) => withinR_ok (c := c) (x := l[i]) (lo := -1) (hi := 8) (H := H) hH
    apply WPL_step
    conv => arg 4; whnf
    by_cases he : inB l[i] (-1) 8 = true
    · have e : ansE l[i] = 0 := by simp [ansE, he]
      simp only [e, ne_eq, not_true_eq_false, if_false] at h1 h2
      simp [hia, hH, irow, W, he, hw]
      simpa [irow] using ih (i + 1) (by omega) h1 h2
    · have e : ansE l[i] = 2 := by simp [ansE, he]
      have he' : inB l[i] (-1) 8 = false := by simpa using he
      simp only [e] at h1 h2
      simp [hia, hH, irow, W, he']
      exact h2 (by simp)
theorem checkAnswer_ok (l : List Int) (n : Int) (hn : l.length ≤ 1000000) (hH : 0 < H.length) : gcall KC (geval KC) 75 [.pure (.slice (l.map irow)), .pure (.int .i64 n)] c H = some (.pure (.int .i64 (wrF l n)), H) := by
  refine bor_c rfl rfl rfl rfl rfl hH fun H hH => ?_
  refine WPv_eq (call_enter0 KC needT Try.func75 rfl rfl good75 (by simp) hH ?_)
  unfold wrF
  by_cases h : (l.length : Int) = n
  · have h2 : ((l.length : Int) != n) = false := by simpa using h
    have L := fun Q => checkAnswer_loop (H := [] :: H) l hn Q (by simp) l.length 0 (by omega)
    simp only [List.drop_zero] at L
    simp [h2, h]
    subst h
    refine L _ (fun h => ?_) (fun h => ?_)
    · simp [h, gleave_free]
    · simp [h, gleave_free]
  · have h2 : ((l.length : Int) != n) = true := by simpa using h
    simp [h2, h, gleave_free]
end Go.Gh


/- The errors of partitions and scorings. -/
namespace Go.Gh
open Go.Proofs
set_option linter.unusedSimpArgs false
set_option linter.unusedVariables false
set_option linter.unnecessarySimpa false
set_option maxRecDepth 100000
set_option maxHeartbeats 4000000
variable {c : Nat} {H : Heap}
def chkL : List Int → Int → Int
  | [], _ => 0
  | x :: r, m => if x < 0 ∨ 9 ≤ x then 2 else if m < x then 11 else chkL r (if x = m then m + 1 else m)
def chkP (l : List Int) : Int := if l.length = 0 then 6 else if 9 < l.length then 8 else chkL l 0
theorem chk_loop (l : List Int) (hn : l.length ≤ 9) (Q : GX → GSt → Prop) (hH : 0 < H.length) : ∀ (k i : Nat) (m : Int), i + k = l.length → 0 ≤ m → m ≤ i →
    (chkL (l.drop i) m = 0 → Q (.exit 1) ⟨[(2, gdead)], H, 38⟩) → (chkL (l.drop i) m ≠ 0 → Q .ret ⟨[(2, .pure (.int .i64 (chkL (l.drop i) m)))], H, 38⟩) →
    WPL KC needT 66 (lp Try.f66 0) [3, 14, 15, 16] [2] Q [(3, .pure (.int .i64 m)), (14, .pure (.slice (l.map irow))), (15, .pure (.int .i64 l.length)), (16, .pure (.int .i64 i))] H 38 := by
  intro k
  induction k with
  | zero =>
    intro i m hi _ _ h1 h2
    rw [drop_nil (by omega)] at h1
    apply WPL_step
    conv => arg 4; whnf
    have : ¬ i < l.length := by omega
    simp [this, hH]
    exact h1 rfl
  | succ k ih =>
    intro i m hi hm0 hmi h1 h2
    have hia : i < l.length := by omega
    have hw := w64 (x := (i : Int) + 1) (by omega) (by omega)
    have hw2 := w64 (x := m + 1) (by omega) (by omega)
    rw [drop_cons hia] at h1 h2
    unfold chkL at h1 h2
    apply WPL_step
    conv => arg 4; whnf
    by_cases a : l[i] < 0
    · rw [if_pos (.inl a)] at h2
      simp [hia, hH, irow, a]
      exact h2 (by decide)
    · by_cases b : 9 ≤ l[i]
      · rw [if_pos (.inr b)] at h2
        simp [hia, hH, irow, a, b]
        exact h2 (by decide)
      · rw [if_neg (by omega)] at h1 h2
        by_cases d : m < l[i]
        · rw [if_pos d] at h2
          simp [hia, hH, irow, a, b, d]
          exact h2 (by decide)
        · rw [if_neg d] at h1 h2
          by_cases e : l[i] = m
          · rw [if_pos e] at h1 h2
            have e2 : (l[i] == m) = true := by simpa using e
            rw [e] at a b
            simp [hia, hH, irow, a, b, d, e, e2, hw, hw2]
            simpa [irow] using ih (i + 1) (m + 1) (by omega) (by omega) (by omega) h1 h2
          · rw [if_neg e] at h1 h2
            have e2 : (l[i] == m) = false := by simpa using e
            simp [hia, hH, irow, a, b, d, e, e2, hw]
            simpa [irow] using ih (i + 1) m (by omega) hm0 (by omega) h1 h2
theorem chk_ok (l : List Int) (hn : l.length ≤ 1000000) (hH : 0 < H.length) : gcall KC (geval KC) 66 [.pure (.slice (l.map irow))] c H = some (.pure (.int .i64 (chkP l)), H) := by
  refine WPv_eq (call_enter KC needT Try.func66 rfl rfl good66 rfl rfl rfl (by simp) hH ?_)
  unfold chkP
  by_cases h : l.length = 0
  · have h2 : ((l.length : Int) == 0) = true := by simp [h]
    have h3 : l = [] := List.length_eq_zero_iff.1 h
    subst h3
    simp [gleave_free]
  · have h2 : ((l.length : Int) == 0) = false := by simp; exact fun e => h (by rw [e]; rfl)
    have h0 : ¬ l = [] := fun e => h (by rw [e]; rfl)
    by_cases h3 : 9 < l.length
    · have h4 : (9 : Int) < l.length := by omega
      simp [h, h0, h2, h3, h4, gleave_free]
    · have h4 : ¬ (9 : Int) < l.length := by omega
      have L := fun Q => chk_loop (H := [] :: H) l (by omega) Q (by simp) l.length 0 0 (by omega) (by omega) (by omega)
      simp at L
      simp [h, h0, h2, h3, h4]
      refine L _ (fun h => ?_) (fun h => ?_)
      · simp [h, gleave_free]
      · simp [gleave_free]
theorem chkR_loop (l : List Int) (hn : l.length ≤ 9) (Q : GX → GSt → Prop) (hH : 0 < H.length) : ∀ (k i : Nat) (m : Int), i + k = l.length → -1 ≤ m → m < i →
    (chkL (l.drop i) (m + 1) = 0 → Q (.exit 0) ⟨[(2, gdead)], H, 42⟩) → (chkL (l.drop i) (m + 1) ≠ 0 → Q .ret ⟨[(2, .pure (.int .i64 (chkL (l.drop i) (m + 1))))], H, 42⟩) →
    WPL KC needT 74 (lp Try.f74 0) [0, 3, 4] [2] Q [(0, .pure (.slice (l.map irow))), (3, .pure (.int .i64 m)), (4, .pure (.int .i64 i))] H 42 := by
  intro k
  induction k with
  | zero =>
    intro i m hi _ _ h1 h2
    rw [drop_nil (by omega)] at h1
    apply WPL_step
    conv => arg 4; whnf
    have : ¬ i < l.length := by omega
    simp [this, hH]
    exact h1 rfl
  | succ k ih =>
    intro i m hi hm0 hmi h1 h2
    have hia : i < l.length := by omega
    have hw := w64 (x := (i : Int) + 1) (by omega) (by omega)
    have hw2 := w64 (x := m + 1) (by omega) (by omega)
    rw [drop_cons hia] at h1 h2
    unfold chkL at h1 h2
    apply WPL_step
    conv => arg 4; whnf
    by_cases a : l[i] < 0
    · rw [if_pos (.inl a)] at h2
      simp [hia, hH, irow, a]
      exact h2 (by decide)
    · by_cases b : 9 ≤ l[i]
      · rw [if_pos (.inr b)] at h2
        simp [hia, hH, irow, a, b]
        exact h2 (by decide)
      · rw [if_neg (by omega)] at h1 h2
        by_cases d : m + 1 < l[i]
        · rw [if_pos d] at h2
          simp [hia, hH, irow, a, b, d, hw2]
          exact h2 (by decide)
        · rw [if_neg d] at h1 h2
          by_cases e : l[i] = m + 1
          · rw [if_pos e] at h1 h2
            have e2 : m < l[i] := by omega
            simp [hia, hH, irow, a, b, d, hw, hw2, e2]
            have := ih (i + 1) l[i] (by omega) (by omega) (by omega) (by rw [e]; exact h1) (by rw [e]; exact h2)
            simpa [irow] using this
          · rw [if_neg e] at h1 h2
            have e2 : ¬ m < l[i] := by omega
            simp [hia, hH, irow, a, b, d, e2, hw, hw2]
            simpa [irow] using ih (i + 1) m (by omega) hm0 (by omega) h1 h2
theorem chkR_ok (l : List Int) (hn : l.length ≤ 1000000) (hH : 0 < H.length) : gcall KC (geval KC) 74 [.pure (.slice (l.map irow))] c H = some (.pure (.int .i64 (chkP l)), H) := by
  refine WPv_eq (call_enter KC needT Try.func74 rfl rfl good74 rfl rfl rfl (by simp) hH ?_)
  unfold chkP
  by_cases h : l.length = 0
  · have h3 : l = [] := List.length_eq_zero_iff.1 h
    subst h3
    simp [gleave_free]
  · have h2 : ((l.length : Int) == 0) = false := by simp; exact fun e => h (by rw [e]; rfl)
    have h0 : ¬ l = [] := fun e => h (by rw [e]; rfl)
    by_cases h3 : 9 < l.length
    · have h4 : (9 : Int) < l.length := by omega
      simp [h, h0, h2, h3, h4, gleave_free]
    · have h4 : ¬ (9 : Int) < l.length := by omega
      have L := fun Q => chkR_loop (H := [] :: H) l (by omega) Q (by simp) l.length 0 (-1) (by omega) (by omega) (by omega)
      simp at L
      simp [h, h0, h2, h3, h4]
      refine L _ (fun h => ?_) (fun h => ?_)
      · simp [h, gleave_free]
      · simp [gleave_free]
def Scoring.five (s : Scoring) : List Int := [s.packet, s.pair, s.whole, s.new, s.loss]
def keyE (l : List Int) : Nat → Nat → Int
  | 0, _ => 0
  | k + 1, i => if inB (l.getD i 0) 1 6 = false then 4 else if (l.take i).contains (l.getD i 0) = true then 9 else keyE l k (i + 1)
def okFive (l : List Int) : Bool := l.all fun x => inB x 0 1000
def chkS (s : Scoring) : Int := if okFive s.five = false then 2 else if 6 < s.keys.length then 8 else keyE s.keys s.keys.length 0
def sbox (s : Scoring) : Blk := .box [.pure (.int .i64 s.packet), .pure (.int .i64 s.pair), .pure (.int .i64 s.whole), .pure (.int .i64 s.new), .pure (.int .i64 s.loss), .pure (.slice (s.keys.map irow))]
theorem five_loop (s : Scoring) (l : List Int) (hl : l.length = 5) (Q : GX → GSt → Prop) : ∀ k i : Nat, i + k = 5 →
    (okFive (l.drop i) = true → Q (.exit 0) ⟨[(1, .bptr (H.length, 1) 0), (2, gdead)], [(1, sbox s)] :: H, 49⟩) → (okFive (l.drop i) = false → Q .ret ⟨[(1, .bptr (H.length, 1) 0), (2, .pure (.int .i64 2))], [(1, sbox s)] :: H, 49⟩) →
    WPL KC needT 29 (lp Try.f29 0) [1, 17, 18] [1, 2] Q [(1, .bptr (H.length, 1) 0), (17, .pure (.agg (l.map (PV.int .i64)))), (18, .pure (.int .i64 i))] ([(1, sbox s)] :: H) 49 := by
  intro k
  induction k with
  | zero =>
    intro i hi h1 h2
    rw [drop_nil (by omega)] at h1
    apply WPL_step
    conv => arg 4; whnf
    have : ¬ (i : Int) < 5 := by omega
    simp [this]
    exact h1 rfl
  | succ k ih =>
    intro i hi h1 h2
    have hia : i < l.length := by omega
    have hi5 : (i : Int) < 5 := by omega
    have hi5' : ¬ (5 : Int) ≤ i := by omega
    have hi6 : i + 1 ≤ l.length := by omega
    have hw := w64 (x := (i : Int) + 1) (by omega) (by omega)
    rw [drop_cons hia] at h1 h2
    unfold okFive at h1 h2
    rw [List.all_cons] at h1 h2
    have W := fun c (H : Heap) (hH : 0 < H.length) => withinP_ok (c := c) (x := l[i]) (lo := 0) (hi := 1000) (H := H) hH
    apply WPL_step
    conv => arg 4; whnf
    by_cases he : inB l[i] 0 1000 = true
    · simp only [he, Bool.true_and] at h1 h2
      simp [hia, hi5, hi5', hi6, irow, W, he, hw]
      simpa [irow] using ih (i + 1) (by omega) h1 h2
    · have he' : inB l[i] 0 1000 = false := by simpa using he
      simp only [he', Bool.false_and] at h2
      simp [hia, hi5, hi5', hi6, irow, W, he']
      exact h2 trivial
theorem keys_loop (s : Scoring) (hn : s.keys.length ≤ 6) (Q : GX → GSt → Prop) : ∀ k i : Nat, i + k = s.keys.length →
    (keyE s.keys k i = 0 → Q (.exit 2) ⟨[(2, gdead)], [(1, sbox s)] :: H, 49⟩) → (keyE s.keys k i ≠ 0 → Q .ret ⟨[(2, .pure (.int .i64 (keyE s.keys k i)))], [(1, sbox s)] :: H, 49⟩) →
    WPL KC needT 29 (lp Try.f29 1) [1, 30, 31, 32] [2] Q [(1, .bptr (H.length, 1) 0), (30, .pure (.slice (s.keys.map irow))), (31, .pure (.int .i64 s.keys.length)), (32, .pure (.int .i64 i))] ([(1, sbox s)] :: H) 49 := by
  intro k
  induction k with
  | zero =>
    intro i hi h1 h2
    apply WPL_step
    conv => arg 4; whnf
    have : ¬ i < s.keys.length := by omega
    simp [this]
    exact h1 rfl
  | succ k ih =>
    intro i hi h1 h2
    have hia : i < s.keys.length := by omega
    have hw := w64 (x := (i : Int) + 1) (by omega) (by omega)
    unfold keyE at h1 h2
    rw [getD_lt hia] at h1 h2
    have W := fun c (H : Heap) (hH : 0 < H.length) => withinP_ok (c := c) (x := s.keys[i]) (lo := 1) (hi := 6) (H := H) hH
    have Ct := fun c (H : Heap) (hH : 0 < H.length) => contains_ok (c := c) (s.keys.take i) s.keys[i] (H := H) (by simp; omega) hH
    rw [List.map_take] at Ct
    have hr : ∀ x : Int, (irow x).length = 1 := fun x => rfl
    have hle : i ≤ s.keys.length := by omega
    apply WPL_step
    conv => arg 4; whnf
    by_cases he : inB s.keys[i] 1 6 = true
    · simp only [he, Bool.true_eq_false, if_false] at h1 h2
      by_cases hd : (s.keys.take i).contains s.keys[i] = true
      · rw [if_pos hd] at h2
        simp [hia, sbox, W, he, Ct, hd, hr, hle]
        have e : s.keys[i] ∈ s.keys.take i := by simpa using hd
        simp [irow, W, he, hr, hle, Ct, hd, e]
        simpa [sbox] using h2 (by decide)
      · rw [if_neg hd] at h1 h2
        have e : ¬ s.keys[i] ∈ s.keys.take i := by simpa using hd
        have ih' := ih (i + 1) (by omega) h1 h2
        simp [hia, sbox, W, he, Ct, hd, hr, hle, irow, e, hw]
        simpa [irow, sbox] using ih'
    · have he' : inB s.keys[i] 1 6 = false := by simpa using he
      simp only [he', if_true] at h2
      simp [hia, irow, W, he', sbox]
      simpa [sbox] using h2 (by decide)
theorem rowS (s : Scoring) : s.row = [.int .i64 s.packet, .int .i64 s.pair, .int .i64 s.whole, .int .i64 s.new, .int .i64 s.loss, .slice (s.keys.map irow)] := rfl
theorem chkS_ok (s : Scoring) (hn : s.keys.length ≤ 1000000) (hH : 0 < H.length) : gcall KC (geval KC) 29 [.pure (.agg s.row)] c H = some (.pure (.int .i64 (chkS s)), H) := by
  refine WPv_eq (call_enter KC needT Try.func29 rfl rfl good29 rfl rfl rfl (by simp) hH ?_)
  rw [rowS]
  simp
  have L1 := fun Q => five_loop (H := H) s s.five rfl Q 5 0 (by omega)
  simp [Scoring.five, sbox] at L1
  unfold chkS Scoring.five
  refine L1 _ (fun h => ?_) (fun h => ?_)
  · rw [h]
    by_cases h6 : 6 < s.keys.length
    · have h6' : (6 : Int) < s.keys.length := by omega
      simp [h6, h6', gleave_free]
    · have h6' : ¬ (6 : Int) < s.keys.length := by omega
      have L2 := fun Q => keys_loop (H := H) s (by omega) Q s.keys.length 0 (by omega)
      simp [sbox] at L2
      simp [h6, h6']
      refine L2 _ (fun h => ?_) (fun h => ?_)
      · simp [h, gleave_free]
      · simp [gleave_free]
  · rw [h]
    simp [gleave_free]
end Go.Gh


/- The reference's error of a scoring. -/
namespace Go.Gh
open Go.Proofs
set_option linter.unusedSimpArgs false
set_option linter.unusedVariables false
set_option linter.unnecessarySimpa false
set_option maxRecDepth 100000
set_option maxHeartbeats 4000000
variable {c : Nat} {H : Heap}
@[simp] theorem clean_gdead {l0 : Nat} : clean H l0 gdead = gdead := .trans rfl rfl
theorem fiveR_loop (s : Scoring) (l : List Int) (hl : l.length = 5) (Q : GX → GSt → Prop) : ∀ k i : Nat, i + k = 5 →
    (okFive (l.drop i) = true → Q (.exit 0) ⟨[(1, .bptr (H.length, 1) 0), (2, gdead)], [(1, sbox s)] :: H, 64⟩) → (okFive (l.drop i) = false → Q .ret ⟨[(1, .bptr (H.length, 1) 0), (2, .pure (.int .i64 2))], [(1, sbox s)] :: H, 64⟩) →
    WPL KC needT 30 (lp Try.f30 0) [1, 3, 4] [1, 2] Q [(1, .bptr (H.length, 1) 0), (3, .pure (.slice (l.map irow))), (4, .pure (.int .i64 i))] ([(1, sbox s)] :: H) 64 := by
  intro k
  induction k with
  | zero =>
    intro i hi h1 h2
    rw [drop_nil (by omega)] at h1
    apply WPL_step
    conv => arg 4; whnf
    have : ¬ i < l.length := by omega
    simp [this]
    exact h1 rfl
  | succ k ih =>
    intro i hi h1 h2
    have hia : i < l.length := by omega
    have hi5 : (i : Int) < 5 := by omega
    have hw := w64 (x := (i : Int) + 1) (by omega) (by omega)
    rw [drop_cons hia] at h1 h2
    unfold okFive at h1 h2
    rw [List.all_cons] at h1 h2
    have W := fun c (H : Heap) (hH : 0 < H.length) => withinR_ok (c := c) (x := l[i]) (lo := 0) (hi := 1000) (H := H) hH
    apply WPL_step
    conv => arg 4; whnf
    by_cases he : inB l[i] 0 1000 = true
    · simp only [he, Bool.true_and] at h1 h2
      simp [hia, irow, W, he, hw]
      simpa [irow] using ih (i + 1) (by omega) h1 h2
    · have he' : inB l[i] 0 1000 = false := by simpa using he
      simp only [he', Bool.false_and] at h2
      simp [hia, irow, W, he']
      exact h2 trivial
theorem keyIn_loop (s : Scoring) (hn : s.keys.length ≤ 6) (i : Nat) (hi : i < s.keys.length) {f0 : Fr} (Q : GX → GSt → Prop) : ∀ k j : Nat, j + k = i →
    (((s.keys.take i).drop j).contains s.keys[i] = false → Q (.exit 4) ⟨[(1, .bptr (H.length, 1) 0), (2, gdead), (5, .pure (.int .i64 i))], f0 :: [(1, sbox s)] :: H, 64⟩) →
    (((s.keys.take i).drop j).contains s.keys[i] = true → Q .ret ⟨[(1, .bptr (H.length, 1) 0), (2, .pure (.int .i64 9)), (5, .pure (.int .i64 i))], f0 :: [(1, sbox s)] :: H, 64⟩) →
    WPL KC needT 30 (lp Try.f30 2) [1, 5, 6] [1, 2, 5] Q [(1, .bptr (H.length, 1) 0), (5, .pure (.int .i64 i)), (6, .pure (.int .i64 j))] (f0 :: [(1, sbox s)] :: H) 64 := by
  intro k
  induction k with
  | zero =>
    intro j hj h1 h2
    have e : j = i := by omega
    subst e
    rw [drop_nil (by simp; omega)] at h1
    apply WPL_step
    conv => arg 4; whnf
    simp
    exact h1 rfl
  | succ k ih =>
    intro j hj h1 h2
    have hji : j < i := by omega
    have hjl : j < s.keys.length := by omega
    have hw := w64 (x := (j : Int) + 1) (by omega) (by omega)
    have hd : (s.keys.take i).drop j = s.keys[j] :: (s.keys.take i).drop (j + 1) := by
      rw [drop_cons (by simp; omega)]
      simp
    rw [hd, List.contains_cons] at h1 h2
    apply WPL_step
    conv => arg 4; whnf
    by_cases he : s.keys[j] = s.keys[i]
    · have e2 : (s.keys[i] == s.keys[j]) = true := by simp [he]
      rw [e2, Bool.true_or] at h2
      simp [hji, hjl, hi, sbox, irow, he]
      simpa [sbox] using h2 rfl
    · have e1 : (s.keys[j] == s.keys[i]) = false := by simpa using he
      have e2 : (s.keys[i] == s.keys[j]) = false := by simpa using fun e => he e.symm
      rw [e2, Bool.false_or] at h1 h2
      simp [hji, hjl, hi, sbox, irow, e1, hw]
      simpa [sbox, irow] using ih (j + 1) (by omega) h1 h2
theorem keysR_loop (s : Scoring) (hn : s.keys.length ≤ 6) (Q : GX → GSt → Prop) : ∀ k i : Nat, i + k = s.keys.length →
    (keyE s.keys k i = 0 → Q (.exit 2) ⟨[(2, gdead)], [(1, sbox s)] :: H, 64⟩) → (keyE s.keys k i ≠ 0 → Q .ret ⟨[(2, .pure (.int .i64 (keyE s.keys k i)))], [(1, sbox s)] :: H, 64⟩) →
    WPL KC needT 30 (lp Try.f30 1) [1, 5] [2] Q [(1, .bptr (H.length, 1) 0), (5, .pure (.int .i64 i))] ([(1, sbox s)] :: H) 64 := by
  intro k
  induction k with
  | zero =>
    intro i hi h1 h2
    apply WPL_step
    conv => arg 4; whnf
    have : ¬ i < s.keys.length := by omega
    simp [this, sbox]
    have := h1 rfl
    simp only [sbox] at this
    exact this
  | succ k ih =>
    intro i hi h1 h2
    have hia : i < s.keys.length := by omega
    have hw := w64 (x := (i : Int) + 1) (by omega) (by omega)
    unfold keyE at h1 h2
    rw [getD_lt hia] at h1 h2
    have W := fun c (H : Heap) (hH : 0 < H.length) => withinR_ok (c := c) (x := s.keys[i]) (lo := 1) (hi := 6) (H := H) hH
    have L := fun (f0 : Fr) Q => keyIn_loop (H := H) (f0 := f0) s hn i hia Q i 0 (by omega)
    simp [sbox] at L
    apply WPL_step
    conv => arg 4; whnf
    by_cases he : inB s.keys[i] 1 6 = true
    · simp only [he, Bool.true_eq_false, if_false] at h1 h2
      simp [hia, sbox, irow, W, he]
      refine L _ _ (fun hd => ?_) (fun hd => ?_)
      · have hd' : ¬ (s.keys.take i).contains s.keys[i] = true := by simpa using hd
        rw [if_neg hd'] at h1 h2
        simp [hw]
        simpa [sbox] using ih (i + 1) (by omega) h1 h2
      · have hd' : (s.keys.take i).contains s.keys[i] = true := by simpa using hd
        rw [if_pos hd'] at h2
        simp
        simpa [sbox] using h2 (by decide)
    · have he' : inB s.keys[i] 1 6 = false := by simpa using he
      simp only [he', if_true] at h2
      simp [hia, irow, W, he', sbox]
      simpa [sbox] using h2 (by decide)
theorem chkSR_ok (s : Scoring) (hn : s.keys.length ≤ 1000000) (hH : 0 < H.length) : gcall KC (geval KC) 30 [.pure (.agg s.row)] c H = some (.pure (.int .i64 (chkS s)), H) := by
  refine WPv_eq (call_enter KC needT Try.func30 rfl rfl good30 rfl rfl rfl (by simp) hH ?_)
  rw [rowS]
  simp
  have L1 := fun Q => fiveR_loop (H := H) s s.five rfl Q 5 0 (by omega)
  simp [Scoring.five, sbox, irow] at L1
  unfold chkS Scoring.five
  refine L1 _ (fun h => ?_) (fun h => ?_)
  · rw [h]
    by_cases h6 : 6 < s.keys.length
    · have h6' : (6 : Int) < s.keys.length := by omega
      simp [h6, h6', gleave_free]
    · have h6' : ¬ (6 : Int) < s.keys.length := by omega
      have L2 := fun Q => keysR_loop (H := H) s (by omega) Q s.keys.length 0 (by omega)
      simp [sbox] at L2
      simp [h6, h6']
      refine L2 _ (fun h => ?_) (fun h => ?_)
      · simp [h, gleave_free]
      · simp [gleave_free]
  · rw [h]
    simp [gleave_free]
end Go.Gh


/- Labels numbered in the order in which they come first. -/
namespace Go.Gh
open Go.Proofs
set_option linter.unusedSimpArgs false
set_option linter.unusedVariables false
set_option linter.unnecessarySimpa false
set_option maxRecDepth 100000
set_option maxHeartbeats 4000000
variable {c : Nat} {H : Heap}
def lenM (b : Option Blk) : Option Int := match b with | some (.map es) => some es.length | _ => none
@[congr] theorem lenM_cg {b b' : Option Blk} (h : ∀ _ : Unit, b = b') : lenM b = lenM b' := by rw [h ()]
@[simp] theorem lenM_map {es : List (PV × GV)} : lenM (some (.map es)) = some (es.length : Int) := .trans rfl rfl
@[simp] theorem lenD_map {k e : TypeId} {nm : Nm} : lenD (some (.map k e)) H (.map nm) = lenM (H.get nm) := by
  unfold lenD lenM
  rfl
@[simp] theorem kf3 (n : Int) : keyFitsK KC 3 (.int .i64 n) = true := by kernel_rfl
def posL (x : Int) : List Int → Nat
  | [] => 0
  | y :: r => if x = y then 0 else posL x r + 1
def numL : List Int → List Int → List Int
  | [], _ => []
  | x :: r, seen => (posL x seen : Int) :: numL r (if x ∈ seen then seen else seen ++ [x])
def entS : List Int → Nat → List (PV × GV)
  | [], _ => []
  | x :: r, n => (.int .i64 x, .pure (.int .i64 n)) :: entS r (n + 1)
theorem entS_len : ∀ (l : List Int) (n : Nat), (entS l n).length = l.length
  | [], _ => rfl
  | x :: r, n => by simp [entS, entS_len r]
theorem entS_app : ∀ (l : List Int) (x : Int) (n : Nat), entS (l ++ [x]) n = entS l n ++ [(.int .i64 x, .pure (.int .i64 ((n + l.length : Nat) : Int)))]
  | [], x, n => rfl
  | y :: r, x, n => by
    have := entS_app r x (n + 1)
    simp only [List.cons_append, entS, this, List.length_cons]
    have e : n + 1 + r.length = n + (r.length + 1) := by omega
    rw [e]
theorem find_no (x : Int) : ∀ (l : List Int) (n i : Nat), x ∉ l → findEntry (.int .i64 x) (entS l n) i = some none
  | [], _, _, _ => rfl
  | y :: r, n, i, h => by
    simp only [List.mem_cons, not_or] at h
    have e : (x == y) = false := by simpa using h.1
    simp [entS, findEntry, keyEq, e]
    exact find_no x r (n + 1) (i + 1) h.2
theorem find_yes (x : Int) : ∀ (l : List Int) (n i : Nat), x ∈ l → findEntry (.int .i64 x) (entS l n) i = some (some (i + posL x l, .pure (.int .i64 ((n + posL x l : Nat) : Int))))
  | [], _, _, h => by simp at h
  | y :: r, n, i, h => by
    by_cases e : x = y
    · subst e
      simp [entS, findEntry, keyEq, posL]
    · have e2 : (x == y) = false := by simpa using e
      have := find_yes x r (n + 1) (i + 1) (by simpa [e] using h)
      simp [entS, findEntry, keyEq, e2, posL, e, this]
      constructor <;> omega
theorem posL_no (x : Int) : ∀ l : List Int, x ∉ l → posL x l = l.length
  | [], _ => rfl
  | y :: r, h => by
    simp only [List.mem_cons, not_or] at h
    simp [posL, h.1, posL_no x r h.2]
theorem posL_le (x : Int) : ∀ l : List Int, posL x l ≤ l.length
  | [] => Nat.le_refl _
  | y :: r => by
    have := posL_le x r
    unfold posL
    split <;> simp <;> omega
theorem posL_lt (x : Int) : ∀ l : List Int, posL x l < l.length ↔ x ∈ l
  | [] => by simp [posL]
  | y :: r => by
    have := posL_lt x r
    unfold posL
    by_cases e : x = y
    · simp [e]
    · simp [e, this]
theorem numL_len : ∀ (l seen : List Int), (numL l seen).length = l.length
  | [], _ => rfl
  | x :: r, s => by simp [numL, numL_len r]
def mapF (seen : List Int) : Fr := [(9, .map (entS seen 0))]
theorem number_loop (l : List Int) (hn : l.length ≤ 1000000) (fin : List Int) (Q : GX → GSt → Prop) (h1 : ∀ seen, Q (.exit 0) ⟨[(4, apS (H.length, 32) 1 (fin.map irow))], apF 32 1 (fin.map irow) (mapF seen) :: H, 35⟩) : ∀ (k i : Nat) (seen done : List Int), i + k = l.length → done.length = i → seen.length ≤ i → done ++ numL (l.drop i) seen = fin →
    WPL KC needT 87 (lp Try.f87 0) [3, 4, 10, 11, 12] [4] Q [(3, .map (H.length, 9)), (4, apS (H.length, 32) 1 (done.map irow)), (10, .pure (.slice (l.map irow))), (11, .pure (.int .i64 l.length)), (12, .pure (.int .i64 i))] (apF 32 1 (done.map irow) (mapF seen) :: H) 35 := by
  intro k
  induction k with
  | zero =>
    intro i seen done hi hd hs hf
    rw [drop_nil (by omega)] at hf
    simp [numL] at hf
    subst hf
    apply WPL_step
    conv => arg 4; whnf
    have : ¬ i < l.length := by omega
    simp [this]
    exact h1 seen
  | succ k ih =>
    intro i seen done hi hd hs hf
    have hia : i < l.length := by omega
    have hw := w64 (x := (i : Int) + 1) (by omega) (by omega)
    rw [drop_cons hia] at hf
    unfold numL at hf
    have hb : (done.length + 1) * 8 ≤ 1099511627776 := by omega
    have A := fun f0 seen => apK_1 (H := H) (l := H.length) (key := 32) (es := 1) (bytes := 8) (rows := done.map irow) (r := irow (posL l[i] seen : Int)) (fr := mapF seen) (f0 := f0) rfl rfl (by simpa using hb)
    have A2 := fun f0 => apK_1 (H := H) (l := H.length) (key := 32) (es := 1) (bytes := 8) (rows := done.map irow) (r := irow (seen.length : Int)) (fr := mapF (seen ++ [l[i]])) (f0 := f0) rfl rfl (by simpa using hb)
    simp only [irow, mapF] at A A2
    by_cases hm : l[i] ∈ seen
    · have fy := find_yes l[i] seen 0 0 hm
      rw [if_pos hm] at hf
      have ih' := ih (i + 1) seen (done ++ [(posL l[i] seen : Int)]) (by omega) (by simp [hd]) (by omega) (by simpa using hf)
      apply WPL_step
      conv => arg 4; whnf
      simp [hia, mapF, irow, fy, A, hw]
      simpa [irow, mapF] using ih'
    · have fn := find_no l[i] seen 0 0 hm
      rw [if_neg hm, posL_no _ _ hm] at hf
      have ih' := ih (i + 1) (seen ++ [l[i]]) (done ++ [(seen.length : Int)]) (by omega) (by simp [hd]) (by simp; omega) (by simpa using hf)
      have ea := entS_app seen l[i] 0
      rw [ea] at A2
      simp at A2
      apply WPL_step
      conv => arg 4; whnf
      simp [hia, mapF, irow, fn, A2, hw, entS_len]
      rw [mapF, ea] at ih'
      simpa [irow, mapF] using ih'
theorem number_ok (l : List Int) (hn : l.length ≤ 1000000) (hH : 0 < H.length) : gcall KC (geval KC) 87 [.pure (.slice (l.map irow))] c H = some (.pure (.slice ((numL l []).map irow)), H) := by
  refine WPv_eq (call_enter KC needT Try.func87 rfl rfl good87 rfl rfl rfl (by simp) hH ?_)
  have L := fun Q h1 => number_loop (H := H) l hn (numL l []) Q h1 l.length 0 [] [] (by omega) rfl (by simp) (by simp)
  simp [mapF, entS, apS_nil, apF_nil] at L
  simp
  refine L _ (fun seen => ?_)
  simp
  rw [gleave_free]
  · rw [WPv_some, cc_apS rfl (by omega)]
  · simp
theorem A40 {f0 : Fr} {o s : List (List PV)} {r : List PV} (hb : (s.length + 1) * 8 ≤ 1099511627776) : apK H.length 40 (apS (H.length, 40) 1 s) 1 8 [r] (f0 :: apF 44 1 o (apF 40 1 s []) :: H) = some (apS (H.length, 40) 1 (s ++ [r]), f0 :: apF 44 1 o (apF 40 1 (s ++ [r]) []) :: H) := by
  have g0 : Fr.get (apF 44 1 o (apF 40 1 [] [])) 40 = none := by rw [apF_get (by decide)]; rfl
  rw [apK_apS (fun h => by subst h; simp [g0]) (fun h => by simp [apF_self h]) (by simp; omega) hb]
  simp
  unfold apF
  simp
  by_cases h : s = []
  · simp [h]
  · simp [h, Fr.ins_ins]
theorem seen_loop (l : List Int) (hn : l.length ≤ 1000000) (i : Nat) (hia : i < l.length) (out seen : List Int) (hs : seen.length ≤ i) {f0 : Fr} (Q : GX → GSt → Prop)
    (h1 : Q (.exit 2) ⟨[(0, .pure (.slice (l.map irow))), (3, apS (H.length, 44) 1 (out.map irow)), (4, apS (H.length, 40) 1 (seen.map irow)), (5, .pure (.int .i64 i)), (6, .pure (.int .i64 (posL l[i] seen : Nat)))], f0 :: apF 44 1 (out.map irow) (apF 40 1 (seen.map irow) []) :: H, 46⟩) : ∀ (j k : Nat), k + j = seen.length → posL l[i] seen = k + posL l[i] (seen.drop k) →
    WPL KC needT 114 (lp Try.f114 1) [0, 3, 4, 5, 6] [0, 3, 4, 5, 6] Q [(0, .pure (.slice (l.map irow))), (3, apS (H.length, 44) 1 (out.map irow)), (4, apS (H.length, 40) 1 (seen.map irow)), (5, .pure (.int .i64 i)), (6, .pure (.int .i64 k))] (f0 :: apF 44 1 (out.map irow) (apF 40 1 (seen.map irow) []) :: H) 46 := by
  intro j
  induction j with
  | zero =>
    intro k hk hp
    rw [drop_nil (by omega)] at hp
    have e : k = posL l[i] seen := by simpa [posL] using hp.symm
    apply WPL_step
    conv => arg 4; whnf
    have : ¬ k < seen.length := by omega
    simp [this]
    rw [e]
    simpa using h1
  | succ j ih =>
    intro k hk hp
    have hks : k < seen.length := by omega
    have hw := w64 (x := (k : Int) + 1) (by omega) (by omega)
    rw [drop_cons hks] at hp
    simp only [posL] at hp
    have hne : seen.map irow ≠ [] := by simp; exact fun e => by rw [e] at hks; exact absurd hks (Nat.not_lt_zero _)
    have g40 := apF_self (key := 40) (es := 1) (fr := []) hne
    have ia := iaS_apS (nm := (H.length, 40)) (es := 1) (rows := seen.map irow) (i := k) (by simpa using hks)
    apply WPL_step
    conv => arg 4; whnf
    by_cases e : l[i] = seen[k]
    · rw [if_pos e] at hp
      have e2 : (seen[k] != l[i]) = false := by simp [e]
      simp [hks, ia, g40, irow, hia, e2]
      rw [hp] at h1
      simpa [irow] using h1
    · rw [if_neg e] at hp
      have e2 : (seen[k] != l[i]) = true := by simp; exact fun h => e h.symm
      have ih' := ih (k + 1) (by omega) (by omega)
      simp [hks, ia, g40, irow, hia, e2, hw]
      simpa [irow] using ih'
theorem of_loop (l : List Int) (hn : l.length ≤ 1000000) (fin : List Int) (Q : GX → GSt → Prop) (h1 : ∀ fr : Fr, Q (.exit 0) ⟨[(3, apS (H.length, 44) 1 (fin.map irow))], apF 44 1 (fin.map irow) fr :: H, 46⟩) : ∀ (k i : Nat) (seen done : List Int), i + k = l.length → done.length = i → seen.length ≤ i → done ++ numL (l.drop i) seen = fin →
    WPL KC needT 114 (lp Try.f114 0) [0, 3, 4, 5] [3] Q [(0, .pure (.slice (l.map irow))), (3, apS (H.length, 44) 1 (done.map irow)), (4, apS (H.length, 40) 1 (seen.map irow)), (5, .pure (.int .i64 i))] (apF 44 1 (done.map irow) (apF 40 1 (seen.map irow) []) :: H) 46 := by
  intro k
  induction k with
  | zero =>
    intro i seen done hi hd hs hf
    rw [drop_nil (by omega)] at hf
    simp [numL] at hf
    subst hf
    apply WPL_step
    conv => arg 4; whnf
    have : ¬ i < l.length := by omega
    simp [this]
    exact h1 _
  | succ k ih =>
    intro i seen done hi hd hs hf
    have hia : i < l.length := by omega
    have hw := w64 (x := (i : Int) + 1) (by omega) (by omega)
    rw [drop_cons hia] at hf
    unfold numL at hf
    have hb : (done.length + 1) * 8 ≤ 1099511627776 := by omega
    have hb2 : (seen.length + 1) * 8 ≤ 1099511627776 := by omega
    have A4 := fun f0 => A40 (H := H) (f0 := f0) (o := done.map irow) (s := seen.map irow) (r := irow l[i]) (by simpa using hb2)
    have A := fun f0 (x : Int) (s : List (List PV)) => apK_1 (H := H) (l := H.length) (key := 44) (es := 1) (bytes := 8) (rows := done.map irow) (r := irow x) (fr := apF 40 1 s []) (f0 := f0) rfl (by rw [apF_get (by decide)]; rfl) (by simpa using hb)
    simp only [irow] at A A4
    have L := fun (f0 : Fr) Q h1 => seen_loop (H := H) (f0 := f0) l hn i hia done seen hs Q h1 seen.length 0 (by omega) (by simp)
    simp at L
    have pl := posL_lt l[i] seen
    have ple := posL_le l[i] seen
    apply WPL_step
    conv => arg 4; whnf
    simp [hia]
    refine L _ _ ?_
    by_cases hm : l[i] ∈ seen
    · rw [if_pos hm] at hf
      have e : ¬ posL l[i] seen = seen.length := by have := pl.2 hm; omega
      have e2 : ((posL l[i] seen : Int) == seen.length) = false := by simp; omega
      have ih' := ih (i + 1) seen (done ++ [(posL l[i] seen : Int)]) (by omega) (by simp [hd]) (by omega) (by simpa using hf)
      simp [e2, e, A, irow, hw, hia]
      simpa [irow] using ih'
    · have pe := posL_no _ _ hm
      rw [if_neg hm, pe] at hf
      rw [pe]
      have ih' := ih (i + 1) (seen ++ [l[i]]) (done ++ [(seen.length : Int)]) (by omega) (by simp [hd]) (by simp; omega) (by simpa using hf)
      simp [A4, A, irow, hw, hia]
      simpa [irow] using ih'
theorem of_ok (l : List Int) (hn : l.length ≤ 1000000) (hH : 0 < H.length) : gcall KC (geval KC) 114 [.pure (.slice (l.map irow))] c H = some (.pure (.slice ((numL l []).map irow)), H) := by
  refine WPv_eq (call_enter KC needT Try.func114 rfl rfl good114 rfl rfl rfl (by simp) hH ?_)
  have L := fun Q h1 => of_loop (H := H) l hn (numL l []) Q h1 l.length 0 [] [] (by omega) rfl (by simp) (by simp)
  simp [apS_nil, apF_nil] at L
  simp
  refine L _ (fun fr => ?_)
  simp
  rw [gleave_free]
  · rw [WPv_some, cc_apS rfl (by omega)]
  · simp
end Go.Gh


/- The partition of labels; packets of an answer held against the truth. -/
namespace Go.Gh
open Go.Proofs
set_option linter.unusedSimpArgs false
set_option linter.unusedVariables false
set_option linter.unnecessarySimpa false
set_option maxRecDepth 100000
set_option maxHeartbeats 4000000
variable {c : Nat} {H : Heap}
def ofT (l : List Int) : List PV := if l.length = 0 then [.slice [], .int .i64 6] else if 9 < l.length then [.slice [], .int .i64 8] else [.slice ((numL l []).map irow), .int .i64 0]
theorem Of_ok (l : List Int) (hn : l.length ≤ 1000000) (hH : 0 < H.length) : gcall KC (geval KC) 45 [.pure (.slice (l.map irow))] c H = some (.pure (.tuple (ofT l)), H) := by
  refine WPv_eq (call_enter KC needT Try.func45 rfl rfl good45 rfl rfl rfl (by simp) hH ?_)
  have N := fun c (H : Heap) (hH : 0 < H.length) => number_ok (c := c) (H := H) l hn hH
  unfold ofT
  by_cases h : l.length = 0
  · have h3 : l = [] := List.length_eq_zero_iff.1 h
    subst h3
    simp [gleave_free]
  · have h2 : ((l.length : Int) == 0) = false := by simp; exact fun e => h (by rw [e]; rfl)
    have h0 : ¬ l = [] := fun e => h (by rw [e]; rfl)
    by_cases h3 : 9 < l.length
    · have h4 : (9 : Int) < l.length := by omega
      simp [h, h0, h2, h3, h4, gleave_free]
    · have h4 : ¬ (9 : Int) < l.length := by omega
      simp [h, h0, h2, h3, h4, N, gleave_free]
theorem OfR_ok (l : List Int) (hn : l.length ≤ 1000000) (hH : 0 < H.length) : gcall KC (geval KC) 73 [.pure (.slice (l.map irow))] c H = some (.pure (.tuple (ofT l)), H) := by
  refine WPv_eq (call_enter KC needT Try.func73 rfl rfl good73 rfl rfl rfl (by simp) hH ?_)
  have N := fun c (H : Heap) (hH : 0 < H.length) => of_ok (c := c) (H := H) l hn hH
  unfold ofT
  by_cases h : l.length = 0
  · have h3 : l = [] := List.length_eq_zero_iff.1 h
    subst h3
    simp [gleave_free]
  · have h2 : ((l.length : Int) == 0) = false := by simp; exact fun e => h (by rw [e]; rfl)
    have h0 : ¬ l = [] := fun e => h (by rw [e]; rfl)
    by_cases h3 : 9 < l.length
    · have h4 : (9 : Int) < l.length := by omega
      simp [h, h0, h2, h3, h4, gleave_free]
    · have h4 : ¬ (9 : Int) < l.length := by omega
      simp [h, h0, h2, h3, h4, N, gleave_free]
def hasB (a : List Int) (i : Nat) : Bool := decide (0 ≤ a.getD i 0)
def eqB (l : List Int) (i k : Nat) : Bool := l.getD i 0 == l.getD k 0
def prB (t a : List Int) (i k : Nat) : Bool := eqB a i k == eqB t i k
def pairB (t a : List Int) (i k : Nat) : Bool := hasB a i && hasB a k && prB t a i k
theorem has_ok (t a : List Int) (i : Nat) (h : i < a.length) (hH : 0 < H.length) : gcall KC (geval KC) 109 [.pure (.agg [.slice (t.map irow), .slice (a.map irow)]), .pure (.int .i64 i)] c H = some (.pure (.bool (hasB a i)), H) := by
  refine WPv_eq (call_enter KC needT Try.func109 rfl rfl good109 rfl rfl rfl (by simp) hH ?_)
  have e : hasB a i = decide (0 ≤ a[i]) := by unfold hasB; rw [getD_lt h]
  simp [h, irow, gleave_free, e]
theorem sright_ok (t a : List Int) (i k : Nat) (h : i < a.length) (h2 : k < a.length) (h3 : i < t.length) (h4 : k < t.length) (hH : 0 < H.length) : gcall KC (geval KC) 110 [.pure (.agg [.slice (t.map irow), .slice (a.map irow)]), .pure (.int .i64 i), .pure (.int .i64 k)] c H = some (.pure (.bool (prB t a i k)), H) := by
  refine WPv_eq (call_enter KC needT Try.func110 rfl rfl good110 rfl rfl rfl (by simp) hH ?_)
  have e : prB t a i k = ((a[i] == a[k]) == (t[i] == t[k])) := by unfold prB eqB; rw [getD_lt h, getD_lt h2, getD_lt h3, getD_lt h4]
  simp [h, h2, h3, h4, irow, gleave_free, e]
theorem alike_ok (a : List Int) (i k : Nat) (h : i < a.length) (h2 : k < a.length) (hH : 0 < H.length) : gcall KC (geval KC) 137 [.pure (.slice (a.map irow)), .pure (.int .i64 i), .pure (.int .i64 k)] c H = some (.pure (.bool (hasB a i && eqB a i k)), H) := by
  refine WPv_eq (call_enter KC needT Try.func137 rfl rfl good137 rfl rfl rfl (by simp) hH ?_)
  have e : hasB a i = decide (0 ≤ a[i]) := by unfold hasB; rw [getD_lt h]
  have e2 : eqB a i k = (a[i] == a[k]) := by unfold eqB; rw [getD_lt h, getD_lt h2]
  by_cases hp : 0 ≤ a[i]
  · simp [h, h2, irow, hp, e, e2, gleave_free]
  · simp [h, h2, irow, hp, e, e2, gleave_free]
theorem pair_ok (t a : List Int) (i k : Nat) (h : i < a.length) (h2 : k < a.length) (h3 : i < t.length) (h4 : k < t.length) (hH : 0 < H.length) : gcall KC (geval KC) 117 [.pure (.slice (t.map irow)), .pure (.slice (a.map irow)), .pure (.int .i64 i), .pure (.int .i64 k)] c H = some (.pure (.bool (pairB t a i k)), H) := by
  refine WPv_eq (call_enter KC needT Try.func117 rfl rfl good117 rfl rfl rfl (by simp) hH ?_)
  have e : hasB a i = decide (0 ≤ a[i]) := by unfold hasB; rw [getD_lt h]
  have e' : hasB a k = decide (0 ≤ a[k]) := by unfold hasB; rw [getD_lt h2]
  have e2 : prB t a i k = (eqB a i k == (t[i] == t[k])) := by unfold prB; rw [show eqB t i k = (t[i] == t[k]) by unfold eqB; rw [getD_lt h3, getD_lt h4]]
  have A := fun c (H : Heap) (hH : 0 < H.length) => alike_ok (c := c) (H := H) a i k h h2 hH
  unfold pairB
  by_cases hp : 0 ≤ a[i]
  · rw [e] at A
    by_cases hq : 0 ≤ a[k]
    · simp [h, h2, h3, h4, irow, hp, hq, e, e', e2, A, gleave_free]
    · simp [h, h2, h3, h4, irow, hp, hq, e, e', e2, A, gleave_free]
  · simp [h, h2, h3, h4, irow, hp, e, e', e2, A, gleave_free]
def badB (t a : List Int) (i k : Nat) : Bool := hasB a k && !pairB t a i k
def anyB (p : Nat → Bool) : Nat → Nat → Bool
  | 0, _ => false
  | k + 1, i => p i || anyB p k (i + 1)
theorem anyB_iff (p : Nat → Bool) : ∀ (k i : Nat), anyB p k i = true ↔ ∃ j, i ≤ j ∧ j < i + k ∧ p j = true
  | 0, i => by simp [anyB]; omega
  | k + 1, i => by
    simp only [anyB, Bool.or_eq_true, anyB_iff p k (i + 1)]
    constructor
    · rintro (h | ⟨j, a, b, d⟩)
      · exact ⟨i, by omega, by omega, h⟩
      · exact ⟨j, by omega, by omega, d⟩
    · rintro ⟨j, a, b, d⟩
      by_cases e : j = i
      · subst e; exact .inl d
      · exact .inr ⟨j, by omega, by omega, d⟩
def rightB (t a : List Int) (i : Nat) : Bool := if anyB (badB t a i) i 0 = true then false else hasB a i
theorem right_loop (t a : List Int) (i : Nat) (h : i < a.length) (h3 : i < t.length) (hn : t.length ≤ 1000000) (Q : GX → GSt → Prop) (hH : 0 < H.length) : ∀ k j : Nat, j + k = i →
    (anyB (badB t a i) k j = false → Q (.exit 0) ⟨[(1, .pure (.slice (a.map irow))), (2, .pure (.int .i64 i)), (6, gdead)], H, 31⟩) → (anyB (badB t a i) k j = true → Q .ret ⟨[(1, .pure (.slice (a.map irow))), (2, .pure (.int .i64 i)), (6, .pure (.bool false))], H, 31⟩) →
    WPL KC needT 115 (lp Try.f115 0) [0, 1, 2, 7] [1, 2, 6] Q [(0, .pure (.slice (t.map irow))), (1, .pure (.slice (a.map irow))), (2, .pure (.int .i64 i)), (7, .pure (.int .i64 j))] H 31 := by
  intro k
  induction k with
  | zero =>
    intro j hj h1 h2
    apply WPL_step
    conv => arg 4; whnf
    have : ¬ j < i := by omega
    simp [this, hH]
    exact h1 rfl
  | succ k ih =>
    intro j hj h1 h2
    have hji : j < i := by omega
    have hja : j < a.length := by omega
    have hjt : j < t.length := by omega
    have hw := w64 (x := (j : Int) + 1) (by omega) (by omega)
    unfold anyB at h1 h2
    have e : hasB a j = decide (0 ≤ a[j]) := by unfold hasB; rw [getD_lt hja]
    have P := fun c (H : Heap) (hH : 0 < H.length) => pair_ok (c := c) (H := H) t a i j h hja h3 hjt hH
    apply WPL_step
    conv => arg 4; whnf
    by_cases hp : 0 ≤ a[j]
    · by_cases hq : pairB t a i j = true
      · have eb : badB t a i j = false := by unfold badB; rw [hq]; simp
        rw [eb, Bool.false_or] at h1 h2
        simp [hji, hja, hH, irow, hp, P, hq, hw]
        simpa [irow] using ih (j + 1) (by omega) h1 h2
      · have hq' : pairB t a i j = false := by simpa using hq
        have eb : badB t a i j = true := by unfold badB; rw [hq', e]; simp [hp]
        rw [eb, Bool.true_or] at h2
        simp [hji, hja, hH, irow, hp, P, hq']
        simpa [irow] using h2 rfl
    · have eb : badB t a i j = false := by unfold badB; rw [e]; simp [hp]
      rw [eb, Bool.false_or] at h1 h2
      simp [hji, hja, hH, irow, hp, hw]
      simpa [irow] using ih (j + 1) (by omega) h1 h2
theorem right_ok (t a : List Int) (i : Nat) (h : i < a.length) (h3 : i < t.length) (hn : t.length ≤ 1000000) (hH : 0 < H.length) : gcall KC (geval KC) 115 [.pure (.slice (t.map irow)), .pure (.slice (a.map irow)), .pure (.int .i64 i)] c H = some (.pure (.bool (rightB t a i)), H) := by
  refine WPv_eq (call_enter KC needT Try.func115 rfl rfl good115 rfl rfl rfl (by simp) hH ?_)
  have e : hasB a i = decide (0 ≤ a[i]) := by unfold hasB; rw [getD_lt h]
  have L := fun Q => right_loop (H := [] :: H) t a i h h3 hn Q (by simp) i 0 (by omega)
  simp at L
  unfold rightB
  simp
  refine L _ (fun hh => ?_) (fun hh => ?_)
  · simp [hh, h, irow, gleave_free, e]
  · simp [hh, gleave_free]
def nearB (t a : List Int) (i k : Nat) : Bool := !(k == i) && (eqB t k i || (hasB a i && eqB a i k))
def heardB (t a : List Int) (i : Nat) : Bool := if anyB (nearB t a i) t.length 0 = true then false else hasB a i
theorem heard_loop (t a : List Int) (i : Nat) (hl : a.length = t.length) (h3 : i < t.length) (hn : t.length ≤ 1000000) (Q : GX → GSt → Prop) (hH : 0 < H.length) : ∀ k j : Nat, j + k = t.length →
    (anyB (nearB t a i) k j = false → Q (.exit 0) ⟨[(1, .pure (.slice (a.map irow))), (2, .pure (.int .i64 i)), (6, gdead)], H, 39⟩) → (anyB (nearB t a i) k j = true → Q .ret ⟨[(1, .pure (.slice (a.map irow))), (2, .pure (.int .i64 i)), (6, .pure (.bool false))], H, 39⟩) →
    WPL KC needT 116 (lp Try.f116 0) [0, 1, 2, 7] [1, 2, 6] Q [(0, .pure (.slice (t.map irow))), (1, .pure (.slice (a.map irow))), (2, .pure (.int .i64 i)), (7, .pure (.int .i64 j))] H 39 := by
  intro k
  induction k with
  | zero =>
    intro j hj h1 h2
    apply WPL_step
    conv => arg 4; whnf
    have : ¬ j < t.length := by omega
    simp [this, hH]
    exact h1 rfl
  | succ k ih =>
    intro j hj h1 h2
    have hjt : j < t.length := by omega
    have hja : j < a.length := by omega
    have hia : i < a.length := by omega
    have hw := w64 (x := (j : Int) + 1) (by omega) (by omega)
    unfold anyB at h1 h2
    have et : eqB t j i = (t[j] == t[i]) := by unfold eqB; rw [getD_lt hjt, getD_lt h3]
    have A := fun c (H : Heap) (hH : 0 < H.length) => alike_ok (c := c) (H := H) a i j hia hja hH
    apply WPL_step
    conv => arg 4; whnf
    by_cases hij : j = i
    · have eb : nearB t a i j = false := by unfold nearB; simp [hij]
      rw [eb, Bool.false_or] at h1 h2
      have ih' := ih (j + 1) (by omega) h1 h2
      subst hij
      simp [hjt, hH, irow, hw]
      simpa [irow] using ih'
    · have e1 : ((j : Int) != (i : Int)) = true := by simp; omega
      have e0 : (j == i) = false := by simpa using hij
      by_cases ht : t[j] = t[i]
      · have eb : nearB t a i j = true := by unfold nearB; rw [e0, et]; simp [ht]
        rw [eb, Bool.true_or] at h2
        simp [hjt, h3, hH, irow, e1, ht]
        simpa [irow] using h2 rfl
      · have ht' : (t[j] == t[i]) = false := by simpa using ht
        by_cases ha : (hasB a i && eqB a i j) = true
        · have eb : nearB t a i j = true := by unfold nearB; rw [e0, et, ht', ha]; rfl
          rw [eb, Bool.true_or] at h2
          rw [ha] at A
          simp [hjt, h3, hH, irow, e1, ht', A]
          simpa [irow] using h2 rfl
        · have ha' : (hasB a i && eqB a i j) = false := by simpa using ha
          have eb : nearB t a i j = false := by unfold nearB; rw [e0, et, ht', ha']; rfl
          rw [eb, Bool.false_or] at h1 h2
          rw [ha'] at A
          simp [hjt, h3, hH, irow, e1, ht', A, hw]
          simpa [irow] using ih (j + 1) (by omega) h1 h2
theorem heard_ok (t a : List Int) (i : Nat) (hl : a.length = t.length) (h3 : i < t.length) (hn : t.length ≤ 1000000) (hH : 0 < H.length) : gcall KC (geval KC) 116 [.pure (.slice (t.map irow)), .pure (.slice (a.map irow)), .pure (.int .i64 i)] c H = some (.pure (.bool (heardB t a i)), H) := by
  refine WPv_eq (call_enter KC needT Try.func116 rfl rfl good116 rfl rfl rfl (by simp) hH ?_)
  have h : i < a.length := by omega
  have e : hasB a i = decide (0 ≤ a[i]) := by unfold hasB; rw [getD_lt h]
  have L := fun Q => heard_loop (H := [] :: H) t a i hl h3 hn Q (by simp) t.length 0 (by omega)
  simp at L
  unfold heardB
  simp
  refine L _ (fun hh => ?_) (fun hh => ?_)
  · simp [hh, h, irow, gleave_free, e]
  · simp [hh, gleave_free]
end Go.Gh
