/- Blocks of partitions; two partitions held against one another. -/
import Derived.Test.YthcpepcmnmlmeaaSa
namespace Go.Gh
open Go.Proofs
set_option linter.unusedSimpArgs false
set_option linter.unusedVariables false
set_option linter.unnecessarySimpa false
set_option maxRecDepth 100000
set_option maxHeartbeats 4000000
variable {c : Nat} {H : Heap}
def maxL : List Int → Int → Int
  | [], m => m
  | x :: r, m => maxL r (if m < x then x else m)
theorem max_loop (l : List Int) (hn : l.length ≤ 1000000) (Q : GX → GSt → Prop) (hH : 0 < H.length) : ∀ (k i : Nat) (m : Int), i + k = l.length →
    Q (.exit 0) ⟨[(3, .pure (.int .i64 (maxL (l.drop i) m)))], H, 25⟩ →
    WPL KC needT 113 (lp Try.f113 0) [0, 3, 4] [3] Q [(0, .pure (.slice (l.map irow))), (3, .pure (.int .i64 m)), (4, .pure (.int .i64 i))] H 25 := by
  intro k
  induction k with
  | zero =>
    intro i m hi h1
    rw [drop_nil (by omega)] at h1
    apply WPL_step
    conv => arg 4; whnf
    have : ¬ i < l.length := by omega
    simp [this, hH]
    exact h1
  | succ k ih =>
    intro i m hi h1
    have hia : i < l.length := by omega
    have hw := w64 (x := (i : Int) + 1) (by omega) (by omega)
    rw [drop_cons hia] at h1
    simp only [maxL] at h1
    apply WPL_step
    conv => arg 4; whnf
    simp [hia, hH, irow, hw]
    simpa [irow] using ih (i + 1) _ (by omega) h1
def maxF (l : List Int) : Int := maxL (l.drop 1) (l.getD 0 0)
theorem max_ok (l : List Int) (h0 : l ≠ []) (hn : l.length ≤ 1000000) (hH : 0 < H.length) : gcall KC (geval KC) 113 [.pure (.slice (l.map irow))] c H = some (.pure (.int .i64 (maxF l)), H) := by
  refine bor_c rfl rfl rfl rfl rfl hH fun H hH => ?_
  refine WPv_eq (call_enter0 KC needT Try.func113 rfl rfl good113 (by simp) hH ?_)
  have hp : 0 < l.length := List.length_pos_iff.2 h0
  have e : ¬ (l.length : Int) < 1 := by omega
  have L := fun Q => max_loop (H := [] :: H) l hn Q (by simp) (l.length - 1) 1 l[0] (by omega)
  simp at L
  unfold maxF
  rw [getD_lt hp]
  have hp' : l.length ≠ 0 := by omega
  simp [e, h0, hp, irow]
  refine L _ ?_
  simp [gleave_free]
def blkF (l : List Int) : Int := maxL (l.map (· + 1)) 0
theorem maxL_succ : ∀ (l : List Int) (m : Int), maxL (l.map (· + 1)) (m + 1) = maxL l m + 1
  | [], m => rfl
  | x :: r, m => by
    simp only [List.map_cons, maxL]
    by_cases h : m < x
    · rw [if_pos (by omega), if_pos h, maxL_succ r x]
    · rw [if_neg (by omega), if_neg h, maxL_succ r m]
theorem maxF_blk {l : List Int} (h0 : l ≠ []) (hp : 0 ≤ l.getD 0 0) : maxF l + 1 = blkF l := by
  cases l with
  | nil => exact absurd rfl h0
  | cons x r =>
    have hx : 0 ≤ x := by simpa using hp
    unfold maxF blkF
    show maxL r x + 1 = maxL (r.map (· + 1)) (if 0 < x + 1 then x + 1 else 0)
    rw [if_pos (by omega), maxL_succ]
theorem maxL_ge : ∀ (l : List Int) (m : Int), m ≤ maxL l m ∧ ∀ x ∈ l, x ≤ maxL l m
  | [], m => ⟨Int.le_refl _, fun x h => absurd h List.not_mem_nil⟩
  | y :: r, m => by
    obtain ⟨a, b⟩ := maxL_ge r (if m < y then y else m)
    simp only [maxL]
    refine ⟨?_, fun x hx => ?_⟩
    · by_cases h : m < y
      · rw [if_pos h] at a ⊢; omega
      · rw [if_neg h] at a ⊢; omega
    · rcases List.mem_cons.1 hx with rfl | h
      · by_cases h : m < x
        · rw [if_pos h] at a ⊢; omega
        · rw [if_neg h] at a ⊢; omega
      · exact b x h
theorem maxL_mem : ∀ (l : List Int) (m : Int), maxL l m = m ∨ maxL l m ∈ l
  | [], m => .inl rfl
  | y :: r, m => by
    simp only [maxL]
    rcases maxL_mem r (if m < y then y else m) with h | h
    · rw [h]
      split
      · exact .inr (List.mem_cons_self ..)
      · exact .inl rfl
    · exact .inr (List.mem_cons_of_mem _ h)
theorem Blocks_loop (l : List Int) (hn : l.length ≤ 1000000) (hb : ∀ x ∈ l, 0 ≤ x ∧ x ≤ 1000000) (Q : GX → GSt → Prop) (hH : 0 < H.length) : ∀ (k i : Nat) (m : Int), i + k = l.length →
    Q (.exit 0) ⟨[(3, .pure (.int .i64 (maxL ((l.drop i).map (· + 1)) m)))], H, 19⟩ →
    WPL KC needT 140 (lp Try.f140 0) [0, 3, 4] [3] Q [(0, .pure (.slice (l.map irow))), (3, .pure (.int .i64 m)), (4, .pure (.int .i64 i))] H 19 := by
  intro k
  induction k with
  | zero =>
    intro i m hi h1
    rw [drop_nil (by omega)] at h1
    apply WPL_step
    conv => arg 4; whnf
    have : ¬ i < l.length := by omega
    simp [this, hH]
    exact h1
  | succ k ih =>
    intro i m hi h1
    have hia : i < l.length := by omega
    have hw := w64 (x := (i : Int) + 1) (by omega) (by omega)
    have hx := hb _ (List.getElem_mem hia)
    have hw2 := w64 (x := l[i] + 1) (by omega) (by omega)
    rw [drop_cons hia, List.map_cons] at h1
    simp only [maxL] at h1
    apply WPL_step
    conv => arg 4; whnf
    simp [hia, hH, irow, hw, hw2]
    simpa [irow] using ih (i + 1) _ (by omega) h1
theorem Blocks_ok (l : List Int) (hn : l.length ≤ 1000000) (hb : ∀ x ∈ l, 0 ≤ x ∧ x ≤ 1000000) (hH : 0 < H.length) : gcall KC (geval KC) 140 [.pure (.slice (l.map irow))] c H = some (.pure (.int .i64 (blkF l)), H) := by
  refine WPv_eq (call_enter KC needT Try.func140 rfl rfl good140 rfl rfl rfl (by simp) hH ?_)
  have L := fun Q => Blocks_loop (H := [] :: H) l hn hb Q (by simp) l.length 0 0 (by omega)
  simp at L
  unfold blkF
  simp
  refine L _ ?_
  simp [gleave_free]
theorem blocks_ok (l : List Int) (h0 : l ≠ []) (hn : l.length ≤ 1000000) (hb : ∀ x ∈ l, 0 ≤ x ∧ x ≤ 1000000) (hH : 0 < H.length) : gcall KC (geval KC) 112 [.pure (.slice (l.map irow))] c H = some (.pure (.int .i64 (blkF l)), H) := by
  refine WPv_eq (call_enter KC needT Try.func112 rfl rfl good112 rfl rfl rfl (by simp) hH ?_)
  have hp : 0 < l.length := List.length_pos_iff.2 h0
  have M := fun c (H : Heap) (hH : 0 < H.length) => max_ok (c := c) (H := H) l h0 hn hH
  have e := maxF_blk h0 (by rw [getD_lt hp]; exact (hb _ (List.getElem_mem hp)).1)
  have r : 0 ≤ maxF l ∧ maxF l ≤ 1000000 := by
    unfold maxF
    have g0 : l.getD 0 0 ∈ l := by rw [getD_lt hp]; exact List.getElem_mem hp
    rcases maxL_mem (l.drop 1) (l.getD 0 0) with h | h
    · rw [h]; exact hb _ g0
    · exact hb _ (List.mem_of_mem_drop h)
  have hw := w64 (x := maxF l + 1) (by omega) (by omega)
  rw [e] at hw
  simp [M, hw, e, gleave_free]
def bothE (a b : List Int) : Int := if chkP a ≠ 0 then chkP a else if chkP b ≠ 0 then chkP b else if (a.length : Int) ≠ b.length then 12 else 0
theorem both_ok (a b : List Int) (ha : a.length ≤ 1000000) (hb : b.length ≤ 1000000) (hH : 0 < H.length) : gcall KC (geval KC) 111 [.pure (.slice (a.map irow)), .pure (.slice (b.map irow))] c H = some (.pure (.int .i64 (bothE a b)), H) := by
  refine WPv_eq (call_enter KC needT Try.func111 rfl rfl good111 rfl rfl rfl (by simp) hH ?_)
  have A := fun c (H : Heap) (hH : 0 < H.length) => chk_ok (c := c) (H := H) a ha hH
  have B := fun c (H : Heap) (hH : 0 < H.length) => chk_ok (c := c) (H := H) b hb hH
  unfold bothE
  by_cases h1 : chkP a = 0
  · by_cases h2 : chkP b = 0
    · by_cases h3 : (a.length : Int) = b.length
      · have e3 : ((a.length : Int) != b.length) = false := by simpa using h3
        simp [A, B, h1, h2, h3, e3, gleave_free]
      · have e3 : ((a.length : Int) != b.length) = true := by simpa using h3
        simp [A, B, h1, h2, h3, e3, gleave_free]
    · have e2 : (chkP b != 0) = true := by simpa using h2
      simp [A, B, h1, h2, e2, gleave_free]
  · have e1 : (chkP a != 0) = true := by simpa using h1
    simp [A, B, h1, e1, gleave_free]
theorem checkBoth_ok (a b : List Int) (ha : a.length ≤ 1000000) (hb : b.length ≤ 1000000) (hH : 0 < H.length) : gcall KC (geval KC) 138 [.pure (.slice (a.map irow)), .pure (.slice (b.map irow))] c H = some (.pure (.int .i64 (bothE a b)), H) := by
  refine WPv_eq (call_enter KC needT Try.func138 rfl rfl good138 rfl rfl rfl (by simp) hH ?_)
  have A := fun c (H : Heap) (hH : 0 < H.length) => chkR_ok (c := c) (H := H) a ha hH
  have B := fun c (H : Heap) (hH : 0 < H.length) => chkR_ok (c := c) (H := H) b hb hH
  unfold bothE
  by_cases h1 : chkP a = 0
  · by_cases h2 : chkP b = 0
    · by_cases h3 : (a.length : Int) = b.length
      · have e3 : ((a.length : Int) != b.length) = false := by simpa using h3
        simp [A, B, h1, h2, h3, e3, gleave_free]
      · have e3 : ((a.length : Int) != b.length) = true := by simpa using h3
        simp [A, B, h1, h2, h3, e3, gleave_free]
    · have e2 : (chkP b != 0) = true := by simpa using h2
      simp [A, B, h1, h2, e2, gleave_free]
  · have e1 : (chkP a != 0) = true := by simpa using h1
    simp [A, B, h1, e1, gleave_free]
def comL (x y : Int) : List Int → List Int → Nat
  | p :: a, q :: b => (if p = x ∧ q = y then 1 else 0) + comL x y a b
  | _, _ => 0
theorem comL_le (x y : Int) : ∀ a b : List Int, comL x y a b ≤ a.length
  | [], _ => Nat.zero_le _
  | _ :: _, [] => Nat.zero_le _
  | p :: a, q :: b => by
    have := comL_le x y a b
    simp only [comL, List.length_cons]
    split <;> omega
theorem common_loop (a b : List Int) (hl : a.length = b.length) (hn : a.length ≤ 1000000) (x y : Int) (Q : GX → GSt → Prop) (hH : 0 < H.length) : ∀ k i n : Nat, i + k = a.length → n ≤ i →
    Q (.exit 0) ⟨[(9, .pure (.int .i64 ((n + comL x y (a.drop i) (b.drop i) : Nat) : Int)))], H, 34⟩ →
    WPL KC needT 152 (lp Try.f152 0) [0, 1, 2, 3, 9, 10] [9] Q [(0, .pure (.slice (a.map irow))), (1, .pure (.slice (b.map irow))), (2, .pure (.int .i64 x)), (3, .pure (.int .i64 y)), (9, .pure (.int .i64 (n : Int))), (10, .pure (.int .i64 i))] H 34 := by
  intro k
  induction k with
  | zero =>
    intro i n hi hni h1
    rw [drop_nil (by omega)] at h1
    apply WPL_step
    conv => arg 4; whnf
    have : ¬ i < a.length := by omega
    simp [this, hH]
    simpa [comL] using h1
  | succ k ih =>
    intro i n hi hni h1
    have hia : i < a.length := by omega
    have hib : i < b.length := by omega
    have hw := w64 (x := (i : Int) + 1) (by omega) (by omega)
    have hw2 := w64 (x := (n : Int) + 1) (by omega) (by omega)
    rw [drop_cons hia, drop_cons hib] at h1
    simp only [comL] at h1
    apply WPL_step
    conv => arg 4; whnf
    by_cases e1 : a[i] = x
    · by_cases e2 : b[i] = y
      · have ih' := ih (i + 1) (n + 1) (by omega) (by omega) (by
          have e : n + 1 + comL x y (a.drop (i + 1)) (b.drop (i + 1)) = n + ((if a[i] = x ∧ b[i] = y then 1 else 0) + comL x y (a.drop (i + 1)) (b.drop (i + 1))) := by rw [if_pos ⟨e1, e2⟩]; omega
          rw [e]; exact h1)
        simp [hia, hib, hH, irow, e1, e2, hw, hw2]
        simpa [irow] using ih'
      · have e2' : (b[i] == y) = false := by simpa using e2
        have ih' := ih (i + 1) n (by omega) (by omega) (by
          rw [if_neg (fun h => e2 h.2), Nat.zero_add] at h1; exact h1)
        simp [hia, hib, hH, irow, e1, e2', hw]
        simpa [irow] using ih'
    · have e1' : (a[i] == x) = false := by simpa using e1
      have ih' := ih (i + 1) n (by omega) (by omega) (by
        rw [if_neg (fun h => e1 h.1), Nat.zero_add] at h1; exact h1)
      simp [hia, hib, hH, irow, e1', hw]
      simpa [irow] using ih'
theorem common_ok (a b : List Int) (hl : a.length = b.length) (hn : a.length ≤ 1000000) (x y : Int) (hH : 0 < H.length) : gcall KC (geval KC) 152 [.pure (.slice (a.map irow)), .pure (.slice (b.map irow)), .pure (.int .i64 x), .pure (.int .i64 y)] c H = some (.pure (.int .i64 (comL x y a b : Nat)), H) := by
  refine WPv_eq (call_enter KC needT Try.func152 rfl rfl good152 rfl rfl rfl (by simp) hH ?_)
  simp
  have L := fun Q => common_loop (H := [] :: H) a b hl hn x y Q (by simp) a.length 0 0 (by omega) (by omega)
  simp at L
  refine L _ ?_
  simp [gleave_free]
end Go.Gh


/- How many packets can stay where they are: the reference's search. -/
namespace Go.Gh
open Go.Proofs
set_option linter.unusedSimpArgs false
set_option linter.unusedVariables false
set_option linter.unnecessarySimpa false
set_option maxRecDepth 100000
set_option maxHeartbeats 4000000
def brow (b : Bool) : List PV := [.bool b]
/-- The blocks y, y + 1, .. one behind the other. -/
def stepY (com : Nat → Nat) (rec : List Bool → Nat) (T : List Bool) : Nat → Nat → Nat → Nat
  | 0, _, best => best
  | j + 1, y, best => stepY com rec T j (y + 1) (if 0 < com y ∧ T.getD y false = false then max best (com y + rec (T.set y true)) else best)
def stG (com : Nat → Nat → Nat) (B : Nat) : Nat → List Bool → Nat
  | 0, _ => 0
  | k + 1, T => stepY (com (B - (k + 1))) (stG com B k) T T.length 0 (stG com B k T)
theorem stepY_le {com : Nat → Nat} {rec : List Bool → Nat} {T : List Bool} {m : Nat} (h : ∀ y, y < T.length → com y + rec (T.set y true) ≤ m) : ∀ j y best, y + j = T.length → best ≤ m → stepY com rec T j y best ≤ m
  | 0, _, _, _, hb => hb
  | j + 1, y, best, hy, hb => by
    simp only [stepY]
    have := h y (by omega)
    refine stepY_le h j (y + 1) _ (by omega) ?_
    split <;> omega
theorem stG_le {com : Nat → Nat → Nat} {B n : Nat} (h : ∀ x y, com x y ≤ n) : ∀ k T, stG com B k T ≤ k * n
  | 0, _ => Nat.zero_le _
  | k + 1, T => by
    simp only [stG]
    have e : (k + 1) * n = n + k * n := by rw [Nat.succ_mul]; omega
    refine stepY_le (fun y _ => ?_) _ _ _ (by omega) ?_
    · have := stG_le (B := B) h k (T.set y true)
      have := h (B - (k + 1)) y
      omega
    · have := stG_le (B := B) h k T
      omega
def tblk (T : List Bool) (v : Nat) : Blk := .arr 1 (T.map brow) v false
/-- What a call of stay tells. -/
def StayAt (a b : List Int) (com : Nat → Nat → Nat) (B k : Nat) : Prop :=
  ∀ (T : List Bool) (v : Nat) (nm : Nm) (H : Heap) (c : Nat), v ≤ T.length → T.length ≤ 9 → nm.1 < H.length → H.get nm = some (tblk T v) → H.set nm (tblk T v) = H → ∃ v', v' ≤ T.length ∧
    gcall KC (geval KC) 139 [.pure (.slice (a.map irow)), .pure (.slice (b.map irow)), .pure (.int .i64 ((B - k : Nat) : Int)), .hdr nm 1 T.length 0 T.length] c H = some (.pure (.int .i64 (stG com B k T : Nat)), H.set nm (tblk T v'))
theorem stay_loop {a b : List Int} (hl : a.length = b.length) (hn : a.length ≤ 9) {com : Nat → Nat → Nat} (hc : ∀ x y : Nat, com x y = comL x y a b) {B k : Nat} (hk : k + 1 ≤ B) (hB : B ≤ 9) (ih0 : StayAt a b com B k) {T : List Bool} (hT : T.length ≤ 9) {nm : Nm} {H : Heap} (hlt : nm.1 < H.length) (Q : GX → GSt → Prop) :
    ∀ (j y best v : Nat), y + j = T.length → best ≤ 1000 → v ≤ T.length → (∀ v', v' ≤ T.length → Q (.exit 0) ⟨[(9, .pure (.int .i64 (stepY (com (B - (k + 1))) (stG com B k) T j y best : Nat)))], [] :: H.set nm (tblk T v'), 59⟩) →
    WPL KC needT 139 (lp Try.f139 0) [0, 1, 2, 3, 9, 10] [9] Q [(0, .pure (.slice (a.map irow))), (1, .pure (.slice (b.map irow))), (2, .pure (.int .i64 ((B - (k + 1) : Nat) : Int))), (3, .hdr nm 1 T.length 0 T.length), (9, .pure (.int .i64 (best : Int))), (10, .pure (.int .i64 y))] ([] :: H.set nm (tblk T v)) 59 := by
  have hne : ¬ nm.1 = H.length := by omega
  have hne2 : ¬ nm.1 = H.length + 1 := by omega
  have hle : nm.1 ≤ H.length := by omega
  intro j
  induction j with
  | zero =>
    intro y best v hy hb hv h1
    apply WPL_step
    conv => arg 4; whnf
    have : ¬ y < T.length := by omega
    simp [this, hle]
    exact h1 v hv
  | succ j ih =>
    intro y best v hy hb hv h1
    have hyT : y < T.length := by omega
    have hw := w64 (x := (y : Int) + 1) (by omega) (by omega)
    simp only [stepY] at h1
    have C := fun c (H : Heap) (hH : 0 < H.length) => common_ok (c := c) (H := H) a b hl (by omega) ((B - (k + 1) : Nat) : Int) (y : Int) hH
    rw [← hc] at C
    have cl : com (B - (k + 1)) y ≤ 9 := by rw [hc]; have := comL_le ((B - (k + 1) : Nat) : Int) y a b; omega
    have eg : T.getD y false = T[y] := getD_lt hyT
    rw [eg] at h1
    have hl2 : ∀ b, (H.set nm b).length = H.length := fun b => Heap.length_set _ _ _
    apply WPL_step
    conv => arg 4; whnf
    by_cases h0 : 0 < com (B - (k + 1)) y
    · have h0' : (0 : Int) < com (B - (k + 1)) y := by omega
      by_cases ht : T[y] = true
      · rw [if_neg (by rw [ht]; simp)] at h1
        have ih' := ih (y + 1) best v (by omega) hb hv h1
        simp [hyT, hle, hlt, hl2, hne, hne2, C, h0, h0', tblk, brow, hv, ht, hw]
        simpa [tblk, brow] using ih'
      · have ht' : T[y] = false := by simpa using ht
        rw [if_pos ⟨h0, ht'⟩] at h1
        obtain ⟨v1, hv1, e1⟩ := ih0 (T.set y true) T.length nm ([] :: [] :: H.set nm (tblk (T.set y true) T.length)) 52 (by simp) (by simpa using hT) (by simp [hl2]; omega) (by simp [hl2, hne, hne2, hlt]) (by rw [Heap.set_up (by simp [hl2]; omega), Heap.set_up (by rw [hl2]; exact hlt), Heap.set_set])
        have hs := stG_le (com := com) (B := B) (n := 9) (fun x y => by rw [hc]; have := comL_le x y a b; omega) k (T.set y true)
        have hk9 : k * 9 ≤ 9 * 9 := Nat.mul_le_mul (by omega) (Nat.le_refl _)
        have hw2 := w64 (x := ((com (B - (k + 1)) y : Nat) : Int) + (stG com B k (T.set y true) : Nat)) (by omega) (by omega)
        have e0 : ((B - (k + 1) : Nat) : Int) + 1 = ((B - k : Nat) : Int) := by omega
        have hw3 : IntKind.i64.wrap (((B - (k + 1) : Nat) : Int) + 1) = ((B - k : Nat) : Int) := by rw [e0]; exact w64 (by omega) (by omega)
        have hset : (T.set y true).set y false = T := by rw [List.set_set, ← ht', List.set_getElem_self]
        have hm : (if (best : Int) < (com (B - (k + 1)) y : Nat) + (stG com B k (T.set y true) : Nat) then ((com (B - (k + 1)) y : Nat) : Int) + (stG com B k (T.set y true) : Nat) else (best : Int)) = ((max best (com (B - (k + 1)) y + stG com B k (T.set y true)) : Nat) : Int) := by split <;> omega
        have ih' := ih (y + 1) (max best (com (B - (k + 1)) y + stG com B k (T.set y true))) T.length (by omega) (by omega) (Nat.le_refl _) h1
        simp only [List.length_set, Heap.set_up (show nm.1 < ([] :: H.set nm (tblk (T.set y true) T.length) : Heap).length by simp [hl2]; omega), Heap.set_up (show nm.1 < (H.set nm (tblk (T.set y true) T.length)).length by rw [hl2]; exact hlt), Heap.set_set] at e1
        have hr0 : ∀ x : Bool, ([PV.bool x] : List PV).length = 1 := fun _ => rfl
        have hmap3 : (T.map brow).set y [.bool false] = T.map brow := by
          have e : ([PV.bool false] : List PV) = (T.map brow)[y]'(by simpa using hyT) := by simp [ht', brow]
          rw [e, List.set_getElem_self]
        simp only [tblk, List.map_set] at e1 ih'
        simp only [brow] at e1
        simp [hyT, hle, hlt, hl2, hne, hne2, C, h0, h0', tblk, brow, hv, hw, hw3, hw2, ht', e1, hmap3, hv1, splice, hm]
        simpa [tblk, brow] using ih'
    · have h0' : ¬ (0 : Int) < com (B - (k + 1)) y := by omega
      rw [if_neg (fun h => h0 h.1)] at h1
      have ih' := ih (y + 1) best v (by omega) hb hv h1
      simp [hyT, hle, C, h0, h0', hw]
      simpa using ih'
theorem stay_ok {a b : List Int} (hl : a.length = b.length) (h0 : a ≠ []) (hn : a.length ≤ 9) (ha : ∀ x ∈ a, 0 ≤ x ∧ x ≤ 1000000) {com : Nat → Nat → Nat} (hc : ∀ x y : Nat, com x y = comL x y a b) {B : Nat} (hB : B ≤ 9) (eB : blkF a = B) : ∀ k, k ≤ B → StayAt a b com B k
  | 0, _ => fun T v nm H c hv hT hlt hg hs => by
    refine ⟨v, hv, ?_⟩
    have Bl := fun c (H : Heap) (hH : 0 < H.length) => Blocks_ok (c := c) (H := H) a (by omega) ha hH
    rw [eB] at Bl
    refine WPv_eq (call_enterR KC needT Try.func139 rfl rfl good139 rfl rfl rfl (by simp) (by omega) ?_)
    rw [hs]
    simp [Bl, stG, gleave_free]
  | k + 1, hk => fun T v nm H c hv hT hlt hg hs0 => by
    have hne : ¬ nm.1 = H.length := by omega
    have hne2 : ¬ nm.1 = H.length + 1 := by omega
    have hle : nm.1 ≤ H.length := by omega
    have ih0 := stay_ok hl h0 hn ha hc hB eB k (by omega)
    have Bl := fun c (H : Heap) (hH : 0 < H.length) => Blocks_ok (c := c) (H := H) a (by omega) ha hH
    rw [eB] at Bl
    obtain ⟨v1, hv1, e1⟩ := ih0 T v nm ([] :: H) 21 hv hT (by simp; omega) (by simp [hne, hg]) (by rw [Heap.set_up hlt, hs0])
    have hne3 : (((B - (k + 1) : Nat) : Int) == (B : Int)) = false := by simp; omega
    have e0 : ((B - (k + 1) : Nat) : Int) + 1 = ((B - k : Nat) : Int) := by omega
    have hw3 : IntKind.i64.wrap (((B - (k + 1) : Nat) : Int) + 1) = ((B - k : Nat) : Int) := by rw [e0]; exact w64 (by omega) (by omega)
    rw [Heap.set_up hlt] at e1
    have hs := stG_le (com := com) (B := B) (n := 9) (fun x y => by rw [hc]; have := comL_le x y a b; omega) k T
    have hk9 : k * 9 ≤ 9 * 9 := Nat.mul_le_mul (by omega) (Nat.le_refl _)
    have L := fun Q => stay_loop hl hn hc (k := k) hk hB ih0 hT hlt Q T.length 0 (stG com B k T) v1 (by omega) (by omega) hv1
    simp at L
    suffices hs : WPv (gcall KC (geval KC) 139 [.pure (.slice (a.map irow)), .pure (.slice (b.map irow)), .pure (.int .i64 ((B - (k + 1) : Nat) : Int)), .hdr nm 1 T.length 0 T.length] c H) (fun r => ∃ v', v' ≤ T.length ∧ r = (.pure (.int .i64 (stG com B (k + 1) T : Nat)), H.set nm (tblk T v'))) by
      obtain ⟨r, hr, v', hv', e⟩ := hs
      exact ⟨v', hv', by rw [hr, e]⟩
    refine call_enterR KC needT Try.func139 rfl rfl good139 rfl rfl rfl (by simp) (by omega) ?_
    simp [Bl, hne3, hw3, e1, hle]
    refine L _ (fun v' hv' => ?_)
    simp [gleave_free, stG]
    exact ⟨v', hv', rfl⟩
def movV (a b : List Int) : Int := (a.length : Int) - (stG (fun x y => comL x y a b) (blkF a).toNat (blkF a).toNat (List.replicate (blkF b).toNat false) : Nat)
def movT (a b : List Int) : List PV := if bothE a b ≠ 0 then [.int .i64 0, .int .i64 (bothE a b)] else [.int .i64 (movV a b), .int .i64 0]
end Go.Gh


/- How many packets have to be moved, by the reference. -/
namespace Go.Gh
open Go.Proofs
set_option linter.unusedSimpArgs false
set_option linter.unusedVariables false
set_option linter.unnecessarySimpa false
set_option maxRecDepth 100000
set_option maxHeartbeats 4000000
variable {c : Nat} {H : Heap}
theorem chkL_rng : ∀ (l : List Int) (m : Int), chkL l m = 0 → ∀ x ∈ l, 0 ≤ x ∧ x ≤ 8
  | [], _, _, x, hx => absurd hx List.not_mem_nil
  | y :: r, m, h, x, hx => by
    simp only [chkL] at h
    split at h
    · cases h
    · rename_i h1
      split at h
      · cases h
      · rcases List.mem_cons.1 hx with rfl | hx
        · omega
        · exact chkL_rng r _ h x hx
structure PartOk (l : List Int) : Prop where
  ne : l ≠ []
  le : l.length ≤ 9
  rng : ∀ x ∈ l, 0 ≤ x ∧ x ≤ 8
  ck : chkL l 0 = 0
theorem chkP_zero {l : List Int} (h : chkP l = 0) : PartOk l := by
  unfold chkP at h
  split at h
  · cases h
  · rename_i h1
    split at h
    · cases h
    · rename_i h2
      exact ⟨fun e => h1 (by rw [e]; rfl), by omega, chkL_rng l 0 h, h⟩
theorem PartOk.zero {l : List Int} (h : PartOk l) : chkP l = 0 := by
  unfold chkP
  have h1 := h.le
  have h2 : l.length ≠ 0 := fun e => h.ne (List.length_eq_zero_iff.1 e)
  rw [if_neg h2, if_neg (by omega)]
  exact h.ck
theorem PartOk.blk {l : List Int} (h : PartOk l) : ∃ B : Nat, blkF l = B ∧ 1 ≤ B ∧ B ≤ 9 := by
  have hp : 0 < l.length := List.length_pos_iff.2 h.ne
  have g := maxL_ge (l.map (· + 1)) 0
  have g1 := g.2 (l[0] + 1) (List.mem_map.2 ⟨l[0], List.getElem_mem hp, rfl⟩)
  have g2 := (h.rng _ (List.getElem_mem hp)).1
  have g3 : blkF l ≤ 9 := by
    unfold blkF
    rcases maxL_mem (l.map (· + 1)) 0 with e | e
    · rw [e]; decide
    · obtain ⟨x, hx, e⟩ := List.mem_map.1 e
      have := (h.rng x hx).2
      omega
  have g4 : 1 ≤ blkF l := by unfold blkF; omega
  exact ⟨(blkF l).toNat, by omega, by omega, by omega⟩
theorem bothE_zero {a b : List Int} (h : bothE a b = 0) : PartOk a ∧ PartOk b ∧ a.length = b.length := by
  unfold bothE at h
  split at h
  · rename_i h1; exact absurd h h1
  · rename_i h1
    split at h
    · rename_i h2; exact absurd h h2
    · rename_i h2
      split at h
      · cases h
      · rename_i h3
        exact ⟨chkP_zero (by simpa using h1), chkP_zero (by simpa using h2), by omega⟩
theorem MovesR_ok (a b : List Int) (ha : a.length ≤ 1000000) (hb : b.length ≤ 1000000) (hH : 0 < H.length) : gcall KC (geval KC) 118 [.pure (.slice (a.map irow)), .pure (.slice (b.map irow))] c H = some (.pure (.tuple (movT a b)), H) := by
  refine WPv_eq (call_enter KC needT Try.func118 rfl rfl good118 rfl rfl rfl (by simp) hH ?_)
  have E := fun c (H : Heap) (hH : 0 < H.length) => checkBoth_ok (c := c) (H := H) a b ha hb hH
  unfold movT
  by_cases h : bothE a b = 0
  · obtain ⟨pa, pb, hl⟩ := bothE_zero h
    obtain ⟨A, eA, a1, a9⟩ := pa.blk
    obtain ⟨B, eB, b1, b9⟩ := pb.blk
    have Bl := fun c (H : Heap) (hH : 0 < H.length) => Blocks_ok (c := c) (H := H) b hb (fun x hx => ⟨(pb.rng x hx).1, by have := (pb.rng x hx).2; omega⟩) hH
    rw [eB] at Bl
    have tl : (List.replicate B false).length = B := by simp
    obtain ⟨v', hv', e1⟩ := stay_ok hl pa.ne pa.le (fun x hx => ⟨(pa.rng x hx).1, by have := (pa.rng x hx).2; omega⟩) (com := fun x y => comL x y a b) (fun _ _ => rfl) (B := A) a9 eA A (Nat.le_refl _) (List.replicate B false) 0 (H.length, 19) ([(19, tblk (List.replicate B false) 0)] :: H) 20 (Nat.zero_le _) (by simp; omega) (by simp) (by simp) (by simp)
    rw [tl, Nat.sub_self] at e1
    have es : (List.replicate B false).map brow = List.replicate B [.bool false] := by simp [brow]
    simp only [tblk, es] at e1
    have hs := stG_le (com := fun x y => comL x y a b) (B := A) (n := 9) (fun x y => by have := comL_le x y a b; have := pa.le; omega) A (List.replicate B false)
    have hk9 : A * 9 ≤ 9 * 9 := Nat.mul_le_mul a9 (Nat.le_refl _)
    have hm : movV a b = (a.length : Int) - (stG (fun x y => comL x y a b) A A (List.replicate B false) : Nat) := by
      unfold movV
      rw [eA, eB]; rfl
    have le9 := pa.le
    have hw := w64 (x := (a.length : Int) - (stG (fun x y => comL x y a b) A A (List.replicate B false) : Nat)) (by omega) (by omega)
    have hB9 : (B : Int) ≤ 1099511627776 := by omega
    rw [h, hm]
    simp at e1
    simp [E, h, Bl, hB9, e1, hw, gleave_free]
  · have e1 : (bothE a b != 0) = true := by simpa using h
    simp [E, h, e1, gleave_free]
end Go.Gh


/- How many packets can stay: the program's search by sets. Its steps; the innermost loop. -/
namespace Go.Gh
open Go.Proofs
set_option linter.unusedSimpArgs false
set_option linter.unusedVariables false
set_option linter.unnecessarySimpa false
set_option maxRecDepth 100000
set_option maxHeartbeats 4000000
variable {c : Nat} {H : Heap}
def mx2 (p q : Int) : Int := if p < q then q else p
def yF (cm : Nat → Nat) (kv : Int) (set : Nat) : Nat → Nat → List Int → List Int
  | 0, _, N => N
  | j + 1, y, N => yF cm kv set j (y + 1) (if set.testBit y = false then N.set (set ||| 2 ^ y) (mx2 (N.getD (set ||| 2 ^ y) 0) (kv + cm y)) else N)
def sF (cm : Nat → Nat) (K : List Int) (B : Nat) : Nat → Nat → List Int → List Int
  | 0, _, N => N
  | j + 1, s, N => sF cm K B j (s + 1) (if K.getD s 0 < 0 then N else yF cm (K.getD s 0) s B 0 N)
def rF (com : Nat → Nat → Nat) (B : Nat) : Nat → Nat → List Int → List Int
  | 0, _, K => K
  | j + 1, x, K => rF com B j (x + 1) (sF (com x) K B (2 ^ B) 0 K)
theorem yF_len {cm : Nat → Nat} {kv : Int} {set : Nat} : ∀ j y N, (yF cm kv set j y N).length = N.length
  | 0, _, _ => rfl
  | j + 1, y, N => by
    simp only [yF]
    rw [yF_len]
    split <;> simp
theorem sF_len {cm : Nat → Nat} {K : List Int} {B : Nat} : ∀ j s N, (sF cm K B j s N).length = N.length
  | 0, _, _ => rfl
  | j + 1, s, N => by
    simp only [sF]
    rw [sF_len]
    split
    · rfl
    · exact yF_len _ _ _
theorem rF_len {com : Nat → Nat → Nat} {B : Nat} : ∀ j x K, (rF com B j x K).length = K.length
  | 0, _, _ => rfl
  | j + 1, x, K => by
    simp only [rF]
    rw [rF_len, sF_len]
/-- All numbers from -1 up to a bound. -/
def Bd (m : Int) (l : List Int) : Prop := ∀ x ∈ l, -1 ≤ x ∧ x ≤ m
theorem Bd.set {m : Int} {l : List Int} (h : Bd m l) (i : Nat) {x : Int} (h1 : -1 ≤ x) (h2 : x ≤ m) : Bd m (l.set i x) := fun y hy => by
  rcases List.mem_or_eq_of_mem_set hy with h' | h'
  · exact h y h'
  · subst h'; exact ⟨h1, h2⟩
theorem Bd.getD {m : Int} {l : List Int} (h : Bd m l) {i : Nat} (hi : i < l.length) : -1 ≤ l.getD i 0 ∧ l.getD i 0 ≤ m := by rw [getD_lt hi]; exact h _ (List.getElem_mem hi)
theorem or_lt {s y B : Nat} (hs : s < 2 ^ B) (hy : y < B) : s ||| 2 ^ y < 2 ^ B := Nat.or_lt_two_pow hs (Nat.pow_lt_pow_right (by omega) hy)
theorem bvn (n : Nat) (h : n < 2 ^ 63) : (BitVec.ofInt 64 (n : Int)).toNat = n := by
  rw [BitVec.ofInt_natCast, BitVec.toNat_ofNat, Nat.mod_eq_of_lt (by omega)]
theorem band_nat {a b : Nat} (ha : a < 2 ^ 62) (hb : b < 2 ^ 62) : band .i64 (a : Int) (b : Int) = ((a &&& b : Nat) : Int) := by
  unfold band
  show IntKind.i64.wrap (BitVec.ofInt 64 (a : Int) &&& BitVec.ofInt 64 (b : Int)).toNat = _
  rw [BitVec.toNat_and, bvn a (by omega), bvn b (by omega)]
  have : a &&& b < 2 ^ 62 := Nat.and_lt_two_pow _ hb
  exact w64 (by omega) (by omega)
theorem bor_nat {a b : Nat} (ha : a < 2 ^ 62) (hb : b < 2 ^ 62) : bor .i64 (a : Int) (b : Int) = ((a ||| b : Nat) : Int) := by
  unfold bor
  show IntKind.i64.wrap (BitVec.ofInt 64 (a : Int) ||| BitVec.ofInt 64 (b : Int)).toNat = _
  rw [BitVec.toNat_or, bvn a (by omega), bvn b (by omega)]
  have : a ||| b < 2 ^ 62 := Nat.or_lt_two_pow ha hb
  exact w64 (by omega) (by omega)
theorem shr_nat (s y : Nat) (hy : y ≤ 64) : (s : Int).fdiv (2 ^ (min y 64)) = ((s >>> y : Nat) : Int) := by
  have e : min y 64 = y := by omega
  rw [e, Int.fdiv_eq_ediv_of_nonneg _ (by exact Int.le_of_lt (Int.pow_pos (by decide))), Nat.shiftRight_eq_div_pow]
  simp
theorem bit_eq (s y : Nat) (hs : s < 2 ^ 62) (hy : y ≤ 64) : (band .i64 ((s : Int).fdiv (2 ^ (min y 64))) 1 == 0) = !s.testBit y := by
  rw [shr_nat s y hy]
  have h1 : s >>> y < 2 ^ 62 := Nat.lt_of_le_of_lt (Nat.shiftRight_le s y) hs
  have := band_nat (a := s >>> y) (b := 1) h1 (by decide)
  have e1 : ((1 : Nat) : Int) = 1 := rfl
  rw [e1] at this
  have hv : s >>> y &&& 1 = s >>> y % 2 := Nat.and_one_is_mod _
  have ht : s.testBit y = (s >>> y % 2 != 0) := by
    rw [Nat.testBit, Nat.and_comm, hv]
  rw [this, hv, ht]
  rcases Nat.mod_two_eq_zero_or_one (s >>> y) with h | h <;> rw [h] <;> rfl
theorem shl_eq (y : Nat) (hy : y ≤ 9) : IntKind.i64.wrap (1 * 2 ^ (min y 64)) = ((2 ^ y : Nat) : Int) := by
  have e : min y 64 = y := by omega
  have h : 2 ^ y ≤ 2 ^ 9 := Nat.pow_le_pow_right (by decide) hy
  have e2 : (1 * 2 ^ y : Int) = ((2 ^ y : Nat) : Int) := by simp
  rw [e, e2]
  have h9 : 2 ^ 9 = 512 := rfl
  generalize 2 ^ y = p at h
  exact w64 (by omega) (by omega)
def cellsT (tab : List Nat) : List GV := tab.map fun (n : Nat) => .pure (.int .i64 (n : Int))
@[simp] theorem cellsT_len {tab : List Nat} : (cellsT tab).length = tab.length := by simp [cellsT]
theorem cellsT_get {tab : List Nat} {i : Nat} (h : i < tab.length) : (cellsT tab)[i]? = some (.pure (.int .i64 (tab[i] : Nat))) := by simp [cellsT, h]
theorem cellsT_set {tab : List Nat} {i : Nat} {n : Nat} (h : i < tab.length) : splice (cellsT tab) i [.pure (.int .i64 (n : Nat))] = cellsT (tab.set i n) := by
  unfold splice cellsT
  rw [List.map_set, List.set_eq_take_append_cons_drop, if_pos (by simpa using h)]
  simp
theorem gcall_frz' {K : Ctx} {rec : Rec} {f : FuncId} {args : List GV} {c : Nat} {H : Heap} (hz : (K.cln f && emptyArg args) = false) (hb : K.bor f = false) (hf : K.frz f = true) : gcall K rec f args c H = gcall0 K rec f (frzVals H args).1 c (frzVals H args).2 := by
  unfold gcall
  rw [hz, hb, hf]
  simp
@[simp] theorem nil22 {a : List (List PV)} {b : List PV} : gnilEq KC .eql 22 (.pure (.slice (b :: a))) = some (.bool false) := by simp [gnilEq, nonNil]
theorem clone_ok0 (l : List Int) (h0 : l ≠ []) (hn : l.length ≤ 1000000) (hH : 0 < H.length) (hf : H.get (H.length - 1, newKey c 7) = none) :
    gcall0 KC (geval KC) 108 [.pure (.slice (l.map irow))] c H = some (.hdr (H.length - 1, newKey c 7) 1 l.length 0 l.length, H.set (H.length - 1, newKey c 7) (.arr 1 (l.map irow) 0 false)) := by
  obtain ⟨x, l', rfl⟩ := List.exists_cons_of_ne_nil h0
  have hb : (l'.length + 1) * 8 ≤ 1099511627776 := by simp at hn; omega
  have hall : ∀ x : Int, (irow x).length = 1 := fun x => rfl
  have hnl : ¬ H.length + 1 ≤ H.length := by omega
  refine WPv_eq (call_enter0 KC needT Try.func108 rfl rfl good108 (by simp) hH ?_)
  simp [hb, hall, hnl, gleave_keep, refs, refs2, refs1, deepRefs, boxRefs, matRefs, dedup, moveOut, cleanBlk, hf, ren, ren2, ren1]
end Go.Gh
