/- Texts joined: the evaluator over ghost values, its soundness, the walks. Spaces struck and names made short by a program, for the size. -/
import Derived.Test.YtgmohiojddnfgaaGreatDoorGc5g
import Derived.Test.YtgmohiojddnfgaaGreatDoorGc5e
import Derived.ProofKit
import Derived.OpenShut
import Derived.ChangeOld
import Derived.Below
import Derived.Carry
import Derived.Test.YtgmohiojddnfgaaGreatDoorGc5b
import Derived.ChangeKeysEq
namespace Go.Gh
open Go.Proofs
set_option linter.unusedVariables false
set_option linter.unusedSimpArgs false
set_option linter.unnecessarySimpa false
set_option maxRecDepth 100000
set_option maxHeartbeats 8000000
theorem join_no {c d : UInt8} (hcd : d ≠ c) : ∀ {ws : List (List UInt8)}, (∀ w ∈ ws, d ∉ w) → d ∉ joinL c ws
 | [], _ => by simp [joinL]
 | [w], h => h w List.mem_cons_self
 | w :: y :: r, h => by
  rw [joinL_cons (by simp)]
  have ih := join_no hcd (ws := y :: r) fun x hx => h x (List.mem_cons_of_mem _ hx)
  intro hm
  rcases List.mem_append.1 hm with hm | hm
  ·exact h w List.mem_cons_self hm
  ·rcases List.mem_cons.1 hm with e | hm
   ·exact hcd e
   ·exact ih hm
def cellW (n : Int) : List UInt8 := if n < 0 then [45] else itoaL n
def headP (t : Tab) : List (List UInt8) := [tableW, itoaL t.packets, itoaL t.passed, stW t.state]
def guestP (a : List Int) : List (List UInt8) := guestW :: a.map cellW
def endP (n : Int) : List (List UInt8) := [endW, itoaL n]
theorem cellS_eq (n : Int) : cellS n = 32 :: cellW n := by unfold cellS cellW; split <;> rfl
theorem join_cells (w : List UInt8) : ∀ a : List Int, joinL 32 (w :: a.map cellW) = w ++ a.flatMap cellS
 | [] => by simp [joinL]
 | n :: a => by
  rw [List.map_cons, joinL_cons (by simp), join_cells (cellW n) a]
  simp [cellS_eq]
theorem gRow_eq (a : List Int) : gRow a = joinL 32 (guestP a) ++ [10] := by
 unfold guestP
 rw [join_cells]
 rfl
theorem headS_eq (t : Tab) : headS t = joinL 32 (headP t) ++ [10] := by
 simp [headS, headP, joinL]
theorem lastS_eq (n : Nat) : lastS n = joinL 32 (endP n) ++ [10] := by
 simp [lastS, endP, joinL]
def rowsT (t : Tab) : List (List UInt8) := joinL 32 (headP t) :: (t.answers.map (fun a => joinL 32 (guestP a)) ++ [joinL 32 (endP t.answers.length)])
theorem flat_map {α : Type} {g : α → List UInt8} {h : α → List UInt8} (e : ∀ x, h x = g x ++ [10]) : ∀ l : List α, l.flatMap h = (l.map g).flatMap fun w => w ++ [10]
 | [] => rfl
 | x :: r => by simp [e, flat_map e r]
theorem saveS_rows (t : Tab) : saveS t = (rowsT t).flatMap fun w => w ++ [10] := by
 unfold saveS rowsT
 rw [headS_eq, lastS_eq, flat_map gRow_eq]
 simp
theorem firstE_all {g : Int → Int} : ∀ {l : List Int}, firstE g l = 0 → ∀ x ∈ l, g x = 0
 | y :: r, h, x, hx => by
  unfold firstE at h
  by_cases hy : g y = 0
  ·rw [if_neg (by simpa using hy)] at h
   rcases List.mem_cons.1 hx with e | e
   ·rw [e]; exact hy
   ·exact firstE_all h x e
  ·rw [if_pos hy] at h
   exact absurd h hy
structure GoodT (t : Tab) : Prop where
 p : 1 ≤ t.packets ∧ t.packets ≤ 9
 q : 0 ≤ t.passed ∧ t.passed ≤ 9
 s : 1 ≤ t.state ∧ t.state ≤ 4
 n : 1 ≤ t.answers.length ∧ t.answers.length ≤ 12
 a : ∀ a ∈ t.answers, a.length ≤ 9 ∧ ∀ x ∈ a, -1 ≤ x ∧ x ≤ 8
theorem goodT {t : Tab} (h : chkT t = 0) : GoodT t := by
 obtain ⟨g1, g2, g3, g4, g5, g6, g7, g8, g9⟩ := chkT_good h
 refine ⟨⟨g1, g2⟩, ⟨g3, by omega⟩, ⟨g5, g6⟩, ⟨by have := List.length_pos_iff.2 g7; omega, g8⟩, fun a ha => ?_⟩
 have hr := rowsE_mem g9 a ha
 unfold rowE at hr
 split at hr
 ·rename_i hw; exact absurd hr hw
 ·rename_i hw
  have hw0 : wrF a t.packets = 0 := Decidable.not_not.1 hw
  have hl := wrF_len hw0
  unfold wrF at hw0
  rw [if_neg (by simpa using hl)] at hw0
  refine ⟨by omega, fun x hx => ?_⟩
  have := firstE_all hw0 x hx
  unfold ansE at this
  split at this
  ·rename_i hb; exact inB_iff.1 hb
  ·omega
theorem cellW_no {n : Int} (h : -1 ≤ n) {c : UInt8} (hc : c.toNat < 45) : c ∉ cellW n := by
 unfold cellW
 split
 ·intro hm; simp at hm; subst hm; simp at hc
 ·exact itoa_no (by omega) (by omega)
theorem stW_no {s : Int} {c : UInt8} (hc : c.toNat < 48) : c ∉ stW s := by
 unfold stW
 intro hm
 split at hm
 ·simp at hm; rcases hm with rfl | rfl | rfl | rfl <;> simp at hc
 ·split at hm
  ·simp at hm; rcases hm with rfl | rfl | rfl | rfl | rfl | rfl <;> simp at hc
  ·split at hm
   ·simp at hm; rcases hm with rfl | rfl | rfl | rfl | rfl | rfl <;> simp at hc
   ·simp at hm; rcases hm with rfl | rfl | rfl | rfl | rfl <;> simp at hc
theorem headP_no {t : Tab} (h : GoodT t) {c : UInt8} (hc : c.toNat < 45) : ∀ w ∈ headP t, c ∉ w := fun w hw => by
 have h1 := h.p
 have h2 := h.q
 simp [headP] at hw
 rcases hw with rfl | rfl | rfl | rfl
 ·intro hm; simp [tableW] at hm; rcases hm with rfl | rfl | rfl | rfl | rfl <;> simp at hc
 ·exact itoa_no (by omega) (by omega)
 ·exact itoa_no (by omega) (by omega)
 ·exact stW_no (by omega)
theorem guestP_no {a : List Int} (h : ∀ x ∈ a, -1 ≤ x ∧ x ≤ 8) {c : UInt8} (hc : c.toNat < 45) : ∀ w ∈ guestP a, c ∉ w := fun w hw => by
 rcases List.mem_cons.1 hw with rfl | hw
 ·intro hm; simp [guestW] at hm; rcases hm with rfl | rfl | rfl | rfl | rfl <;> simp at hc
 ·obtain ⟨n, hn, rfl⟩ := List.mem_map.1 hw
  exact cellW_no (h n hn).1 hc
theorem endP_no {n : Int} (h : 0 ≤ n) {c : UInt8} (hc : c.toNat < 45) : ∀ w ∈ endP n, c ∉ w := fun w hw => by
 simp [endP] at hw
 rcases hw with rfl | rfl
 ·intro hm; simp [endW] at hm; rcases hm with rfl | rfl | rfl <;> simp at hc
 ·exact itoa_no h (by omega)
theorem rowsT_no {t : Tab} (h : GoodT t) : ∀ w ∈ rowsT t, (10 : UInt8) ∉ w := fun w hw => by
 unfold rowsT at hw
 rcases List.mem_cons.1 hw with rfl | hw
 ·exact join_no (by decide) (headP_no h (by decide))
 ·rcases List.mem_append.1 hw with hw | hw
  ·obtain ⟨x, hx, rfl⟩ := List.mem_map.1 hw
   exact join_no (by decide) (guestP_no (h.a x hx).2 (by decide))
  ·rw [List.mem_singleton] at hw
   subst hw
   exact join_no (by decide) (endP_no (by omega) (by decide))
theorem posW_st {s : Int} (h : 1 ≤ s ∧ s ≤ 4) : posW (stW s) stL 0 = s := by
 have : s = 1 ∨ s = 2 ∨ s = 3 ∨ s = 4 := by omega
 rcases this with rfl | rfl | rfl | rfl <;> decide
theorem row_head {t : Tab} (h : GoodT t) (n0 : Int) : rowL 0 (zT, 0, n0) (joinL 32 (headP t)) = some (⟨t.packets, t.passed, t.state, []⟩, 0, n0) := by
 unfold rowL
 rw [split_words (by simp [headP]) (headP_no h (by decide)), if_neg (by simp), if_pos rfl]
 have : headV (headP t) = some ⟨t.packets, t.passed, t.state, []⟩ := by
  unfold headV headP
  show (if tableW = tableW then _ else _) = _
  rw [if_pos rfl, numV_itoa (by have := h.p; omega) (by have := h.p; omega), numV_itoa (by have := h.q; omega) (by have := h.q; omega), posW_st h.s]
  simp only
  rw [if_pos (by have := h.s; omega)]
 rw [this]
theorem itoa_ne_minus {n : Int} (h : 0 ≤ n) : itoaL n ≠ [45] := fun e => by
 have := itoa_mem h 45 (by rw [e]; simp)
 have h2 : (45 : UInt8).toNat = 45 := rfl
 omega
theorem cellsV_cells : ∀ {a : List Int}, (∀ x ∈ a, -1 ≤ x ∧ x ≤ 8) → cellsV (a.map cellW) = some a
 | [], _ => rfl
 | n :: a, h => by
  have h1 := h n List.mem_cons_self
  have hc : cellV (cellW n) = some n := by
   unfold cellW cellV
   split
   ·rw [if_pos rfl]; congr 1; omega
   ·rw [if_neg (itoa_ne_minus (by omega)), numV_itoa (by omega) (by omega)]
  rw [List.map_cons, cellsV, hc]
  simp only
  rw [cellsV_cells fun x hx => h x (List.mem_cons_of_mem _ hx)]
theorem row_guest {t : Tab} {a : List Int} {i : Nat} (hi : i ≠ 0) (h : ∀ x ∈ a, -1 ≤ x ∧ x ≤ 8) (n0 : Int) : rowL i (t, 0, n0) (joinL 32 (guestP a)) = some ({ t with answers := t.answers ++ [a] }, 0, n0) := by
 unfold rowL
 have e : (guestP a).drop 1 = a.map cellW := rfl
 rw [split_words (by simp [guestP]) (guestP_no h (by decide)), if_neg (by simp), if_neg hi, if_pos (show (guestP a).head? = some guestW from rfl), e, cellsV_cells h]
theorem row_end {t : Tab} {n : Int} {i : Nat} (hi : i ≠ 0) (h : 0 ≤ n ∧ n ≤ 1000) (n0 : Int) : rowL i (t, 0, n0) (joinL 32 (endP n)) = some (t, (i : Int) + 1, n) := by
 unfold rowL
 rw [split_words (by simp [endP]) (endP_no h.1 (by decide)), if_neg (by simp), if_neg hi, if_neg (by simp [endP]; decide)]
 show (if endW = endW then _ else _) = _
 rw [if_pos rfl, numV_itoa h.1 (by omega)]
theorem rows_guests : ∀ (xs : List (List Int)) (t : Tab) (i : Nat) (rest : List (List UInt8)), i ≠ 0 → (∀ a ∈ xs, ∀ x ∈ a, -1 ≤ x ∧ x ≤ 8) →
  rowsL i (t, 0, 0) (xs.map (fun a => joinL 32 (guestP a)) ++ rest) = rowsL (i + xs.length) ({ t with answers := t.answers ++ xs }, 0, 0) rest
 | [], t, i, rest, _, _ => by simp
 | x :: xs, t, i, rest, hi, h => by
  rw [List.map_cons, List.cons_append, rowsL, row_guest hi (h x List.mem_cons_self)]
  simp only
  rw [rows_guests xs _ _ _ (by omega) fun y hy => h y (List.mem_cons_of_mem _ hy)]
  have e1 : i + 1 + xs.length = i + (xs.length + 1) := by omega
  simp [e1]
theorem cellS_short {n : Int} (h : -1 ≤ n ∧ n ≤ 8) : (cellS n).length ≤ 5 := by
 unfold cellS
 split
 ·simp
 ·have := itoa_short (n := n) (by omega) (by omega)
  simp; omega
theorem flat_short {α : Type} {g : α → List UInt8} {m : Nat} : ∀ {l : List α}, (∀ x ∈ l, (g x).length ≤ m) → (l.flatMap g).length ≤ m * l.length
 | [], _ => by simp
 | x :: l, h => by
  have h1 := flat_short fun y hy => h y (List.mem_cons_of_mem _ hy)
  have h2 := h x List.mem_cons_self
  simp only [List.flatMap_cons, List.length_append, List.length_cons, Nat.mul_add]
  omega
theorem saveS_short {t : Tab} (h : GoodT t) : (saveS t).length ≤ 900 := by
 have h1 : (t.answers.flatMap gRow).length ≤ 60 * t.answers.length := flat_short fun a ha => by
  have := flat_short (g := cellS) (m := 5) (l := a) fun x hx => cellS_short ((h.a a ha).2 x hx)
  have := (h.a a ha).1
  unfold gRow
  simp [guestW] at *
  omega
 have h2 := headS_len t
 have h3 := lastS_len t.answers.length
 have h4 := h.n
 unfold saveS
 simp
 simp at h1
 omega
theorem load_save {t : Tab} (h : chkT t = 0) : loadE (saveS t) = (t, 0, 0) := by
 have hf := goodT h
 have hs := saveS_short hf
 unfold loadE
 rw [if_neg (by omega), saveS_rows, split_rows (rowsT_no hf)]
 have hl : (rowsT t ++ [[]]).length - 1 = (rowsT t).length := by simp
 rw [hl, List.take_left]
 have hr : rowsL 0 (zT, 0, 0) (rowsT t) = some (t, ((1 + t.answers.length : Nat) : Int) + 1, (t.answers.length : Int)) := by
  unfold rowsT
  rw [rowsL, row_head hf]
  simp only
  rw [rows_guests _ _ _ _ (by omega) (fun a ha => (hf.a a ha).2), rowsL, row_end (by omega) ⟨by omega, by have := hf.n; omega⟩]
  simp [rowsL]
 rw [hr]
 have hg : (rowsT t ++ [[]]).getD (rowsT t).length [] = [] := by simp
 simp only
 rw [if_neg (fun hh => by rcases hh with hh | hh; omega; exact hh hg), if_neg (by simp), if_neg (by simpa using h)]
def bodyT (t : Tab) : List UInt8 := headS t ++ t.answers.flatMap gRow
theorem posW_of {w : List UInt8} (h : 0 < posW w stL 0) : stW (posW w stL 0) = w := by
 unfold stL posW at h ⊢
 split at h
 ·omega
 ·rename_i h0
  rw [if_neg h0]
  unfold posW at h ⊢
  split at h
  ·rename_i h1; rw [if_pos h1, h1]; rfl
  ·rename_i h1
   rw [if_neg h1]
   unfold posW at h ⊢
   split at h
   ·rename_i h1; rw [if_pos h1, h1]; rfl
   ·rename_i h1
    rw [if_neg h1]
    unfold posW at h ⊢
    split at h
    ·rename_i h1; rw [if_pos h1, h1]; rfl
    ·rename_i h1
     rw [if_neg h1]
     unfold posW at h ⊢
     split at h
     ·rename_i h1; rw [if_pos h1, h1]; rfl
     ·rename_i h1
      unfold posW at h
      omega
theorem head_text {row : List UInt8} {t : Tab} (h : headV (splitL 32 row) = some t) : row ++ [10] = headS t ∧ t.answers = [] := by
 refine ⟨?_, headV_nil h⟩
 have hj := join_split 32 row
 unfold headV at h
 split at h
 ·rename_i w0 w1 w2 w3 hs
  split at h
  ·rename_i h0
   split at h
   ·rename_i a b ha hb
    split at h
    ·rename_i hp
     simp only [Option.some.injEq] at h
     rw [headS_eq]
     unfold headP
     rw [← h]
     simp only
     rw [(numV_of ha).1, (numV_of hb).1, posW_of hp, ← h0, ← hs, hj]
    ·cases h
   ·cases h
  ·cases h
 ·cases h
theorem cellsV_of : ∀ {ws : List (List UInt8)} {l : List Int}, cellsV ws = some l → ws = l.map cellW
 | [], l, h => by simp only [cellsV, Option.some.injEq] at h; subst h; rfl
 | w :: r, l, h => by
  rw [cellsV] at h
  split at h
  ·cases h
  ·rename_i n hn
   split at h
   ·cases h
   ·rename_i l' hl
    simp only [Option.some.injEq] at h
    subst h
    rw [List.map_cons, ← cellsV_of hl]
    congr 1
    unfold cellV at hn
    split at hn
    ·rename_i hw
     simp only [Option.some.injEq] at hn
     subst hn
     rw [hw]
     rfl
    ·have := numV_of hn
     unfold cellW
     rw [if_neg (by omega), this.1]
theorem row_text {t : Tab} {n0 : Int} {i : Nat} (hi : i ≠ 0) {row : List UInt8} {y : Tab × Int × Int} (h : rowL i (t, 0, n0) row = some y) :
  (y.2.1 = 0 ∧ y.2.2 = n0 ∧ bodyT t ++ row ++ [10] = bodyT y.1) ∨ (0 < y.2.1 ∧ y.1 = t ∧ row = joinL 32 (endP y.2.2)) := by
 unfold rowL at h
 rw [if_neg (by simp), if_neg hi] at h
 have hj := join_split 32 row
 split at h
 ·rename_i hg
  left
  split at h
  ·rename_i l hl
   simp only [Option.some.injEq] at h
   subst h
   have hw := cellsV_of hl
   have hsp : splitL 32 row = guestP l := by
    cases hs : splitL 32 row with
    | nil => exact absurd hs (splitL_ne _ _)
    | cons p r =>
     rw [hs] at hg hw
     simp at hg hw
     rw [hg, hw]
     rfl
   rw [hsp] at hj
   refine ⟨rfl, rfl, ?_⟩
   unfold bodyT
   have e : headS { t with answers := t.answers ++ [l] } = headS t := rfl
   simp only [e, List.flatMap_append, List.flatMap_cons, List.flatMap_nil, List.append_nil, gRow_eq, hj]
   simp
  ·cases h
 ·split at h
  ·rename_i w0 w1 hs
   split at h
   ·rename_i h0
    split at h
    ·rename_i n hn
     right
     simp only [Option.some.injEq] at h
     subst h
     refine ⟨by simp only; omega, rfl, ?_⟩
     unfold endP
     simp only
     rw [(numV_of hn).1, ← h0, ← hs, hj]
    ·cases h
   ·cases h
  ·cases h
theorem rows_text : ∀ {rows : List (List UInt8)} {t : Tab} {n0 : Int} {i : Nat} {y : Tab × Int × Int}, i ≠ 0 → rowsL i (t, 0, n0) rows = some y →
  y.2.1 = 0 ∨ bodyT t ++ (rows.flatMap fun w => w ++ [10]) = bodyT y.1 ++ (joinL 32 (endP y.2.2) ++ [10])
 | [], t, n0, i, y, _, h => by
  simp only [rowsL, Option.some.injEq] at h
  subst h
  exact .inl rfl
 | row :: r, t, n0, i, y, hi, h => by
  rw [rowsL] at h
  split at h
  ·rename_i z hz
   obtain ⟨t1, e1, n1⟩ := z
   rcases row_text hi hz with ⟨a1, a2, a3⟩ | ⟨a1, a2, a3⟩
   ·simp only at a1 a2 a3
    subst a1
    rcases rows_text (by omega) h with b | b
    ·exact .inl b
    ·right
     rw [List.flatMap_cons, ← b, ← a3]
     simp
   ·simp only at a1 a2 a3
    subst a2
    cases r with
    | nil =>
     simp only [rowsL, Option.some.injEq] at h
     subst h
     right
     rw [a3]
     simp
    | cons w r =>
     rw [rowsL] at h
     unfold rowL at h
     rw [if_pos a1] at h
     cases h
  ·cases h
theorem loadE_err {s : List UInt8} (h : (loadE s).2.2 ≠ 0) : (loadE s).1 = zT := by
 unfold loadE at h ⊢
 split
 ·rfl
 ·rename_i h0
  rw [if_neg h0] at h
  split
  ·rfl
  ·rename_i y hy
   rw [hy] at h
   simp only at h
   split
   ·rfl
   ·rename_i h1
    rw [if_neg h1] at h
    split
    ·rfl
    ·rename_i h2
     rw [if_neg h2] at h
     split
     ·rfl
     ·rename_i h3
      rw [if_neg h3] at h
      exact absurd rfl h
theorem save_load {s : List UInt8} (h : (loadE s).2.2 = 0) : saveS (loadE s).1 = s ∧ chkT (loadE s).1 = 0 := by
 unfold loadE at h ⊢
 split at h
 ·exact absurd h (by decide)
 ·rename_i h0
  rw [if_neg h0]
  split at h
  ·exact absurd h (by simp only; decide)
  ·rename_i y hy
   split at h
   ·exact absurd h (by simp only; decide)
   ·rename_i h1
    rw [if_neg h1]
    split at h
    ·exact absurd h (by simp only; decide)
    ·rename_i h2
     rw [if_neg h2]
     split at h
     ·rename_i h3; exact absurd h h3
     ·rename_i h3
      rw [if_neg h3]
      refine ⟨?_, by simpa using h3⟩
      have hj := join_split 10 s
      have hne := splitL_ne 10 s
      generalize splitL 10 s = sp at *
      have hlen : 0 < sp.length := List.length_pos_iff.2 hne
      have hg : sp.getD (sp.length - 1) [] = [] := Decidable.not_not.1 fun hh => h1 (.inr hh)
      have hsp : sp = sp.take (sp.length - 1) ++ [[]] := by
       have h5 : sp = sp.take (sp.length - 1) ++ sp.drop (sp.length - 1) := (List.take_append_drop _ _).symm
       have h6 : sp.drop (sp.length - 1) = [[]] := by
        rw [List.drop_eq_getElem_cons (by omega)]
        have h7 : sp[sp.length - 1]'(by omega) = [] := by
         rw [List.getD_eq_getElem?_getD, List.getElem?_eq_getElem (by omega)] at hg
         exact hg
        rw [h7, List.drop_eq_nil_of_le (by omega)]
       rw [h6] at h5
       exact h5
      have hn : y.2.2 = y.1.answers.length := Decidable.not_not.1 h2
      cases hT : sp.take (sp.length - 1) with
      | nil =>
       rw [hT] at hy
       simp only [rowsL, Option.some.injEq] at hy
       exact absurd (.inl (by rw [← hy])) h1
      | cons row r =>
       rw [hT] at hy hsp
       rw [rowsL] at hy
       split at hy
       ·rename_i z hz
        have hz2 : ∃ t, headV (splitL 32 row) = some t ∧ z = (t, 0, 0) := by
         unfold rowL at hz
         rw [if_neg (by simp), if_pos rfl] at hz
         split at hz
         ·rename_i t ht
          simp only [Option.some.injEq] at hz
          exact ⟨t, ht, hz.symm⟩
         ·cases hz
        obtain ⟨t, ht, rfl⟩ := hz2
        obtain ⟨h8, h9⟩ := head_text ht
        rcases rows_text (by omega) hy with b | b
        ·exact absurd (.inl b) h1
        ·rw [hsp, join_rows, List.flatMap_cons, h8] at hj
         have hb : bodyT t = headS t := by unfold bodyT; rw [h9]; simp
         rw [hb, hj, hn] at b
         unfold saveS
         rw [lastS_eq, b]
         rfl
       ·cases hy
section
variable {c : Nat} {H : Heap}
end
section
variable {c : Nat} {H : Heap}
theorem eqI_loop (l : List Int) (hn : l.length ≤ 1000000) (Q : GX → GSt → Prop) (hH : 0 < H.length) : ∀ k i : Nat, i + k = l.length →
  Q (.exit 0) ⟨[(4, gdead)], H, 26⟩ →
  WPL KC needT 33 (lp Tryz.f33 0) [0, 1, 5] [4] Q [(0, .pure (.slice (l.map irow))), (1, .pure (.slice (l.map irow))), (5, .pure (.int .i64 i))] H 26 := by
 intro k
 induction k with
 | zero =>
  intro i hi h1
  apply WPL_step
  conv => arg 4; whnf
  have : ¬ i < l.length := by omega
  simp [this, hH]
  exact h1
 | succ k ih =>
  intro i hi h1
  have hia : i < l.length := by omega
  have hw := w64 (x := (i : Int) + 1) (by omega) (by omega)
  have ih' := ih (i + 1) (by omega) h1
  apply WPL_step
  conv => arg 4; whnf
  simp [hia, hH, irow, hw]
  simpa [irow] using ih'
theorem eqI_ok (l : List Int) (hn : l.length ≤ 1000000) (hH : 0 < H.length) :
  gcall KC (geval KC) 33 [.pure (.slice (l.map irow)), .pure (.slice (l.map irow))] c H = some (.pure (.bool true), H) := by
 refine WPv_eq (call_enter KC needT Tryz.func33 rfl rfl good33 rfl rfl rfl (by simp) hH ?_)
 simp
 refine eqI_loop (H := [] :: H) l hn _ (by simp) l.length 0 (by omega) ?_
 simp [gleave_free]
end
section
variable {c : Nat} {H : Heap}
theorem eqLs_loop (l : List (List Int)) (hn : l.length ≤ 1000000) (hs : ∀ a ∈ l, a.length ≤ 1000000) (Q : GX → GSt → Prop) (hH : 0 < H.length) : ∀ k i : Nat, i + k = l.length →
  Q (.exit 0) ⟨[(4, gdead)], H, 27⟩ →
  WPL KC needT 75 (lp Tryz.f75 0) [0, 1, 5] [4] Q [(0, .pure (.slice (l.map arow))), (1, .pure (.slice (l.map arow))), (5, .pure (.int .i64 i))] H 27 := by
 intro k
 induction k with
 | zero =>
  intro i hi h1
  apply WPL_step
  conv => arg 4; whnf
  have : ¬ i < l.length := by omega
  simp [this, hH]
  exact h1
 | succ k ih =>
  intro i hi h1
  have hia : i < l.length := by omega
  have hw := w64 (x := (i : Int) + 1) (by omega) (by omega)
  have ih' := ih (i + 1) (by omega) h1
  have hla := hs _ (List.getElem_mem hia)
  have E := fun c (H : Heap) (hH : 0 < H.length) => eqI_ok (c := c) (H := H) l[i] hla hH
  apply WPL_step
  conv => arg 4; whnf
  simp [hia, hH, arow, hw, E]
  simpa [arow] using ih'
theorem eqLs_ok (l : List (List Int)) (hn : l.length ≤ 1000000) (hs : ∀ a ∈ l, a.length ≤ 1000000) (hH : 0 < H.length) :
  gcall KC (geval KC) 75 [.pure (.slice (l.map arow)), .pure (.slice (l.map arow))] c H = some (.pure (.bool true), H) := by
 refine WPv_eq (call_enter KC needT Tryz.func75 rfl rfl good75 rfl rfl rfl (by simp) hH ?_)
 simp
 refine eqLs_loop (H := [] :: H) l hn hs _ (by simp) l.length 0 (by omega) ?_
 simp [gleave_free]
theorem eqT_ok (t : Tab) (hs : Sm t) (hH : 0 < H.length) :
  gcall KC (geval KC) 24 [.pure (.agg t.row), .pure (.agg t.row)] c H = some (.pure (.bool true), H) := by
 refine WPv_eq (call_enter KC needT Tryz.func24 rfl rfl good24 rfl rfl rfl (by simp) hH ?_)
 have E := fun c (H : Heap) (hH : 0 < H.length) => eqLs_ok (c := c) (H := H) t.answers hs.1 hs.2 hH
 simp [Tab.row, E, gleave_free]
def zb64 : Blk := .box [.pure (.int .i64 0), .pure (.int .i64 0), .pure (.int .i64 0), .nils]
end
section
variable {c : Nat} {H : Heap}
def rdC (H : Heap) : GV → PV → Prop
 | .pure p, q => p = q
 | .nils, q => q = .slice []
 | .hdr nm es top lo len, q => ∃ rows v ro, H.get nm = some (.arr es rows v ro) ∧ v ≤ top ∧ rows.length = top ∧ lo = 0 ∧ len = top ∧ q = .slice rows
 | _, _ => False
def rdL (H : Heap) : List GV → List PV → Prop
 | [], [] => True
 | g :: l, q :: m => rdC H g q ∧ rdL H l m
 | _, _ => False
def rdG (H : Heap) : GV → PV → Prop
 | .agg l, .agg m => rdL H l m
 | .pure p, q => p = q
 | _, _ => False
@[simp] theorem rdC_pure {p q : PV} : rdC H (.pure p) q = (p = q) := .trans rfl rfl
@[simp] theorem rdC_nils {q : PV} : rdC H .nils q = (q = .slice []) := .trans rfl rfl
@[simp] theorem rdC_hdr {nm : Nm} {es top lo len : Nat} {q : PV} : rdC H (.hdr nm es top lo len) q = ∃ rows v ro, H.get nm = some (.arr es rows v ro) ∧ v ≤ top ∧ rows.length = top ∧ lo = 0 ∧ len = top ∧ q = .slice rows := .trans rfl rfl
@[simp] theorem rdL_nil : rdL H [] [] = True := .trans rfl rfl
@[simp] theorem rdL_cons {g : GV} {q : PV} {l : List GV} {m : List PV} : rdL H (g :: l) (q :: m) = (rdC H g q ∧ rdL H l m) := .trans rfl rfl
@[simp] theorem rdG_agg {l : List GV} {m : List PV} : rdG H (.agg l) (.agg m) = rdL H l m := .trans rfl rfl
@[simp] theorem rdG_pure {p q : PV} : rdG H (.pure p) q = (p = q) := .trans rfl rfl
end
section
variable {c : Nat} {H : Heap}
theorem box1 {nm : Nm} (hlt : nm.1 < H.length) (w : Int) (f1 : Fr) : isBox (f1 :: H.set nm (wbox w)) nm := isBox_up (isBox_set' hlt)
theorem word1 {nm : Nm} (hlt : nm.1 < H.length) (w : Int) (f1 : Fr) : wordAt (f1 :: H.set nm (wbox w)) nm = w := by
 rw [wordAt_up (by simpa [Heap.length_set] using hlt), wordAt_set hlt]
theorem anyR_get (w : Int) (hi : Nat) (h : hi ≤ 1000000) (h1 : 1 ≤ hi) : ∃ (i : Nat) (w' : Int), anyR w 1 hi = ((i : Int), w') ∧ 1 ≤ i ∧ i ≤ hi := by
 have := anyR_rng w 1 hi (by omega) (by omega) (by omega)
 refine ⟨(anyR w 1 hi).1.toNat, (anyR w 1 hi).2, ?_, ?_, ?_⟩
 ·rw [Int.toNat_of_nonneg (by omega)]
 ·omega
 ·omega
end
section
variable {c : Nat} {H : Heap}
def AnsOk (a : List Int) : Prop := ∀ x ∈ a, -1 ≤ x ∧ x ≤ 8
theorem AnsOk.wr {a : List Int} (h : AnsOk a) {n : Nat} (hl : a.length = n) : wrF a n = 0 := by
 unfold wrF
 rw [if_neg (by omega)]
 clear hl
 induction a with
 | nil => rfl
 | cons x r ih =>
  have hx := h x (List.mem_cons_self ..)
  have e : ansE x = 0 := by unfold ansE; rw [if_pos (inB_iff.2 hx)]
  simp only [firstE, e]
  rw [if_neg (by simp)]
  exact ih fun y hy => h y (List.mem_cons_of_mem _ hy)
end
section
variable {c : Nat} {H : Heap}
@[simp] theorem wrap_1 : IntKind.i64.wrap 1 = 1 := by decide
@[simp] theorem wrap_2 : IntKind.i64.wrap 2 = 2 := by decide
end
section
variable {c : Nat} {H : Heap}
section
variable {nm : Nm}
theorem any1 (hlt : nm.1 < H.length) (f0 : Fr) (w : Int) {lo hi : Int} : gcall KC (geval KC) 46 [.bptr nm 0, .pure (.int .i64 lo), .pure (.int .i64 hi)] c (f0 :: H.set nm (wbox w)) = some (.pure (.int .i64 (anyR w lo hi).1), f0 :: H.set nm (wbox (anyR w lo hi).2)) := by
 have := any_ok (c := c) (lo := lo) (hi := hi) (box1 hlt w f0)
 rwa [word1 hlt, Heap.set_up (by rw [Heap.length_set]; exact hlt), Heap.set_set] at this
theorem pick1 (hlt : nm.1 < H.length) (f0 : Fr) (w : Int) {l : List Int} (hn : l.length < 4611686018427387904) : gcall KC (geval KC) 44 [.bptr nm 0, .pure (.slice (l.map irow))] c (f0 :: H.set nm (wbox w)) = some (.pure (.int .i64 (pickR w l).1), f0 :: H.set nm (wbox (pickR w l).2)) := by
 have := pick_ok (c := c) (box1 hlt w f0) hn
 rwa [word1 hlt, Heap.set_up (by rw [Heap.length_set]; exact hlt), Heap.set_set] at this
end
end
section
variable {c : Nat} {H : Heap}
theorem any3 {nm : Nm} (hlt : nm.1 < H.length) (f2 f1 f0 : Fr) (w : Int) {lo hi : Int} : gcall KC (geval KC) 46 [.bptr nm 0, .pure (.int .i64 lo), .pure (.int .i64 hi)] c (f2 :: f1 :: f0 :: H.set nm (wbox w)) = some (.pure (.int .i64 (anyR w lo hi).1), f2 :: f1 :: f0 :: H.set nm (wbox (anyR w lo hi).2)) := by
 have hB : isBox (f2 :: f1 :: f0 :: H.set nm (wbox w)) nm := isBox_up (isBox_up (isBox_up (isBox_set' hlt)))
 have := any_ok (c := c) (lo := lo) (hi := hi) hB
 have e1 : wordAt (f2 :: f1 :: f0 :: H.set nm (wbox w)) nm = w := by
  rw [wordAt_up (by simp [Heap.length_set]; omega), wordAt_up (by simp [Heap.length_set]; omega), wordAt_up (by simpa [Heap.length_set] using hlt), wordAt_set hlt]
 rw [e1] at this
 rw [this, Heap.set_up (by simp [Heap.length_set]; omega), Heap.set_up (by simp [Heap.length_set]; omega), Heap.set_up (by simpa [Heap.length_set] using hlt), Heap.set_set]
def RowOk (q : Int) (l : List Int) : Prop := AnsOk l ∧ ∀ k, (h : k < l.length) → q ≤ k → l[k] = -1
theorem RowOk.nil (q : Int) : RowOk q [] := ⟨fun x hx => absurd hx List.not_mem_nil, fun k hk => by simp at hk⟩
theorem RowOk.snoc {q : Int} {l : List Int} (h : RowOk q l) {x : Int} (h1 : -1 ≤ x) (h2 : x ≤ 8) (h3 : q ≤ l.length → x = -1) : RowOk q (l ++ [x]) := by
 refine ⟨fun y hy => ?_, fun k hk hq => ?_⟩
 ·rcases List.mem_append.1 hy with h' | h'
  ·exact h.1 y h'
  ·simp at h'; subst h'; exact ⟨h1, h2⟩
 ·by_cases e : k = l.length
  ·subst e; simpa using h3 hq
  ·have hk' : k < l.length := by simp at hk; omega
   rw [List.getElem_append_left hk']; exact h.2 k hk' hq
def tFr (L : Nat) (p q s : Int) (rows : List (List Int)) : Fr := apF 59 1 (rows.map arow) [(6, zb64), (7, .box [.pure (.int .i64 p), .pure (.int .i64 q), .pure (.int .i64 s), apS (L, 59) 1 (rows.map arow)])]
theorem tabI_loop {nm : Nm} (hlt : nm.1 < H.length) (p : Nat) (q s : Int) (hp : p ≤ 9) (rows : List (List Int)) (i : Int) (Q : GX → GSt → Prop)
  (hQ : ∀ (l : List Int) (w : Int), l.length = p → RowOk q l → Q (.exit 2) ⟨[(0, .bptr nm 0), (6, .bptr (H.length, 6) 0), (7, .bptr (H.length, 7) 0), (8, .pure (.int .i64 i)), (9, apS (H.length + 1, 54) 1 (l.map irow))], apF 54 1 (l.map irow) [] :: tFr H.length p q s rows :: H.set nm (wbox w), 62⟩) :
  ∀ (j k : Nat) (l : List Int) (w : Int), k + j = p → l.length = k → RowOk q l →
  WPL KC needT 19 (lp Tryz.f19 1) [0, 6, 7, 8, 9, 10] [0, 6, 7, 8, 9] Q [(0, .bptr nm 0), (6, .bptr (H.length, 6) 0), (7, .bptr (H.length, 7) 0), (8, .pure (.int .i64 i)), (9, apS (H.length + 1, 54) 1 (l.map irow)), (10, .pure (.int .i64 (k : Nat)))] (apF 54 1 (l.map irow) [] :: tFr H.length p q s rows :: H.set nm (wbox w)) 62 := by
 have hle : nm.1 ≤ H.length := by omega
 have hle1 : nm.1 ≤ H.length + 1 := by omega
 have hl2 : ∀ w, (H.set nm (wbox w)).length = H.length := fun w => Heap.length_set _ _ _
 intro j
 induction j with
 | zero =>
  intro k l w hk hl hr
  have e : k = p := by omega
  apply WPL_step
  conv => arg 4; whnf
  have : ¬ k < p := by omega
  simp [this, tFr, hl2, hle, hle1]
  simpa [tFr] using hQ l w (by omega) hr
 | succ j ih =>
  intro k l w hk hl hr
  have hkp : k < p := by omega
  have hw := w64 (x := (k : Int) + 1) (by omega) (by omega)
  have hb : (l.length + 1) * 8 ≤ 1099511627776 := by omega
  have A := fun f0 (v w' : Int) => apK_1 (H := tFr H.length p q s rows :: H.set nm (wbox w')) (l := H.length + 1) (key := 54) (es := 1) (bytes := 8) (rows := l.map irow) (r := irow v) (fr := []) (f0 := f0) (by simp [hl2]) rfl (by simpa using hb)
  simp only [irow, tFr] at A
  have Y := fun c f2 f1 f0 w (lo hi : Int) => any3 (c := c) (H := H) hlt f2 f1 f0 w (lo := lo) (hi := hi)
  apply WPL_step
  conv => arg 4; whnf
  by_cases hq : (k : Int) < q
  ·obtain ⟨v, w1, e1⟩ : ∃ v w1, anyR w (-1) 8 = (v, w1) := ⟨_, _, rfl⟩
   have hv := anyR_rng w (-1) 8 (by omega) (by omega) (by omega)
   rw [e1] at hv
   have ih' := ih (k + 1) (l ++ [v]) w1 (by omega) (by simp [hl]) (hr.snoc hv.1 hv.2 (fun h => by omega))
   simp [hkp, tFr, hl2, hle, hle1, hq, Y, e1, A, irow, hw]
   simpa [tFr, irow] using ih'
  ·have ih' := ih (k + 1) (l ++ [-1]) w (by omega) (by simp [hl]) (hr.snoc (by omega) (by omega) (fun _ => rfl))
   simp [hkp, tFr, hl2, hle, hle1, hq, A, irow, hw]
   simpa [tFr, irow] using ih'
theorem tabO_loop {nm : Nm} (hlt : nm.1 < H.length) (N p : Nat) (hN : N ≤ 12) (q s : Int) (hp : p ≤ 9) (hp0 : 1 ≤ p) (Q : GX → GSt → Prop)
  (hQ : ∀ (rows : List (List Int)) (w : Int), rows.length = N → (∀ a ∈ rows, a.length = p ∧ RowOk q a) → Q (.exit 0) ⟨[(6, .bptr (H.length, 6) 0), (7, .bptr (H.length, 7) 0)], tFr H.length p q s rows :: H.set nm (wbox w), 62⟩) :
  ∀ (i : Nat) (rows : List (List Int)) (w : Int), i + rows.length = N → (∀ a ∈ rows, a.length = p ∧ RowOk q a) →
  WPL KC needT 19 (lp Tryz.f19 0) [0, 6, 7, 8] [6, 7] Q [(0, .bptr nm 0), (6, .bptr (H.length, 6) 0), (7, .bptr (H.length, 7) 0), (8, .pure (.int .i64 (i : Nat)))] (tFr H.length p q s rows :: H.set nm (wbox w)) 62 := by
 have hle : nm.1 ≤ H.length := by omega
 have hl2 : ∀ w, (H.set nm (wbox w)).length = H.length := fun w => Heap.length_set _ _ _
 intro i
 induction i with
 | zero =>
  intro rows w hi ha
  apply WPL_step
  conv => arg 4; whnf
  simp [tFr, hl2]
  simpa [tFr] using hQ rows w (by omega) ha
 | succ i ih =>
  intro rows w hi ha
  have e1 : (i : Int) + 1 - 1 = i := by omega
  have hw := w64 (x := (i : Int) + 1 - 1) (by omega) (by omega)
  rw [e1] at hw
  have k0 : (0 : Int) < (i : Int) + 1 := by omega
  have L := fun Q hQ => tabI_loop (H := H) hlt p q s hp rows ((i : Int) + 1) Q hQ p 0 [] w (by omega) rfl (.nil q)
  simp [tFr, apS_nil, apF_nil] at L
  apply WPL_step
  conv => arg 4; whnf
  simp [tFr, hl2, k0, hle]
  refine L _ (fun l w1 hl hr => ?_)
  have ih' := ih (rows ++ [l]) w1 (by simp; omega) (fun a h => by
   rcases List.mem_append.1 h with h | h
   ·exact ha a h
   ·simp at h; subst h; exact ⟨hl, hr⟩)
  have hne : l.map irow ≠ [] := by
   intro e; have := congrArg List.length e; simp at this; subst this; simp at hl; omega
  have hb : (rows.length + 1) * 24 ≤ 1099511627776 := by omega
  have A := fun f0 fr (hf : Fr.get fr 59 = none) => apK_1 (H := H.set nm (wbox w1)) (l := H.length) (key := 59) (es := 1) (bytes := 24) (rows := rows.map arow) (r := arow l) (fr := fr) (f0 := f0) (hl2 _) hf (by simpa using hb)
  simp only [arow] at A
  have hS : apS (H.length + 1, 54) 1 (l.map irow) = .hdr (H.length + 1, 54) 1 l.length 0 l.length := by unfold apS; rw [if_neg hne]; simp
  have hF := apF_self (key := 54) (es := 1) (fr := []) hne
  have htk : (l.map irow).take l.length = l.map irow := List.take_of_length_le (by simp)
  rw [hS]
  simp [hF, hl2, htk, A, arow, hw, e1, hle, zb64]
  simpa [tFr, arow, zb64] using ih'
structure TOk (t : Tab) : Prop where
 pk : 1 ≤ t.packets ∧ t.packets ≤ 9
 ps : 0 ≤ t.passed ∧ t.passed ≤ t.packets
 st : 1 ≤ t.state ∧ t.state ≤ 4
 cl : 3 ≤ t.state → t.passed = t.packets
 n : 1 ≤ t.answers.length ∧ t.answers.length ≤ 12
 row : ∀ a ∈ t.answers, (a.length : Int) = t.packets ∧ RowOk t.passed a
theorem TOk.sm {t : Tab} (h : TOk t) : Sm t := ⟨by have := h.n; omega, fun a ha => by have := (h.row a ha).1; have := h.pk; omega⟩
theorem RowOk.row {p q : Int} {a : List Int} (hl : (a.length : Int) = p) (hq : 0 ≤ q ∧ q ≤ p) (h : RowOk q a) : rowE p q a = 0 := by
 have hw : wrF a p = 0 := by
  have := h.1.wr (n := a.length) rfl
  rwa [hl] at this
 rw [rowE_late hl hw hq, if_pos]
 unfold lateOk
 rw [List.all_eq_true]
 intro x hx
 obtain ⟨k, hk, rfl⟩ := List.getElem_of_mem hx
 have hk' : q.toNat + k < a.length := by simp at hk; omega
 have := h.2 (q.toNat + k) hk' (by omega)
 simp only [List.getElem_drop, beq_iff_eq]
 exact this
theorem rowsE_zero {p q : Int} : ∀ {l : List (List Int)}, (∀ a ∈ l, rowE p q a = 0) → rowsE p q l = 0
 | [], _ => rfl
 | a :: r, h => by
  have h0 := h a (List.mem_cons_self ..)
  unfold rowsE
  rw [if_neg (not_not_intro h0)]
  exact rowsE_zero fun x hx => h x (List.mem_cons_of_mem _ hx)
theorem TOk.chk {t : Tab} (h : TOk t) : chkT t = 0 := by
 have h1 := h.pk; have h2 := h.ps; have h3 := h.st; have h4 := h.n
 have hr := rowsE_zero (p := t.packets) (q := t.passed) (l := t.answers) fun a ha => (h.row a ha).2.row (h.row a ha).1 h2
 unfold chkT
 rw [inB_iff.2 ⟨by omega, by omega⟩, inB_iff.2 ⟨by omega, by omega⟩, inB_iff.2 ⟨by omega, by omega⟩, hr]
 have e0 : ¬ t.answers = [] := fun e => by rw [e] at h4; simp at h4
 have h5 : ¬ (3 ≤ t.state ∧ t.passed < t.packets) := fun h' => by have := h.cl h'.1; omega
 have h6 : ¬ 12 < t.answers.length := by omega
 simp [e0, h5, h6]
theorem pick4 (w x : Int) (h : 1 ≤ x ∧ x ≤ 4) : ∃ v w', pickR w [1, 1, 1, x] = (v, w') ∧ 1 ≤ v ∧ v ≤ 4 := by
 refine ⟨(pickR w [1, 1, 1, x]).1, (pickR w [1, 1, 1, x]).2, rfl, ?_⟩
 rw [pickR_def]
 have hr := upR_rng w 4 (by omega)
 simp only [List.length_cons, List.length_nil]
 rw [if_neg (by omega)]
 have : (upR w 4).1 = 0 ∨ (upR w 4).1 = 1 ∨ (upR w 4).1 = 2 ∨ (upR w 4).1 = 3 := by omega
 show 1 ≤ [1, 1, 1, x].getD (upR w 4).1.toNat 0 ∧ [1, 1, 1, x].getD (upR w 4).1.toNat 0 ≤ 4
 rcases this with e | e | e | e <;> rw [e] <;> simp <;> omega
theorem table_ok0 {nm : Nm} (hlt : nm.1 < H.length) (w0 : Int) (P G : Nat) (hP : 1 ≤ P ∧ P ≤ 9) (hG : 1 ≤ G ∧ G ≤ 12) : ∃ t wd, TOk t ∧ gcall KC (geval KC) 19 [.bptr nm 0, .pure (.int .i64 (P : Nat)), .pure (.int .i64 (G : Nat))] c (H.set nm (wbox w0)) = some (.pure (.agg t.row), H.set nm (wbox wd)) := by
 have hle : nm.1 ≤ H.length := by omega
 have hl2 : ∀ w, (H.set nm (wbox w)).length = H.length := fun w => Heap.length_set _ _ _
 suffices hs : WPv (gcall KC (geval KC) 19 [.bptr nm 0, .pure (.int .i64 (P : Nat)), .pure (.int .i64 (G : Nat))] c (H.set nm (wbox w0))) (fun x => ∃ t wd, TOk t ∧ x = (.pure (.agg t.row), H.set nm (wbox wd))) by
  obtain ⟨x, hx, t, wd, h1, e⟩ := hs
  exact ⟨t, wd, h1, by rw [hx, e]⟩
 refine call_enter KC needT Tryz.func19 rfl rfl good19 rfl rfl rfl (by simp) (by rw [hl2]; omega) ?_
 obtain ⟨p, w1, e1, p1, p2⟩ := anyR_get w0 P (by omega) (by omega)
 obtain ⟨x, w2, e2⟩ : ∃ x w2, anyR w1 1 4 = (x, w2) := ⟨_, _, rfl⟩
 have hx := anyR_rng w1 1 4 (by omega) (by omega) (by omega)
 rw [e2] at hx
 obtain ⟨s, w3, e3, s1, s2⟩ := pick4 w2 x hx
 obtain ⟨q, w4, e4⟩ : ∃ q w4, anyR w3 0 p = (q, w4) := ⟨_, _, rfl⟩
 have hq := anyR_rng w3 0 p (by omega) (by omega) (by omega)
 rw [e4] at hq
 simp only at hq hx
 obtain ⟨n, w5, e5, n1, n2⟩ := anyR_get w4 G (by omega) (by omega)
 have Y := fun c f0 w (lo hi : Int) => any1 (c := c) (H := H) hlt f0 w (lo := lo) (hi := hi)
 have K := fun c f0 w => pick1 (c := c) (H := H) hlt f0 w (l := [1, 1, 1, x]) (by simp)
 simp [irow] at K
 have fin : ∀ (q' : Int) (hq' : 0 ≤ q' ∧ q' ≤ p) (hc : 3 ≤ s → q' = p) (rows : List (List Int)) (w : Int), rows.length = n → (∀ a ∈ rows, a.length = p ∧ RowOk q' a) → TOk ⟨p, q', s, rows⟩ := fun q' hq' hc rows w hl ha =>
  ⟨⟨by simp only; omega, by simp only; omega⟩, ⟨hq'.1, hq'.2⟩, ⟨s1, s2⟩, hc, ⟨by simp only; omega, by simp only; omega⟩, fun a h => ⟨by simp only; have := (ha a h).1; omega, (ha a h).2⟩⟩
 by_cases hs3 : 3 ≤ s
 ·have L := fun Q hQ => tabO_loop (H := H) hlt n p (by omega) p s (by omega) (by omega) Q hQ n [] w5 rfl (fun a h => absurd h List.not_mem_nil)
  simp [tFr, zb64, apS_nil, apF_nil] at L
  simp [hl2, hle, Y, e1, e2, e3, e4, e5, K, hs3]
  refine L _ (fun rows w hl ha => ?_)
  have T := fin p ⟨by omega, by omega⟩ (fun _ => rfl) rows w hl ha
  simp [hl2]
  rw [gleave_free]
  ·rw [WPv_some, hl2]
   refine ⟨_, T, w, ?_⟩
   rw [clean_agg]
   simp only [List.map_cons, List.map_nil, clean1_pure]
   rw [clean1_apS (hl2 _) (by omega) (fun hne => apF_self hne)]
   have hk : rows.map arow ≠ [] := fun e => by have := congrArg List.length e; simp at this; subst this; simp at hl; omega
   rw [if_neg hk]
   simp [Tab.row]
  ·simp
 ·have L := fun Q hQ => tabO_loop (H := H) hlt n p (by omega) q s (by omega) (by omega) Q hQ n [] w5 rfl (fun a h => absurd h List.not_mem_nil)
  simp [tFr, zb64, apS_nil, apF_nil] at L
  simp [hl2, hle, Y, e1, e2, e3, e4, e5, K, hs3]
  refine L _ (fun rows w hl ha => ?_)
  have T := fin q hq (fun h => absurd h hs3) rows w hl ha
  simp [hl2]
  rw [gleave_free]
  ·rw [WPv_some, hl2]
   refine ⟨_, T, w, ?_⟩
   rw [clean_agg]
   simp only [List.map_cons, List.map_nil, clean1_pure]
   rw [clean1_apS (hl2 _) (by omega) (fun hne => apF_self hne)]
   have hk : rows.map arow ≠ [] := fun e => by have := congrArg List.length e; simp at this; subst this; simp at hl; omega
   rw [if_neg hk]
   simp [Tab.row]
  ·simp
theorem table_ok {nm : Nm} (hB : isBox H nm) (P G : Nat) (hP : 1 ≤ P ∧ P ≤ 9) (hG : 1 ≤ G ∧ G ≤ 12) : ∃ t wd, TOk t ∧ gcall KC (geval KC) 19 [.bptr nm 0, .pure (.int .i64 (P : Nat)), .pure (.int .i64 (G : Nat))] c H = some (.pure (.agg t.row), H.set nm (wbox wd)) := by
 obtain ⟨t, wd, h1, h2⟩ := table_ok0 (c := c) (isBox_lt hB) (wordAt H nm) P G hP hG
 rw [isBox_set hB] at h2
 exact ⟨t, wd, h1, h2⟩
end
section
variable {c : Nat} {H : Heap}
theorem awakeX_ok (hH : 0 < H.length) : gcall KC (geval KC) 18 [] c H = some (.pure (.bool true), H) := by
 refine (gcall_ext KC (e := extTold [([], .bool true)]) (by kernel_rfl) (by rfl) hH).trans ?_
 rfl
def svS (t : Tab) : List UInt8 := if chkT t = 0 then saveS t else []
theorem Save_ok (t : Tab) (hs : Sm t) (hH : 0 < H.length) : gcall KC (geval KC) 20 [.pure (.agg t.row)] c H = some (.pure (.tuple [.str (svS t), .int .i64 (chkT t)]), H) := by
 unfold svS
 by_cases h : chkT t = 0
 ·rw [if_pos h, h]
  have hg := goodT h
  exact save0 t hs hH h fun a ha => ⟨by have := (hg.a a ha).1; omega, fun n hn => by have := (hg.a a ha).2 n hn; omega⟩
 ·rw [if_neg h]
  refine WPv_eq (call_enter KC needT Tryz.func20 rfl rfl good20 rfl rfl rfl (by simp) hH ?_)
  have hC := fun c G (hG : 0 < List.length G) => chkT_ok (c := c) (H := G) t hs hG
  have h' : (chkT t == 0) = false := by simpa using h
  unfold Tab.row at hC
  simp [Tab.row, hC, h, h', gleave_free, bne]
theorem GoodT.sm {t : Tab} (h : GoodT t) : Sm t := ⟨by have := h.n; omega, fun a ha => by have := (h.a a ha).1; omega⟩
end
theorem law5 (l : List Int) (hn : l.length ≤ 9223372036854775807) (s : List UInt8) (hsl : s.length ≤ 9223372036854775807) : ∃ H', gcall KC (geval KC) 5 [.pure (.slice (l.map irow)), .pure (.str s)] 0 [[]] = some (.pure (.bool true), H') := by
 have key : WPv (gcall KC (geval KC) 5 [.pure (.slice (l.map irow)), .pure (.str s)] 0 [[]]) (fun x => x.1 = .pure (.bool true)) := by
  refine call_enter KC needT Tryz.func5 rfl rfl good5 rfl rfl rfl (by simp) (by simp) ?_
  have hA := fun c (G : Heap) (hG : 0 < G.length) => awakeX_ok (c := c) (H := G) hG
  by_cases h1 : 1000 < s.length
  ·have h1' : (1000 : Int) < s.length := by omega
   simp [h1, h1', hA, gleave_free]
  ·have h1' : ¬ (1000 : Int) < s.length := by omega
   have nk : newKey 21 6 = 24598 := by decide
   obtain ⟨w, hw⟩ := BoxOf_ok (c := 21) (H := [[], []]) l hn (by simp) (by simp) (of_decide_eq_true (by kernel_rfl))
   rw [nk] at hw
   simp at hw
   have hB : isBox [[(24598, wbox w)], []] (1, 24598) := ⟨w, by simp, by simp⟩
   obtain ⟨t, wd, hT, eT⟩ := table_ok (c := 22) hB 9 12 (by omega) (by omega)
   have hch := hT.chk
   have hSm := hT.sm
   simp at eT
   have hS := fun c (G : Heap) (hG : 0 < G.length) => Save_ok (c := c) (H := G) t hSm hG
   have hg := goodT hch
   have hL := fun c (G : Heap) (hG : 0 < G.length) => Load_ok (c := c) (H := G) (saveS t) hG (by have := saveS_short hg; omega)
   rw [load_save hch] at hL
   have hE := fun c (G : Heap) (hG : 0 < G.length) => eqT_ok (c := c) (H := G) t hSm hG
   unfold svS at hS
   rw [if_pos hch, hch] at hS
   have hL2 := fun c (G : Heap) (hG : 0 < G.length) => Load_ok (c := c) (H := G) s hG hsl
   unfold loadT Tab.row at hL hL2
   unfold Tab.row at hS hE eT
   by_cases hz : (loadE s).2.2 = 0
   ·obtain ⟨q1, q2⟩ := save_load hz
    have hSm2 := (goodT q2).sm
    have hS2 := fun c (G : Heap) (hG : 0 < G.length) => Save_ok (c := c) (H := G) (loadE s).1 hSm2 hG
    unfold svS at hS2
    rw [if_pos q2, q2, q1] at hS2
    unfold Tab.row at hS2
    generalize loadE s = x at *
    obtain ⟨y, li, fa⟩ := x
    simp only at hz hL2 hS2
    subst hz
    simp [h1, h1', hw, eT, hS, hL, hE, hL2, hS2, hA, gleave_free]
   ·have q1 := loadE_err hz
    rw [q1] at hL2
    generalize loadE s = x at *
    obtain ⟨y, li, fa⟩ := x
    simp only at hz hL2
    have hz' : (fa == 0) = false := by simpa using hz
    simp [zT] at hL2
    simp [h1, h1', hw, eT, hS, hL, hE, hL2, hz, hz', hA, gleave_free, bne]
 obtain ⟨r, e1, e2⟩ := key
 obtain ⟨v, H'⟩ := r
 simp only at e2
 subst e2
 exact ⟨H', e1⟩
section
open Go.ChangeShapes Go.WideShapes Go.RowKit Go.ChangeAt
def Shp (P : Program) : Nat → TypeId → List PV → Prop
 | 0, _, _ => False
 | n + 1, t, ps =>
  match P.underlying t with
  | some .bool => ∃ b, ps = [.bool b]
  | some (.int k) => ∃ m, (Lit.int k m).wf = true ∧ ps = [.int k m]
  | some .string => ∃ l : List UInt8, l.length ≤ maxLen ∧ ps = [.str l]
  | some (.slice e) => ∃ rows, rows.length ≤ maxLen ∧ (∀ r ∈ rows, r.length = P.cellsOf e ∧ Shp P n e r) ∧ ps = [.slice rows]
  | some (.struct fs) => ps.length = P.cellsOf t ∧ ∀ f ∈ fs.toList, Shp P n f.type ((ps.drop f.offset).take (P.cellsOf f.type))
  | some (.array m e) => ps.length = P.cellsOf t ∧ ∀ i, i < m → Shp P n e ((ps.drop (i * P.cellsOf e)).take (P.cellsOf e))
  | _ => False
def consec (P : Program) (tot : Nat) : Nat → List (Nat × TypeId) → Bool
 | o, [] => o == tot
 | o, (off, t) :: r => off == o && consec P tot (o + P.cellsOf t) r
def plainTy (P : Program) : Nat → TypeId → Bool
 | 0, _ => false
 | n + 1, t =>
  match P.underlying t with
  | some .bool | some (.int _) | some .string => true
  | some (.slice e) => decide (0 < P.cellsOf e) && plainTy P n e
  | some (.struct fs) => consec P (P.cellsOf t) 0 (fs.toList.map fun f => (f.offset, f.type)) && fs.toList.all fun f => plainTy P n f.type
  | some (.array m e) => consec P (P.cellsOf t) 0 ((List.range m).map fun i => (i * P.cellsOf e, e)) && plainTy P n e
  | _ => false
def S0 (w : World) : Nat → Prop := fun b => b < w.heap.size
def PRow (w : World) (cs : List Value) (ps : List PV) : Prop := ps.length = cs.length ∧ ∀ j, j < cs.length → (cs.getD j undef).oneCell' = true ∧ PRep w (S0 w) (cs.getD j undef) (ps.getD j .dead)
theorem PRow.append {w : World} {a b : List Value} {p q : List PV} (h : PRow w a p) (k : PRow w b q) : PRow w (a ++ b) (p ++ q) := by
 obtain ⟨h1, h2⟩ := h
 obtain ⟨k1, k2⟩ := k
 refine ⟨by simp [h1, k1], fun j hj => ?_⟩
 by_cases hja : j < a.length
 ·have e1 : (a ++ b).getD j undef = a.getD j undef := by simp [List.getD_eq_getElem?_getD, List.getElem?_append_left hja]
  have e2 : (p ++ q).getD j .dead = p.getD j .dead := by simp [List.getD_eq_getElem?_getD, List.getElem?_append_left (show j < p.length by omega)]
  rw [e1, e2]; exact h2 j hja
 ·have e1 : (a ++ b).getD j undef = b.getD (j - a.length) undef := by simp [List.getD_eq_getElem?_getD, List.getElem?_append_right (show a.length ≤ j by omega)]
  have e2 : (p ++ q).getD j .dead = q.getD (j - a.length) .dead := by rw [List.getD_eq_getElem?_getD, List.getElem?_append_right (show p.length ≤ j by omega), h1, List.getD_eq_getElem?_getD]
  rw [e1, e2]; exact k2 _ (by simp at hj; omega)
theorem one_row {w : World} {v : Value} {p : PV} (h1 : v.oneCell' = true) (h : PRep w (S0 w) v p) : PRow w [v] [p] :=
  ⟨rfl, fun j hj => by have : j = 0 := by simpa using hj
                       subst this; exact ⟨h1, h⟩⟩
section
variable {P : Program} {w : World}
theorem parts_open (n : Nat) {cs : List Value} : ∀ (l : List (Nat × TypeId)) (o : Nat), consec P cs.length o l = true →
    (∀ x ∈ l, ∃ ps, PRow w ((cs.drop x.1).take (P.cellsOf x.2)) ps ∧ Shp P n x.2 ps) →
    o ≤ cs.length ∧ ∃ ps, PRow w (cs.drop o) ps ∧ ∀ x ∈ l, o ≤ x.1 ∧ Shp P n x.2 ((ps.drop (x.1 - o)).take (P.cellsOf x.2))
  | [], o, hc, h => by
    simp only [consec, beq_iff_eq] at hc
    subst hc
    exact ⟨Nat.le_refl _, [], by simp [PRow], by simp⟩
  | (off, t) :: r, o, hc, h => by
    simp only [consec, Bool.and_eq_true, beq_iff_eq] at hc
    obtain ⟨rfl, hc⟩ := hc
    obtain ⟨hle, ps, h1, h2⟩ := parts_open n r _ hc (fun x hx => h x (List.mem_cons_of_mem _ hx))
    obtain ⟨p, q1, q2⟩ := h (off, t) (List.mem_cons_self ..)
    simp only at q1 q2
    have hpl : p.length = P.cellsOf t := by rw [q1.1, List.length_take, List.length_drop]; omega
    refine ⟨by omega, p ++ ps, ?_, fun x hx => ?_⟩
    · have := q1.append h1
      rw [← List.drop_drop, List.take_append_drop] at this
      exact this
    · rcases List.mem_cons.1 hx with rfl | hx
      · refine ⟨Nat.le_refl _, ?_⟩
        simp only [Nat.sub_self, List.drop_zero]
        rw [← hpl, List.take_left]
        exact q2
      · obtain ⟨g1, g2⟩ := h2 x hx
        refine ⟨by omega, ?_⟩
        have e : (p ++ ps).drop (x.1 - off) = ps.drop (x.1 - (off + P.cellsOf t)) := by
          rw [List.drop_append, List.drop_of_length_le (by omega), List.nil_append, hpl, Nat.sub_sub]
        rw [e]; exact g2
theorem open_plain {H : Type} {enc : TypeId × Value → H} : ∀ (n : Nat) (t : TypeId) (fuel : Nat) (cs : List Value) (x : DataW H × List MemPlace), plainTy P n t = true →
    DataW.trod enc P w 0 (fun _ => true) true fuel t cs = some x → ∃ ps, PRow w cs ps ∧ Shp P n t ps := by
  intro n
  induction n with
  | zero => intro t fuel cs x h; simp [plainTy] at h
  | succ n ih =>
    intro t fuel cs x h hx
    unfold plainTy at h
    unfold Shp
    split at h
    · rename_i ht
      obtain ⟨b, rfl, _⟩ := DataW.trod_bool ht hx
      exact ⟨[.bool b], one_row rfl (.bool b), b, rfl⟩
    · rename_i k ht
      obtain ⟨m, rfl, _, hw⟩ := DataW.trod_int ht hx
      exact ⟨[.int k m], one_row rfl (.int k m), m, hw, rfl⟩
    · rename_i ht
      obtain ⟨s, rfl, _, hs⟩ := DataW.trod_string ht hx
      exact ⟨[.str s.data.toList], one_row rfl (.str s), _, by simpa using hs, rfl⟩
    · rename_i e ht
      simp only [Bool.and_eq_true, decide_eq_true_eq] at h
      obtain ⟨he, hp⟩ := h
      rcases DataW.trod_slice ht hx with ⟨rfl, _⟩ | ⟨a, len, cap, elems, rest, m, _, rfl, _, hb, hl, hm, hlen, hel, _, _⟩
      · exact ⟨[.slice []], one_row rfl (.slice0 none 0), [], by simp, by simp, rfl⟩
      · by_cases h0 : len = 0
        · subst h0
          exact ⟨[.slice []], one_row rfl (.slice0 _ _), [], by simp, by simp, rfl⟩
        · have each : ∀ i, i < len → ∃ c ps, w.cells? 0 (a.add (i * P.cellsOf e)) (P.cellsOf e) = some c ∧ PRow w c ps ∧ Shp P n e ps := by
            intro i hi
            have h1 := hel i hi
            rw [List.getElem?_eq_getElem (show i < elems.length by omega), Option.bind_eq_some_iff] at h1
            obtain ⟨c, h1, h2⟩ := h1
            obtain ⟨ps, h3, h4⟩ := ih e m c _ hp h2
            exact ⟨c, ps, h1, h3, h4⟩
          have ch : ∃ fc : Nat → List Value, ∃ fp : Nat → List PV, ∀ i, i < len → w.cells? 0 (a.add (i * P.cellsOf e)) (P.cellsOf e) = some (fc i) ∧ PRow w (fc i) (fp i) ∧ Shp P n e (fp i) := by
            refine ⟨fun i => if h : i < len then Classical.choose (each i h) else [], fun i => if h : i < len then Classical.choose (Classical.choose_spec (each i h)) else [], fun i hi => ?_⟩
            simp only [hi, ↓reduceDIte]
            exact Classical.choose_spec (Classical.choose_spec (each i hi))
          obtain ⟨fc, fp, hf⟩ := ch
          have hcell : ∀ i j, i < len → j < P.cellsOf e → w.cell? (a.add (i * P.cellsOf e + j)) = some ((fc i).getD j undef) := by
            intro i j hi hj
            obtain ⟨h1, _⟩ := hf i hi
            obtain ⟨_, g1, g2⟩ := World.cells?_some h1
            have := g2 j hj
            rw [List.getElem?_eq_getElem (by omega)] at this
            have e1 : (a.add (i * P.cellsOf e)).add j = a.add (i * P.cellsOf e + j) := by
              unfold Addr.add
              by_cases c1 : i * P.cellsOf e = 0 <;> by_cases c2 : j = 0 <;> simp_all [Nat.add_assoc]
            rw [e1] at this
            rw [this, List.getD_eq_getElem?_getD, List.getElem?_eq_getElem (by omega)]; rfl
          obtain ⟨b, off, spot⟩ := a
          have hsp : spot = none := by
            have := World.cell?_spot (hcell 0 0 (by omega) he)
            simpa [Addr.add] using this
          subst hsp
          have hcell' : ∀ i j, i < len → j < P.cellsOf e → w.cell? ⟨b, off + (i * P.cellsOf e + j), none⟩ = some ((fc i).getD j undef) := by
            intro i j hi hj
            have := hcell i j hi hj
            unfold Addr.add at this
            split at this
            · rename_i c; rw [c, Nat.add_zero]; exact this
            · exact this
          have hfl : ∀ i, i < len → (fp i).length = P.cellsOf e ∧ (fc i).length = P.cellsOf e := by
            intro i hi
            obtain ⟨h1, h2, _⟩ := hf i hi
            obtain ⟨_, g1, _⟩ := World.cells?_some h1
            exact ⟨h2.1.trans g1, g1⟩
          have hrows : ((List.range len).map fp).length = len := by simp
          refine ⟨[.slice ((List.range len).map fp)], one_row rfl ?_, _, by rw [hrows]; omega, fun r hr => ?_, rfl⟩
          · have := PRep.slice (w := w) (S := S0 w) b off cap (P.cellsOf e) ((List.range len).map fp) (fun i j => (fc i).getD j undef) (by
                have := hcell' 0 0 (by omega) he
                unfold S0
                refine Classical.byContradiction fun hn => ?_
                have hz : w.heap[b]? = none := Array.getElem?_eq_none (by omega)
                simp [World.cell?, hz] at this) he
              (fun r hr => by obtain ⟨i, hi, rfl⟩ := List.mem_map.1 hr; exact (hfl i (by simpa using hi)).1)
              (fun i j hi hj => hcell' i j (by simpa using hi) hj)
              (fun i j hi hj => by
                have hi' : i < len := by simpa using hi
                exact ((hf i hi').2.1.2 j (by rw [(hfl i hi').2]; exact hj)).1)
              (fun i j hi hj => by
                have hi' : i < len := by simpa using hi
                have e1 : ((List.range len).map fp).getD i [] = fp i := by simp [List.getD_eq_getElem?_getD, hi']
                rw [e1]
                exact ((hf i hi').2.1.2 j (by rw [(hfl i hi').2]; exact hj)).2)
              (by rw [hrows]; exact hl)
            rw [hrows] at this
            exact this
          · obtain ⟨i, hi, rfl⟩ := List.mem_map.1 hr
            have hi' : i < len := by simpa using hi
            exact ⟨(hfl i hi').1, (hf i hi').2.2⟩
    · rename_i fs ht
      simp only [Bool.and_eq_true, List.all_eq_true] at h
      obtain ⟨hc, hp⟩ := h
      obtain ⟨xs, m, _, _, hl, hlen, hfld⟩ := DataW.trod_struct ht hx
      rw [← hl] at hc
      obtain ⟨_, ps, h1, h2⟩ := parts_open (w := w) n _ 0 hc (fun y hy => by
        obtain ⟨f, hf, rfl⟩ := List.mem_map.1 hy
        obtain ⟨i, hi, e⟩ := List.getElem_of_mem hf
        have hi' : i < fs.size := by simpa using hi
        have h3 := hfld i f (by rw [Array.getElem?_eq_getElem hi']; rw [← e]; simp)
        rw [List.getElem?_eq_getElem (by omega)] at h3
        obtain ⟨p, q1, q2⟩ := ih f.type m _ _ (hp f hf) h3
        exact ⟨p, q1, q2⟩)
      rw [List.drop_zero] at h1
      refine ⟨ps, h1, by rw [h1.1, hl], fun f hf => ?_⟩
      exact (h2 (f.offset, f.type) (List.mem_map.2 ⟨f, hf, rfl⟩)).2
    · rename_i k e ht
      simp only [Bool.and_eq_true] at h
      obtain ⟨hc, hp⟩ := h
      obtain ⟨xs, m, _, _, hl, hlen, hfld⟩ := DataW.trod_array ht hx
      rw [← hl] at hc
      obtain ⟨_, ps, h1, h2⟩ := parts_open (w := w) n _ 0 hc (fun y hy => by
        obtain ⟨i, hi, rfl⟩ := List.mem_map.1 hy
        have hi' : i < k := by simpa using hi
        have h3 := hfld i hi'
        rw [List.getElem?_eq_getElem (by omega)] at h3
        obtain ⟨p, q1, q2⟩ := ih e m _ _ hp h3
        exact ⟨p, q1, q2⟩)
      rw [List.drop_zero] at h1
      refine ⟨ps, h1, by rw [h1.1, hl], fun i hi => ?_⟩
      exact (h2 (i * P.cellsOf e, e) (List.mem_map.2 ⟨i, by simpa using hi, rfl⟩)).2
    · cases h
def ArgP (P : Program) (n : Nat) (t : TypeId) (p : PV) : Prop :=
 match P.underlying t with
 | some (.struct _) | some (.array _ _) => ∃ ps, p = .agg ps ∧ Shp P n t ps
 | _ => Shp P n t [p]
def ArgsP (P : Program) (n : Nat) : List TypeId → List PV → Prop
 | [], [] => True
 | t :: ts, p :: ps => ArgP P n t p ∧ ArgsP P n ts ps
 | _, _ => False
def mu0 : Mu := fun _ _ => none
theorem shp_one {n : Nat} {t : TypeId} {ps : List PV} (h : Shp P n t ps) (hs : ∀ fs, P.underlying t ≠ some (.struct fs)) (ha : ∀ m e, P.underlying t ≠ some (.array m e)) : ∃ p, ps = [p] := by
 cases n with
 | zero => exact h.elim
 | succ n =>
  unfold Shp at h
  split at h
  ·obtain ⟨b, rfl⟩ := h; exact ⟨_, rfl⟩
  ·obtain ⟨m, _, rfl⟩ := h; exact ⟨_, rfl⟩
  ·obtain ⟨m, _, rfl⟩ := h; exact ⟨_, rfl⟩
  ·obtain ⟨m, _, _, rfl⟩ := h; exact ⟨_, rfl⟩
  ·rename_i ht; exact absurd ht (hs _)
  ·rename_i ht; exact absurd ht (ha _ _)
  ·exact h.elim
theorem arg_rel {H : Type} {enc : TypeId × Value → H} {n : Nat} {t : TypeId} {v : Value} {d : DataW H} {ps0 : List MemPlace} {base : Nat} (hp : plainTy P n t = true) (hok : Value.okWide P w .any base t v)
  (h : DataW.Trod enc P w 0 (fun _ => true) true t v d ps0) : ∃ p, VRel w (S0 w) mu0 0 v (.pure p) ∧ ArgP P n t p := by
 obtain ⟨fuel, hf⟩ := h
 obtain ⟨ps, h1, h2⟩ := open_plain n t fuel _ _ hp hf
 have agg : ∀ cs, v = .agg cs → ∃ p, VRel w (S0 w) mu0 0 v (.pure p) ∧ ∃ ps, p = .agg ps ∧ Shp P n t ps := by
  intro cs e
  subst e
  simp only [Value.cells] at h1
  refine ⟨.agg ps, .pure _ _ (.agg cs ps (by simpa using h1.1.symm) (fun j hj => ?_) (fun j hj => ?_)), ps, rfl, h2⟩
  ·have := (h1.2 j (by rw [← h1.1]; exact hj)).1
   simpa [List.getD_eq_getElem?_getD] using this
  ·have := (h1.2 j (by rw [← h1.1]; exact hj)).2
   simpa [List.getD_eq_getElem?_getD] using this
 unfold ArgP
 split
 ·rename_i fs ht
  obtain ⟨cs, e, _⟩ := okWide_struct ht hok
  exact agg cs e
 ·rename_i m e ht
  simp only [Value.okWide, ht] at hok
  obtain ⟨cs, e, _⟩ := hok
  exact agg cs e
 ·rename_i hs ha
  obtain ⟨p, rfl⟩ := shp_one h2 (fun fs e => hs fs e) (fun m e e' => ha m e e')
  have hv : v.cells.toList = [v] := by
   have hl := h1.1
   cases v <;> first | rfl | skip
   ·exfalso
    rename_i cs
    cases n with
    | zero => exact h2.elim
    | succ n =>
     unfold plainTy at hp
     simp only [Value.okWide] at hok
     split at hp <;> rename_i ht <;> first | (simp [Cell.okWide, Cell.ok, ht] at hok; done) | (exact absurd ht (hs _)) | (exact absurd ht (ha _ _)) | (cases hp; done) | skip
  rw [hv] at h1
  exact ⟨p, .pure _ _ (h1.2 0 (by simp)).2, h2⟩
end
end
section
open Go.WideShapes
def flatL (f : TypeId → Option (List SK)) : List TypeId → Option (List SK)
 | [] => some []
 | t :: r => match f t, flatL f r with | some a, some b => some (a ++ b) | _, _ => none
def flatK (P : Program) : Nat → TypeId → Option (List SK)
 | 0, _ => none
 | n + 1, t =>
  match P.underlying t with
  | some .bool => if P.cellsOf t = 1 then some [.bool] else none
  | some (.int k) => if P.cellsOf t = 1 then some [.int k] else none
  | some .string => if P.cellsOf t = 1 then some [.str] else none
  | some (.struct fs) => if consec P (P.cellsOf t) 0 (fs.toList.map fun f => (f.offset, f.type)) && fs.toList.all (·.name != "_") && !P.stoodInHeld t then flatL (flatK P n) (fs.toList.map (·.type)) else none
  | some (.array m e) => if decide (0 < m) && consec P (P.cellsOf t) 0 ((List.range m).map fun i => (i * P.cellsOf e, e)) then flatL (flatK P n) ((List.range m).map fun _ => e) else none
  | _ => none
def valOf (P : Program) (t : TypeId) (l : List Value) : Value :=
 match P.underlying t with
 | some (.struct _) | some (.array _ _) => .agg l.toArray
 | _ => l.headD undef
theorem eqRow_append : ∀ (k1 k2 : List SK) (a b : List PV) (q : Bool), eqRow (k1 ++ k2) a b = some q →
  ∃ q1 q2, eqRow k1 (a.take k1.length) (b.take k1.length) = some q1 ∧ eqRow k2 (a.drop k1.length) (b.drop k1.length) = some q2 ∧ q = (q1 && q2)
 | [], k2, a, b, q, h => ⟨true, q, rfl, h, by simp⟩
 | s :: ks, k2, [], b, q, h => by cases s <;> cases b <;> simp [eqRow] at h
 | s :: ks, k2, x :: a, [], q, h => by cases s <;> cases x <;> simp [eqRow] at h
 | s :: ks, k2, x :: a, y :: b, q, h => by
  have key : ∀ q', eqRow (ks ++ k2) a b = some q' → ∃ q1 q2, eqRow ks (a.take ks.length) (b.take ks.length) = some q1 ∧ eqRow k2 (a.drop ks.length) (b.drop ks.length) = some q2 ∧ q' = (q1 && q2) :=
   fun q' h => eqRow_append ks k2 a b q' h
  cases s with
  | int k =>
   cases x <;> cases y <;> simp only [List.cons_append, eqRow] at h
   all_goals first | (cases h; done) | skip
   split at h
   ·rename_i hk
    split at h
    ·rename_i q' hq'
     obtain ⟨q1, q2, e1, e2, rfl⟩ := key q' hq'
     simp only [Option.some.injEq] at h
     exact ⟨_, q2, by simp only [List.length_cons, List.take_succ_cons, eqRow, hk, and_self, if_true, e1]; rfl, by simpa using e2, by rw [← h, Bool.and_assoc]⟩
    ·cases h
   ·cases h
  | bool =>
   cases x <;> cases y <;> simp only [List.cons_append, eqRow] at h
   all_goals first | (cases h; done) | skip
   split at h
   ·rename_i q' hq'
    obtain ⟨q1, q2, e1, e2, rfl⟩ := key q' hq'
    simp only [Option.some.injEq] at h
    exact ⟨_, q2, by simp only [List.length_cons, List.take_succ_cons, eqRow, e1]; rfl, by simpa using e2, by rw [← h, Bool.and_assoc]⟩
   ·cases h
  | str =>
   cases x <;> cases y <;> simp only [List.cons_append, eqRow] at h
   all_goals first | (cases h; done) | skip
   split at h
   ·rename_i q' hq'
    obtain ⟨q1, q2, e1, e2, rfl⟩ := key q' hq'
    simp only [Option.some.injEq] at h
    exact ⟨_, q2, by simp only [List.length_cons, List.take_succ_cons, eqRow, e1]; rfl, by simpa using e2, by rw [← h, Bool.and_assoc]⟩
   ·cases h
theorem eqRow_len : ∀ (k : List SK) (a b : List PV) (q : Bool), eqRow k a b = some q → a.length = k.length ∧ b.length = k.length
 | [], a, b, q, h => by cases a <;> cases b <;> simp_all [eqRow]
 | s :: ks, [], b, q, h => by cases s <;> cases b <;> simp [eqRow] at h
 | s :: ks, x :: a, [], q, h => by cases s <;> cases x <;> simp [eqRow] at h
 | s :: ks, x :: a, y :: b, q, h => by
  have key : ∀ q', eqRow ks a b = some q' → (x :: a).length = (s :: ks).length ∧ (y :: b).length = (s :: ks).length := fun q' h => by
   have := eqRow_len ks a b q' h
   simp [this.1, this.2]
  cases s with
  | int k =>
   cases x <;> cases y <;> simp only [eqRow] at h
   all_goals first | (cases h; done) | skip
   split at h
   ·split at h
    ·rename_i q' hq'; exact key q' hq'
    ·cases h
   ·cases h
  | bool =>
   cases x <;> cases y <;> simp only [eqRow] at h
   all_goals first | (cases h; done) | skip
   split at h
   ·rename_i q' hq'; exact key q' hq'
   ·cases h
  | str =>
   cases x <;> cases y <;> simp only [eqRow] at h
   all_goals first | (cases h; done) | skip
   split at h
   ·rename_i q' hq'; exact key q' hq'
   ·cases h
section
variable {P : Program}
theorem flatL_cons {f : TypeId → Option (List SK)} {t : TypeId} {r : List TypeId} {ks : List SK} (h : flatL f (t :: r) = some ks) : ∃ a b, f t = some a ∧ flatL f r = some b ∧ ks = a ++ b := by
 simp only [flatL] at h
 split at h
 ·rename_i a b h1 h2; simp only [Option.some.injEq] at h; exact ⟨a, b, h1, h2, h.symm⟩
 ·cases h
theorem consec_len {n : Nat} (hf : ∀ t ks, flatK P n t = some ks → ks.length = P.cellsOf t) : ∀ (l : List (Nat × TypeId)) (o tot : Nat) (ks : List SK), consec P tot o l = true → flatL (flatK P n) (l.map (·.2)) = some ks → o + ks.length = tot
  | [], o, tot, ks, h, hk => by
    simp only [List.map_nil, flatL, Option.some.injEq] at hk
    subst hk
    simpa [consec] using h
  | (off, t) :: r, o, tot, ks, h, hk => by
    simp only [consec, Bool.and_eq_true, beq_iff_eq] at h
    obtain ⟨a, b, h1, h2, rfl⟩ := flatL_cons (by simpa using hk)
    have := consec_len hf r _ _ _ h.2 h2
    rw [List.length_append, hf t a h1]
    omega
theorem consec_le : ∀ (l : List (Nat × TypeId)) (o tot : Nat), consec P tot o l = true → o ≤ tot
  | [], o, tot, h => by simp only [consec, beq_iff_eq] at h; omega
  | (off, t) :: r, o, tot, h => by
    simp only [consec, Bool.and_eq_true, beq_iff_eq] at h
    have := consec_le r _ _ h.2
    omega
theorem flatK_len : ∀ (n : Nat) (t : TypeId) (ks : List SK), flatK P n t = some ks → ks.length = P.cellsOf t
 | 0, t, ks, h => by simp [flatK] at h
 | n + 1, t, ks, h => by
  unfold flatK at h
  split at h
  ·split at h
   ·rename_i e; simp at h; subst h; simp [e]
   ·cases h
  ·split at h
   ·rename_i e; simp at h; subst h; simp [e]
   ·cases h
  ·split at h
   ·rename_i e; simp at h; subst h; simp [e]
   ·cases h
  ·split at h
   ·rename_i hc
    simp only [Bool.and_eq_true] at hc
    have := consec_len (flatK_len n) _ 0 _ ks hc.1.1 (by rw [List.map_map]; exact h)
    omega
   ·cases h
  ·split at h
   ·rename_i hc
    simp only [Bool.and_eq_true] at hc
    have := consec_len (flatK_len n) _ 0 _ ks hc.2 (by rw [List.map_map]; exact h)
    omega
   ·cases h
  ·cases h
theorem flatK_und {n : Nat} {t : TypeId} {ks : List SK} (h : flatK P n t = some ks) : ∃ kd, P.underlying t = some kd := by
 cases n with
 | zero => simp [flatK] at h
 | succ n =>
  cases hu : P.underlying t with
  | none => simp [flatK, hu] at h
  | some kd => exact ⟨kd, rfl⟩
theorem run_part_val (w : World) {n : Nat} {t : TypeId} {ks : List SK} (h : flatK P n t = some ks) (xs : List Value) (off : Nat) (hlen : off + P.cellsOf t ≤ xs.length) :
  (part t xs.toArray off).run P w = .ok (valOf P t ((xs.drop off).take (P.cellsOf t))) w := by
 cases n with
 | zero => simp [flatK] at h
 | succ n =>
  unfold flatK at h
  have hone : P.cellsOf t = 1 → ((xs.drop off).take (P.cellsOf t)).headD undef = xs.getD off undef ∧ off < xs.length := by
   intro e
   rw [e] at hlen ⊢
   refine ⟨?_, by omega⟩
   simp [List.headD_eq_head?_getD, List.head?_take, List.head?_drop, List.getD_eq_getElem?_getD]
  have hagg : ∀ kd, P.underlying t = some kd → (∃ fs, kd = .struct fs) ∨ (∃ m e, kd = .array m e) → (part t xs.toArray off).run P w = .ok (.agg ((xs.drop off).take (P.cellsOf t)).toArray) w := by
   intro kd hu hk
   obtain ⟨i, hi⟩ := info_of_underlying hu
   have e : xs.toArray.extract off (off + P.cellsOf t) = ((xs.drop off).take (P.cellsOf t)).toArray := by
    apply Array.toList_inj.1
    simp [Array.toList_extract, List.extract]
   rcases hk with ⟨fs, rfl⟩ | ⟨m, e', rfl⟩ <;> simp [part, isAgg, run_underlying hu, run_sizeOf w hi, e]
  unfold valOf
  split at h
  ·rename_i ht
   split at h
   ·rename_i e
    rw [(hone e).1]
    have := (hone e).2
    simp [part, isAgg, run_underlying ht, this, List.getD_eq_getElem?_getD, ht]
   ·cases h
  ·rename_i ht
   split at h
   ·rename_i e
    rw [(hone e).1]
    have := (hone e).2
    simp [part, isAgg, run_underlying ht, this, List.getD_eq_getElem?_getD, ht]
   ·cases h
  ·rename_i ht
   split at h
   ·rename_i e
    rw [(hone e).1]
    have := (hone e).2
    simp [part, isAgg, run_underlying ht, this, List.getD_eq_getElem?_getD, ht]
   ·cases h
  ·rename_i fs ht
   simp only [ht]
   exact hagg _ ht (.inl ⟨_, rfl⟩)
  ·rename_i m e ht
   simp only [ht]
   exact hagg _ ht (.inr ⟨_, _, rfl⟩)
  ·cases h
def EqAt' (P : Program) (n d : Nat) (t : TypeId) : Prop := ∀ ks, flatK P n t = some ks → ∀ (a b : List PV) (q : Bool), eqRow ks a b = some q →
 ∀ w, (Op.equalIn d t (valOf P t (a.map scalV)) (valOf P t (b.map scalV))).run P w = .ok q w
def CkAt (P : Program) (n d : Nat) (t : TypeId) : Prop := ∀ ks, flatK P n t = some ks → ∀ (a : List PV), a.length = ks.length → ∀ e w, (Instr.checkKey e d t (valOf P t (a.map scalV))).run P w = .ok () w
theorem run_eqFields_flat {n d : Nat} (ih : ∀ t, EqAt' P n d t) : ∀ (fs : List Field) (o : Nat) (ks : List SK) (a b : List PV) (q : Bool), consec P a.length o (fs.map fun f => (f.offset, f.type)) = true → (fs.all (·.name != "_")) = true →
  flatL (flatK P n) (fs.map (·.type)) = some ks → a.length = b.length → eqRow ks (a.drop o) (b.drop o) = some q → ∀ w, (Op.eqFields d (a.map scalV).toArray (b.map scalV).toArray fs).run P w = .ok q w
 | [], o, ks, a, b, q, hc, hn, hk, hl, he, w => by
  simp only [List.map_nil, flatL, Option.some.injEq] at hk
  subst hk
  have hl1 := eqRow_len _ _ _ _ he
  have e1 : a.drop o = [] := List.length_eq_zero_iff.1 hl1.1
  have e2 : b.drop o = [] := List.length_eq_zero_iff.1 hl1.2
  rw [e1, e2] at he
  simp only [eqRow, Option.some.injEq] at he
  subst he
  simp [Op.eqFields]
 | f :: fs, o, ks, a, b, q, hc, hn, hk, hl, he, w => by
  simp only [List.map_cons, consec, Bool.and_eq_true, beq_iff_eq] at hc
  obtain ⟨rfl, hc⟩ := hc
  simp only [List.all_cons, Bool.and_eq_true, bne_iff_ne, ne_eq] at hn
  obtain ⟨k1, k2, h1, h2, rfl⟩ := flatL_cons (by simpa using hk)
  obtain ⟨q1, q2, g1, g2, rfl⟩ := eqRow_append k1 k2 _ _ q he
  have hk1 := flatK_len n _ _ h1
  have hle := consec_le _ _ _ hc
  have hkl := eqRow_len _ _ _ _ he
  simp only [List.length_drop, List.length_append] at hkl
  rw [List.drop_drop, List.drop_drop] at g2
  rw [hk1] at g1 g2
  have p1 := run_part_val w h1 (a.map scalV) f.offset (by simp; omega)
  have p2 := run_part_val w h1 (b.map scalV) f.offset (by simp; omega)
  rw [← List.map_drop, ← List.map_take] at p1 p2
  have p3 := ih f.type k1 h1 _ _ q1 g1 w
  have rest := run_eqFields_flat ih fs _ k2 a b q2 hc (by simpa using hn.2) h2 hl g2 w
  simp only [Op.eqFields, hn.1, ne_eq, not_false_eq_true, if_true, Sem.run_bind, p1, p2, p3, Result.andThen_ok]
  cases q1
  ·simp
  ·simpa using rest
theorem run_eqItems_flat {n d : Nat} {e : TypeId} (ih : ∀ t, EqAt' P n d t) : ∀ (is : List Nat) (o : Nat) (ks : List SK) (a b : List PV) (q : Bool), consec P a.length o (is.map fun i => (i * P.cellsOf e, e)) = true →
  flatL (flatK P n) (is.map fun _ => e) = some ks → a.length = b.length → eqRow ks (a.drop o) (b.drop o) = some q → ∀ w, (Op.eqItems d e (P.cellsOf e) (a.map scalV).toArray (b.map scalV).toArray is).run P w = .ok q w
 | [], o, ks, a, b, q, hc, hk, hl, he, w => by
  simp only [List.map_nil, flatL, Option.some.injEq] at hk
  subst hk
  have hl1 := eqRow_len _ _ _ _ he
  have e1 : a.drop o = [] := List.length_eq_zero_iff.1 hl1.1
  have e2 : b.drop o = [] := List.length_eq_zero_iff.1 hl1.2
  rw [e1, e2] at he
  simp only [eqRow, Option.some.injEq] at he
  subst he
  simp [Op.eqItems]
 | i :: is, o, ks, a, b, q, hc, hk, hl, he, w => by
  simp only [List.map_cons, consec, Bool.and_eq_true, beq_iff_eq] at hc
  obtain ⟨rfl, hc⟩ := hc
  obtain ⟨k1, k2, h1, h2, rfl⟩ := flatL_cons (by simpa using hk)
  obtain ⟨q1, q2, g1, g2, rfl⟩ := eqRow_append k1 k2 _ _ q he
  have hk1 := flatK_len n _ _ h1
  have hle := consec_le _ _ _ hc
  have hkl := eqRow_len _ _ _ _ he
  simp only [List.length_drop, List.length_append] at hkl
  rw [List.drop_drop, List.drop_drop] at g2
  rw [hk1] at g1 g2
  have p1 := run_part_val w h1 (a.map scalV) (i * P.cellsOf e) (by simp; omega)
  have p2 := run_part_val w h1 (b.map scalV) (i * P.cellsOf e) (by simp; omega)
  rw [← List.map_drop, ← List.map_take] at p1 p2
  have p3 := ih e k1 h1 _ _ q1 g1 w
  have rest := run_eqItems_flat ih is _ k2 a b q2 hc h2 hl g2 w
  simp only [Op.eqItems, Sem.run_bind, p1, p2, p3, Result.andThen_ok]
  cases q1
  ·simp
  ·simpa using rest
theorem eqAt_flat (d : Nat) : ∀ (n : Nat) (t : TypeId), EqAt' P n (d + n) t
 | 0, t => fun ks h => by simp [flatK] at h
 | n + 1, t => fun ks h a b q he w => by
  have ih := fun t => eqAt_flat d n t
  have hl := flatK_len _ _ _ h
  have hl2 := eqRow_len _ _ _ _ he
  unfold flatK at h
  unfold valOf
  rw [show d + (n + 1) = (d + n) + 1 from rfl]
  split at h
  ·rename_i ht
   split at h
   ·simp only [Option.some.injEq] at h
    subst h
    match a, b, he with
    | [.bool x], [.bool y], he =>
     simp only [eqRow, Option.some.injEq, Bool.and_true] at he
     simp only [List.map_cons, List.map_nil, List.headD_cons, scalV, ht]
     rw [run_equalIn_bool' w _ _ _ _ ht, he]
   ·cases h
  ·rename_i k ht
   split at h
   ·simp only [Option.some.injEq] at h
    subst h
    match a, b, he with
    | [.int k1 x], [.int k2 y], he =>
     simp only [eqRow] at he
     split at he
     ·rename_i hk
      simp only [Option.some.injEq, Bool.and_true] at he
      obtain ⟨rfl, rfl⟩ := hk
      simp only [List.map_cons, List.map_nil, List.headD_cons, scalV, ht]
      rw [run_equalIn_int w _ _ _ _ _ _ ht, ‹(x == y) = q›]
     ·cases he
   ·cases h
  ·rename_i ht
   split at h
   ·simp only [Option.some.injEq] at h
    subst h
    match a, b, he with
    | [.str x], [.str y], he =>
     simp only [eqRow, Option.some.injEq, Bool.and_true] at he
     simp only [List.map_cons, List.map_nil, List.headD_cons, scalV, ht]
     rw [run_equalIn_string w _ _ _ _ ht]
     simp [ByteArray.toList_eq, he]
   ·cases h
  ·rename_i fs ht
   split at h
   ·rename_i hc
    simp only [Bool.and_eq_true, Bool.not_eq_true'] at hc
    have hfo : P.fieldsOf t = fs := by simp [Program.fieldsOf, ht]
    simp only [ht]
    rw [run_equalIn_struct w _ _ _ _ (by rw [hfo]; exact ht) hc.2, hfo]
    exact run_eqFields_flat ih fs.toList 0 ks a b q (by rw [hl2.1, hl]; exact hc.1.1) hc.1.2 h (by omega) (by simpa using he) w
   ·cases h
  ·rename_i m e ht
   split at h
   ·rename_i hc
    simp only [Bool.and_eq_true, decide_eq_true_eq] at hc
    have hinf : ∃ i, P.info? e = some i := by
     obtain ⟨m, rfl⟩ : ∃ m', m = m' + 1 := ⟨m - 1, by omega⟩
     rw [List.range_succ_eq_map, List.map_cons] at h
     obtain ⟨k1, _, h1, _⟩ := flatL_cons h
     obtain ⟨kd, hu⟩ := flatK_und h1
     exact info_of_underlying hu
    obtain ⟨i, hi⟩ := hinf
    simp only [ht]
    rw [run_equalIn_array w _ _ _ ht hi]
    exact run_eqItems_flat ih (List.range m) 0 ks a b q (by rw [hl2.1, hl]; exact hc.2) h (by omega) (by simpa using he) w
   ·cases h
  ·cases h
theorem ckAt_flat (d : Nat) : ∀ (n : Nat) (t : TypeId), CkAt P n (d + n) t
 | 0, t => fun ks h => by simp [flatK] at h
 | n + 1, t => fun ks h a hal e w => by
  have ih := fun t => ckAt_flat d n t
  have hl := flatK_len _ _ _ h
  unfold flatK at h
  unfold valOf
  rw [show d + (n + 1) = (d + n) + 1 from rfl, Instr.checkKey]
  split at h
  ·rename_i ht
   simp only [ht, Sem.run_bind, run_underlying ht, Result.andThen_ok, Sem.run_pure]
  ·rename_i k ht
   simp only [ht, Sem.run_bind, run_underlying ht, Result.andThen_ok, Sem.run_pure]
  ·rename_i ht
   simp only [ht, Sem.run_bind, run_underlying ht, Result.andThen_ok, Sem.run_pure]
  ·rename_i fs ht
   split at h
   ·rename_i hc
    simp only [Bool.and_eq_true, Bool.not_eq_true'] at hc
    simp only [ht, Sem.run_bind, run_underlying ht, Result.andThen_ok]
    rw [← Array.forIn_toList]
    have key : ∀ (L : List Field) (o : Nat) (ks : List SK), consec P a.length o (L.map fun f => (f.offset, f.type)) = true → (L.all (·.name != "_")) = true → flatL (flatK P n) (L.map (·.type)) = some ks →
      (forIn L PUnit.unit (fun f (_ : PUnit) => if f.name ≠ "_" then (do
       let p ← part f.type (a.map scalV).toArray f.offset
       Instr.checkKey e (d + n) f.type p
       pure (ForInStep.yield PUnit.unit)) else pure (ForInStep.yield PUnit.unit)) : Sem PUnit).run P w = .ok PUnit.unit w := by
     intro L
     induction L with
     | nil => intro o ks _ _ _; simp
     | cons f L ihL =>
      intro o ks hc hn hk
      simp only [List.map_cons, consec, Bool.and_eq_true, beq_iff_eq] at hc
      obtain ⟨rfl, hc⟩ := hc
      simp only [List.all_cons, Bool.and_eq_true, bne_iff_ne, ne_eq] at hn
      obtain ⟨k1, k2, h1, h2, rfl⟩ := flatL_cons (by simpa using hk)
      have hk1 := flatK_len n _ _ h1
      have hle := consec_le _ _ _ hc
      have p1 := run_part_val w h1 (a.map scalV) f.offset (by simp; omega)
      rw [← List.map_drop, ← List.map_take] at p1
      have p2 := ih f.type k1 h1 ((a.drop f.offset).take (P.cellsOf f.type)) (by simp; omega) e w
      have := ihL _ _ hc (by simpa using hn.2) h2
      simp only [List.forIn_cons, Sem.run_bind, hn.1, ne_eq, not_false_eq_true, if_true, p1, p2, Result.andThen_ok, Sem.run_pure]
      exact this
    have := key fs.toList 0 ks (by rw [hal, hl]; exact hc.1.1) hc.1.2 h
    rw [this]; rfl
   ·cases h
  ·rename_i m el ht
   split at h
   ·rename_i hc
    simp only [Bool.and_eq_true, decide_eq_true_eq] at hc
    have hinf : ∃ i, P.info? el = some i := by
     obtain ⟨m, rfl⟩ : ∃ m', m = m' + 1 := ⟨m - 1, by omega⟩
     rw [List.range_succ_eq_map, List.map_cons] at h
     obtain ⟨k1, _, h1, _⟩ := flatL_cons h
     obtain ⟨kd, hu⟩ := flatK_und h1
     exact info_of_underlying hu
    obtain ⟨i, hi⟩ := hinf
    simp only [ht, Sem.run_bind, run_underlying ht, Result.andThen_ok]
    simp only [Std.Legacy.Range.forIn_eq_forIn_range', Std.Legacy.Range.size, Nat.sub_zero, Nat.add_one_sub_one, Nat.div_one]
    rw [← List.range_eq_range']
    have key : ∀ (L : List Nat) (o : Nat) (ks : List SK), consec P a.length o (L.map fun i => (i * P.cellsOf el, el)) = true → flatL (flatK P n) (L.map fun _ => el) = some ks →
      (forIn L PUnit.unit (fun i (_ : PUnit) => do
       Instr.checkKey e (d + n) el (← part el (a.map scalV).toArray (i * (← sizeOf el)))
       pure (ForInStep.yield PUnit.unit)) : Sem PUnit).run P w = .ok PUnit.unit w := by
     intro L
     induction L with
     | nil => intro o ks _ _; simp
     | cons j L ihL =>
      intro o ks hc hk
      simp only [List.map_cons, consec, Bool.and_eq_true, beq_iff_eq] at hc
      obtain ⟨rfl, hc⟩ := hc
      obtain ⟨k1, k2, h1, h2, rfl⟩ := flatL_cons (by simpa using hk)
      have hk1 := flatK_len n _ _ h1
      have hle := consec_le _ _ _ hc
      have p1 := run_part_val w h1 (a.map scalV) (j * P.cellsOf el) (by simp; omega)
      rw [← List.map_drop, ← List.map_take] at p1
      have p2 := ih el k1 h1 ((a.drop (j * P.cellsOf el)).take (P.cellsOf el)) (by simp; omega) e w
      have := ihL _ _ hc h2
      simp only [List.forIn_cons, Sem.run_bind, run_sizeOf w hi, p1, p2, Result.andThen_ok, Sem.run_pure]
      exact this
    have := key (List.range m) 0 ks (by rw [hal, hl]; exact hc.2) h
    rw [this]; rfl
   ·cases h
  ·cases h
theorem eqOk_of {t : TypeId} {ks : List SK} (n : Nat) (hn : n ≤ 10000) (hg : P.eqGuardType P.depth t = false) (hk : flatK P n t = some ks) (ha : tagg P t = some true) : EqOk P t ks := by
 refine ⟨hg, fun a b q h w => ⟨?_, fun e => ?_⟩⟩
 ·have h1 := eqAt_flat (P := P) (10000 - n) n t ks hk a b q h w
  rw [Nat.sub_add_cancel hn] at h1
  unfold valOf at h1
  unfold tagg at ha
  split at ha <;> rename_i hu <;> first | (rw [hu] at h1; exact h1) | (cases ha)
 ·have h1 := ckAt_flat (P := P) (10000 - n) n t ks hk a (eqRow_len _ _ _ _ h).1 e w
  rw [Nat.sub_add_cancel hn] at h1
  unfold valOf at h1
  unfold tagg at ha
  split at ha <;> rename_i hu <;> first | (rw [hu] at h1; exact h1) | (cases ha)
end
end
end Go.Gh
