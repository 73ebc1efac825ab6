/- Texts joined: the evaluator over ghost values, its soundness, the walks. Spaces struck and names made short by a program, for the size. -/
import Derived.Test.YtgmohiojddnfgaaGreatDoorGc6g
namespace Go.Gh
open Go.Proofs
set_option linter.unusedVariables false
set_option linter.unusedSimpArgs false
set_option linter.unnecessarySimpa false
set_option maxRecDepth 100000
set_option maxHeartbeats 8000000
section
variable {c : Nat} {H : Heap}
def mx2 (p q : Int) : Int := if p < q then q else p
def yF (cm : Nat → Nat) (kv : Int) (set : Nat) : Nat → Nat → List Int → List Int
 | 0, _, N => N
 | j + 1, y, N => yF cm kv set j (y + 1) (if set.testBit y = false then N.set (set ||| 2 ^ y) (mx2 (N.getD (set ||| 2 ^ y) 0) (kv + cm y)) else N)
def sF (cm : Nat → Nat) (K : List Int) (B : Nat) : Nat → Nat → List Int → List Int
 | 0, _, N => N
 | j + 1, s, N => sF cm K B j (s + 1) (if K.getD s 0 < 0 then N else yF cm (K.getD s 0) s B 0 N)
def rF (com : Nat → Nat → Nat) (B : Nat) : Nat → Nat → List Int → List Int
 | 0, _, K => K
 | j + 1, x, K => rF com B j (x + 1) (sF (com x) K B (2 ^ B) 0 K)
theorem yF_len {cm : Nat → Nat} {kv : Int} {set : Nat} : ∀ j y N, (yF cm kv set j y N).length = N.length
 | 0, _, _ => rfl
 | j + 1, y, N => by
  simp only [yF]
  rw [yF_len]
  split <;> simp
theorem sF_len {cm : Nat → Nat} {K : List Int} {B : Nat} : ∀ j s N, (sF cm K B j s N).length = N.length
 | 0, _, _ => rfl
 | j + 1, s, N => by
  simp only [sF]
  rw [sF_len]
  split
  ·rfl
  ·exact yF_len _ _ _
theorem rF_len {com : Nat → Nat → Nat} {B : Nat} : ∀ j x K, (rF com B j x K).length = K.length
 | 0, _, _ => rfl
 | j + 1, x, K => by
  simp only [rF]
  rw [rF_len, sF_len]
def Bd (m : Int) (l : List Int) : Prop := ∀ x ∈ l, -1 ≤ x ∧ x ≤ m
theorem Bd.set {m : Int} {l : List Int} (h : Bd m l) (i : Nat) {x : Int} (h1 : -1 ≤ x) (h2 : x ≤ m) : Bd m (l.set i x) := fun y hy => by
 rcases List.mem_or_eq_of_mem_set hy with h' | h'
 ·exact h y h'
 ·subst h'; exact ⟨h1, h2⟩
theorem Bd.getD {m : Int} {l : List Int} (h : Bd m l) {i : Nat} (hi : i < l.length) : -1 ≤ l.getD i 0 ∧ l.getD i 0 ≤ m := by rw [getD_lt hi]; exact h _ (List.getElem_mem hi)
theorem or_lt {s y B : Nat} (hs : s < 2 ^ B) (hy : y < B) : s ||| 2 ^ y < 2 ^ B := Nat.or_lt_two_pow hs (Nat.pow_lt_pow_right (by omega) hy)
theorem bvn (n : Nat) (h : n < 2 ^ 63) : (BitVec.ofInt 64 (n : Int)).toNat = n := by
 rw [BitVec.ofInt_natCast, BitVec.toNat_ofNat, Nat.mod_eq_of_lt (by omega)]
theorem band_nat {a b : Nat} (ha : a < 2 ^ 62) (hb : b < 2 ^ 62) : band .i64 (a : Int) (b : Int) = ((a &&& b : Nat) : Int) := by
 unfold band
 show IntKind.i64.wrap (BitVec.ofInt 64 (a : Int) &&& BitVec.ofInt 64 (b : Int)).toNat = _
 rw [BitVec.toNat_and, bvn a (by omega), bvn b (by omega)]
 have : a &&& b < 2 ^ 62 := Nat.and_lt_two_pow _ hb
 exact w64 (by omega) (by omega)
theorem bor_nat {a b : Nat} (ha : a < 2 ^ 62) (hb : b < 2 ^ 62) : bor .i64 (a : Int) (b : Int) = ((a ||| b : Nat) : Int) := by
 unfold bor
 show IntKind.i64.wrap (BitVec.ofInt 64 (a : Int) ||| BitVec.ofInt 64 (b : Int)).toNat = _
 rw [BitVec.toNat_or, bvn a (by omega), bvn b (by omega)]
 have : a ||| b < 2 ^ 62 := Nat.or_lt_two_pow ha hb
 exact w64 (by omega) (by omega)
theorem shr_nat (s y : Nat) (hy : y ≤ 64) : (s : Int).fdiv (2 ^ (min y 64)) = ((s >>> y : Nat) : Int) := by
 have e : min y 64 = y := by omega
 rw [e, Int.fdiv_eq_ediv_of_nonneg _ (by exact Int.le_of_lt (Int.pow_pos (by decide))), Nat.shiftRight_eq_div_pow]
 simp
theorem bit_eq (s y : Nat) (hs : s < 2 ^ 62) (hy : y ≤ 64) : (band .i64 ((s : Int).fdiv (2 ^ (min y 64))) 1 == 0) = !s.testBit y := by
 rw [shr_nat s y hy]
 have h1 : s >>> y < 2 ^ 62 := Nat.lt_of_le_of_lt (Nat.shiftRight_le s y) hs
 have := band_nat (a := s >>> y) (b := 1) h1 (by decide)
 have e1 : ((1 : Nat) : Int) = 1 := rfl
 rw [e1] at this
 have hv : s >>> y &&& 1 = s >>> y % 2 := Nat.and_one_is_mod _
 have ht : s.testBit y = (s >>> y % 2 != 0) := by
  rw [Nat.testBit, Nat.and_comm, hv]
 rw [this, hv, ht]
 rcases Nat.mod_two_eq_zero_or_one (s >>> y) with h | h <;> rw [h] <;> rfl
theorem shl_eq (y : Nat) (hy : y ≤ 9) : IntKind.i64.wrap (1 * 2 ^ (min y 64)) = ((2 ^ y : Nat) : Int) := by
 have e : min y 64 = y := by omega
 have h : 2 ^ y ≤ 2 ^ 9 := Nat.pow_le_pow_right (by decide) hy
 have e2 : (1 * 2 ^ y : Int) = ((2 ^ y : Nat) : Int) := by simp
 rw [e, e2]
 have h9 : 2 ^ 9 = 512 := rfl
 generalize 2 ^ y = p at h
 exact w64 (by omega) (by omega)
def cellsT (tab : List Nat) : List GV := tab.map fun (n : Nat) => .pure (.int .i64 (n : Int))
@[simp] theorem cellsT_len {tab : List Nat} : (cellsT tab).length = tab.length := by simp [cellsT]
theorem cellsT_get {tab : List Nat} {i : Nat} (h : i < tab.length) : (cellsT tab)[i]? = some (.pure (.int .i64 (tab[i] : Nat))) := by simp [cellsT, h]
theorem cellsT_set {tab : List Nat} {i : Nat} {n : Nat} (h : i < tab.length) : splice (cellsT tab) i [.pure (.int .i64 (n : Nat))] = cellsT (tab.set i n) := by
 unfold splice cellsT
 rw [List.map_set, List.set_eq_take_append_cons_drop, if_pos (by simpa using h)]
 simp
theorem gcall_frz' {K : Ctx} {rec : Rec} {f : FuncId} {args : List GV} {c : Nat} {H : Heap} (hz : K.cln f = false) (hb : K.bor f = false) (hf : K.frz f = true) : gcall K rec f args c H = gcall0 K rec f (frzVals H args).1 c (frzVals H args).2 := by
 unfold gcall gcallN
 rw [hz, hb, hf]
 simp
theorem gcall_frzC {K : Ctx} {rec : Rec} {f : FuncId} {args : List GV} {c : Nat} {H : Heap} (he : K.ext f = none) (hz : (K.cln f && emptyArg args) = false) (hb : K.bor f = false) (hf : K.frz f = true) : gcall K rec f args c H = gcall0 K rec f (frzVals H args).1 c (frzVals H args).2 := by
 unfold gcall gcallN
 rw [he, hz, hb, hf]
 simp
@[simp] theorem nil22 {a : List (List PV)} {b : List PV} : gnilEq KC .eql 26 (.pure (.slice (b :: a))) = some (.bool false) := by simp [gnilEq, nonNil]
theorem clone_ok0 (l : List Int) (h0 : l ≠ []) (hn : l.length ≤ 1000000) (hH : 0 < H.length) (hf : H.get (H.length - 1, newKey c 7) = none) (hcc : newKey c 7 < tyBase := by exact of_decide_eq_true (by kernel_rfl)) :
  gcall0 KC (geval KC) 106 [.pure (.slice (l.map irow))] c H = some (.hdr (H.length - 1, newKey c 7) 1 l.length 0 l.length, H.set (H.length - 1, newKey c 7) (.arr 1 (l.map irow) 0 false)) := by
 obtain ⟨x, l', rfl⟩ := List.exists_cons_of_ne_nil h0
 have hb : (l'.length + 1) * 8 ≤ 1099511627776 := by simp at hn; omega
 have hall : ∀ x : Int, (irow x).length = 1 := fun x => rfl
 have hnl : ¬ H.length + 1 ≤ H.length := by omega
 refine WPv_eq (call_enter0 KC needT Tryz.func106 rfl rfl good106 (by simp) hH ?_)
 simp [hb, hall, hnl, gleave_keep, refs, refs2, refs1, deepRefs, boxRefs, matRefs, dedup, moveOut, cleanBlk, hf, tyOk_lt hcc, ren, ren2, ren1]
end
inductive KeptAt (L : Nat) (Fm : Fr) (K : List Int) : GV → Prop
 | pure : KeptAt L Fm K (.pure (.slice (K.map irow)))
 | hdr (v : Nat) (ro : Bool) (hv : v ≤ K.length) (h : Fm.get 46 = some (.arr 1 (K.map irow) v ro)) : KeptAt L Fm K (.hdr (L, 46) 1 K.length 0 K.length)
theorem KeptAt.clean {L : Nat} {Fm : Fr} {K : List Int} {g : GV} (h : KeptAt L Fm K g) {H : Heap} {l0 : Nat} (hl : L ≤ l0) : clean H l0 g = g := by
 cases h with
 | pure => rfl
 | hdr v ro hv h => simp [hl]
def nxF (N : List Int) (v : Nat) : Fr := [(28737, .arr 1 (N.map irow) v false)]
theorem y_loop {H : Heap} {Fm : Fr} {a b : List Int} {A x B set : Nat} {K : List Int} {g9 : GV} {kv : Int} {cm : Nat → Nat} {tab : List Nat} (hg : KeptAt H.length Fm K g9) (hF : Fm.get 7 = some (.box (cellsT tab))) (htl : tab.length = 81) (hx : x ≤ 8) (hB : B ≤ 9) (hs : set < 2 ^ B)
  (htab : ∀ y (hy : y < 9), tab.getD (x * 9 + y) 0 = cm y) (hcm : ∀ y, cm y ≤ 9) (hk0 : 0 ≤ kv) (hk : kv ≤ 100) {M : Int} (hM : M ≤ 1000) (hMk : kv + 9 ≤ M) (Q : GX → GSt → Prop) :
  ∀ (j y : Nat) (N : List Int) (v : Nat), y + j = B → N.length = 2 ^ B → v ≤ 2 ^ B → Bd M N → (∀ v', v' ≤ 2 ^ B → Q (.exit 8) ⟨[(0, .pure (.slice (a.map irow))), (1, .pure (.slice (b.map irow))), (7, .bptr (H.length, 7) 0), (11, .pure (.int .i64 (x : Nat))), (12, .hdr (H.length + 1, 28737) 1 (2 ^ B) 0 (2 ^ B)), (59, .pure (.int .i64 (A : Nat))), (60, .pure (.int .i64 (x : Nat))), (65, g9), (66, .pure (.int .i64 ((2 ^ B : Nat) : Int))), (67, .pure (.int .i64 (set : Nat)))], [] :: nxF (yF cm kv set j y N) v' :: Fm :: H, 112⟩) →
  WPL KC needT 133 (lp Tryz.f133 4) [0, 1, 7, 11, 12, 13, 14, 59, 60, 65, 66, 67, 75, 76] [0, 1, 7, 11, 12, 59, 60, 65, 66, 67] Q
   [(0, .pure (.slice (a.map irow))), (1, .pure (.slice (b.map irow))), (7, .bptr (H.length, 7) 0), (11, .pure (.int .i64 (x : Nat))), (12, .hdr (H.length + 1, 28737) 1 (2 ^ B) 0 (2 ^ B)), (13, .pure (.int .i64 (set : Nat))), (14, .pure (.int .i64 kv)), (59, .pure (.int .i64 (A : Nat))), (60, .pure (.int .i64 (x : Nat))), (65, g9), (66, .pure (.int .i64 ((2 ^ B : Nat) : Int))), (67, .pure (.int .i64 (set : Nat))), (75, .pure (.int .i64 (B : Nat))), (76, .pure (.int .i64 (y : Nat)))] ([] :: nxF N v :: Fm :: H) 112 := by
 have g1 := fun H' => hg.clean (H := H') (l0 := H.length + 1) (by omega)
 have g2 := fun H' => hg.clean (H := H') (l0 := H.length + 1 + 1) (by omega)
 have g0 := fun H' => hg.clean (H := H') (l0 := H.length) (by omega)
 have hp9 : (2 : Nat) ^ B ≤ 512 := Nat.pow_le_pow_right (n := 2) (by decide) hB
 obtain ⟨n, hn⟩ : ∃ n : Nat, 2 ^ B = n := ⟨_, rfl⟩
 intro j
 induction j with
 | zero =>
  intro y N v hy hNl hv hb h1
  apply WPL_step
  conv => arg 4; whnf
  have : ¬ y < B := by omega
  have h1' := h1 v hv
  simp only [hn] at h1' ⊢
  simp [this, g1, g2, g0, nxF]
  simpa [yF, nxF] using h1'
 | succ j ih =>
  intro y N v hy hNl hv hb h1
  have hyB : y < B := by omega
  have hw := w64 (x := (y : Int) + 1) (by omega) (by omega)
  have be := bit_eq set y (by omega) (by omega)
  have hneg : ¬ (y : Int) < 0 := by omega
  simp only [yF] at h1
  apply WPL_step
  conv => arg 4; whnf
  cases hbit : set.testBit y with
  | true =>
   rw [hbit] at h1 be
   rw [if_neg (by simp)] at h1
   have ih' := ih (y + 1) N v (by omega) hNl hv hb h1
   simp only [hn] at ih' ⊢
   simp only [Bool.not_true] at be
   simp [hyB, hneg, be, hw, g1, g2, g0, nxF]
   simpa [nxF] using ih'
  | false =>
   rw [hbit] at h1 be
   rw [if_pos rfl] at h1
   simp only [Bool.not_false] at be
   have se := shl_eq y (by omega)
   rw [Int.one_mul] at se
   have hpl := or_lt hs hyB
   have hy9 : (2 : Nat) ^ y ≤ 512 := Nat.pow_le_pow_right (n := 2) (by decide) (show y ≤ 9 by omega)
   have bo := bor_nat (a := set) (b := 2 ^ y) (by omega) (by omega)
   obtain ⟨q, hq⟩ : ∃ q : Nat, 2 ^ y = q := ⟨_, rfl⟩
   rw [hq] at se bo h1 hpl
   obtain ⟨p, hp⟩ : ∃ p : Nat, set ||| q = p := ⟨_, rfl⟩
   rw [hp] at bo h1 hpl
   have hpN : p < N.length := by omega
   have hbp := hb.getD hpN
   have hcy := hcm y
   have hNp : N.getD p 0 = N[p] := getD_lt hpN
   rw [hNp] at h1 hbp
   have hw2 := w64 (x := kv + (cm y : Nat)) (by omega) (by omega)
   have hx9 : ¬ (9 : Int) ≤ x := by omega
   have hy9' : ¬ (9 : Int) ≤ y := by omega
   have hxn : ¬ (x : Int) < 0 := by omega
   have hpn : ¬ (p : Int) < 0 := by omega
   have ho : x * 9 + y < tab.length := by omega
   have ht := cellsT_get ho
   have ht2 : tab[x * 9 + y] = cm y := by rw [← htab y (by omega), getD_lt ho]
   rw [ht2] at ht
   have hmx : (if N[p] < kv + (cm y : Nat) then kv + (cm y : Nat) else N[p]) = mx2 N[p] (kv + cm y) := rfl
   have hmb : -1 ≤ mx2 N[p] (kv + cm y) ∧ mx2 N[p] (kv + cm y) ≤ M := by unfold mx2; split <;> omega
   have ih' := ih (y + 1) (N.set p (mx2 N[p] (kv + cm y))) (2 ^ B) (by omega) (by rw [List.length_set]; exact hNl) (Nat.le_refl _) (hb.set p hmb.1 hmb.2) h1
   simp only [hn] at ih' hNl hpl hv ⊢
   have hpn' : p < n := by omega
   have hnN : n ≤ N.length := by omega
   simp [hyB, hneg, be, se, bo, hw, hw2, g1, g2, g0, nxF, hpN, hpn, hpn', hv, hnN, hNl, hx9, hy9', hxn, hF, htl, ho, ht, irow, splice]
   simpa [nxF, irow, mx2] using ih'
theorem yF_bd {cm : Nat → Nat} {kv : Int} {set B : Nat} {M : Int} (hs : set < 2 ^ B) (hk : -1 ≤ kv) (hcm : ∀ y, kv + cm y ≤ M) : ∀ j y N, y + j ≤ B → N.length = 2 ^ B → Bd M N → Bd M (yF cm kv set j y N)
 | 0, _, _, _, _, h => h
 | j + 1, y, N, hy, hl, h => by
  simp only [yF]
  have hp := or_lt hs (show y < B by omega)
  have hg := h.getD (i := set ||| 2 ^ y) (by omega)
  have hc := hcm y
  refine yF_bd hs hk hcm j (y + 1) _ (by omega) ?_ ?_
  ·split
   ·rw [List.length_set]; exact hl
   ·exact hl
  ·split
   ·refine h.set _ ?_ ?_
    ·unfold mx2; split <;> omega
    ·unfold mx2; split <;> omega
   ·exact h
theorem s_loop {H : Heap} {Fm : Fr} {a b : List Int} {A x B : Nat} {K : List Int} {g9 : GV} {cm : Nat → Nat} {tab : List Nat} (hg : KeptAt H.length Fm K g9) (hF : Fm.get 7 = some (.box (cellsT tab))) (htl : tab.length = 81) (hx : x ≤ 8) (hB : B ≤ 9) (eB : blkF b = B) (hb0 : b ≠ []) (hbn : b.length ≤ 1000000) (hbr : ∀ x ∈ b, 0 ≤ x ∧ x ≤ 1000000)
  (htab : ∀ y (hy : y < 9), tab.getD (x * 9 + y) 0 = cm y) (hcm : ∀ y, cm y ≤ 9) {M : Int} (hM : M ≤ 90) (hK : Bd M K) (hKl : K.length = 2 ^ B) (Q : GX → GSt → Prop) :
  ∀ (j s : Nat) (N : List Int) (v : Nat), s + j = 2 ^ B → N.length = 2 ^ B → v ≤ 2 ^ B → Bd (M + 9) N → (∀ v', v' ≤ 2 ^ B → Q (.exit 6) ⟨[(0, .pure (.slice (a.map irow))), (1, .pure (.slice (b.map irow))), (7, .bptr (H.length, 7) 0), (12, .hdr (H.length + 1, 28737) 1 (2 ^ B) 0 (2 ^ B)), (59, .pure (.int .i64 (A : Nat))), (60, .pure (.int .i64 (x : Nat)))], nxF (sF cm K B j s N) v' :: Fm :: H, 112⟩) →
  WPL KC needT 133 (lp Tryz.f133 3) [0, 1, 7, 11, 12, 59, 60, 65, 66, 67] [0, 1, 7, 12, 59, 60] Q
   [(0, .pure (.slice (a.map irow))), (1, .pure (.slice (b.map irow))), (7, .bptr (H.length, 7) 0), (11, .pure (.int .i64 (x : Nat))), (12, .hdr (H.length + 1, 28737) 1 (2 ^ B) 0 (2 ^ B)), (59, .pure (.int .i64 (A : Nat))), (60, .pure (.int .i64 (x : Nat))), (65, g9), (66, .pure (.int .i64 ((2 ^ B : Nat) : Int))), (67, .pure (.int .i64 (s : Nat)))] (nxF N v :: Fm :: H) 112 := by
 have g1 := fun H' => hg.clean (H := H') (l0 := H.length + 1) (by omega)
 have g2 := fun H' => hg.clean (H := H') (l0 := H.length + 1 + 1) (by omega)
 have g0 := fun H' => hg.clean (H := H') (l0 := H.length) (by omega)
 have hp9 : (2 : Nat) ^ B ≤ 512 := Nat.pow_le_pow_right (n := 2) (by decide) hB
 obtain ⟨n, hn⟩ : ∃ n : Nat, 2 ^ B = n := ⟨_, rfl⟩
 have Bl := fun c (H : Heap) (hH : 0 < H.length) => blocks_ok (c := c) (H := H) b hb0 hbn hbr hH
 rw [eB] at Bl
 intro j
 induction j with
 | zero =>
  intro s N v hs hNl hv hb h1
  apply WPL_step
  conv => arg 4; whnf
  have h1' := h1 v hv
  rw [hn] at hs
  have : ¬ s < n := by omega
  simp only [hn] at h1' ⊢
  simp [this, g1, g2, g0, nxF]
  simpa [sF, nxF] using h1'
 | succ j ih =>
  intro s N v hs hNl hv hb h1
  have hsn : s < 2 ^ B := by omega
  have hsK : s < K.length := by omega
  have hw := w64 (x := (s : Int) + 1) (by omega) (by omega)
  have eK : K.getD s 0 = K[s] := getD_lt hsK
  have bK := hK _ (List.getElem_mem hsK)
  simp only [sF] at h1
  rw [eK] at h1
  by_cases hneg : K[s] < 0
  ·rw [if_pos hneg] at h1
   have ih' := ih (s + 1) N v (by omega) hNl hv hb h1
   have hsn' : s < n := by omega
   simp only [hn] at ih' hNl hKl ⊢
   cases hg with
   | pure =>
    apply WPL_step
    conv => arg 4; whnf
    simp [hsn', hsK, irow, hneg, hw, nxF]
    simpa [nxF, irow] using ih'
   | hdr v0 ro hv0 hF46 =>
    have hKn : n ≤ K.length := by omega
    apply WPL_step
    conv => arg 4; whnf
    simp [hsn', hsK, irow, hneg, hw, nxF, hF46, hv0]
    simpa [nxF, irow] using ih'
  ·rw [if_neg hneg] at h1
   have hbd := yF_bd (cm := cm) (kv := K[s]) (M := M + 9) hsn (by omega) (fun y => by have := hcm y; omega) B 0 N (by omega) hNl hb
   have ih' := fun v' (hv' : v' ≤ 2 ^ B) => ih (s + 1) (yF cm K[s] s B 0 N) v' (by omega) (by rw [yF_len]; exact hNl) hv' hbd h1
   have L := fun Q => y_loop (a := a) (b := b) (A := A) (kv := K[s]) hg hF htl hx hB hsn htab hcm (by omega) (by omega) (M := M + 9) (by omega) (by omega) Q B 0 N v (by omega) hNl hv hb
   have hsn' : s < n := by omega
   simp only [hn] at ih' L hNl hKl ⊢
   simp [nxF] at L
   cases hg with
   | pure =>
    apply WPL_step
    conv => arg 4; whnf
    simp [hsn', hsK, irow, hneg, hw, Bl, nxF]
    refine L _ (fun v' hv' => ?_)
    simp [hw]
    simpa [nxF, irow] using ih' v' hv'
   | hdr v0 ro hv0 hF46 =>
    have hKn : n ≤ K.length := by omega
    apply WPL_step
    conv => arg 4; whnf
    simp [hsn', hsK, irow, hneg, hw, nxF, hF46, hv0, Bl]
    refine L _ (fun v' hv' => ?_)
    simp [hw]
    simpa [nxF, irow] using ih' v' hv'
theorem sF_bd {cm : Nat → Nat} {K : List Int} {B : Nat} {M : Int} (hM : 0 ≤ M) (hcm : ∀ y, cm y ≤ 9) (hK : Bd M K) (hKl : K.length = 2 ^ B) : ∀ j s N, s + j ≤ 2 ^ B → N.length = 2 ^ B → Bd (M + 9) N → Bd (M + 9) (sF cm K B j s N)
 | 0, _, _, _, _, h => h
 | j + 1, s, N, hs, hl, h => by
  simp only [sF]
  have eK : K.getD s 0 = K[s]'(by omega) := getD_lt (by omega)
  have bK := hK _ (List.getElem_mem (show s < K.length by omega))
  rw [eK]
  refine sF_bd hM hcm hK hKl j (s + 1) _ (by omega) ?_ ?_
  ·split
   ·exact hl
   ·rw [yF_len]; exact hl
  ·split
   ·exact h
   ·exact yF_bd (by omega) (by omega) (fun y => by have := hcm y; omega) B 0 N (by omega) hl h
theorem Bd.mono {m m' : Int} {l : List Int} (h : Bd m l) (hm : m ≤ m') : Bd m' l := fun x hx => ⟨(h x hx).1, by have := (h x hx).2; omega⟩
theorem clone_at {H : Heap} {Fm : Fr} {K : List Int} {g9 : GV} (hg : KeptAt H.length Fm K g9) (h0 : K ≠ []) (hn : K.length ≤ 1000000) : ∃ Fm', KeptAt H.length Fm' K g9 ∧ (∀ k, k ≠ 46 → Fm'.get k = Fm.get k) ∧
  gcall KC (geval KC) 106 [g9] 64 ([] :: Fm :: H) = some (.hdr (H.length + 1, 28737) 1 K.length 0 K.length, nxF K 0 :: Fm' :: H) := by
 have k7 : newKey 64 7 = 28737 := by decide
 cases hg with
 | pure =>
  refine ⟨Fm, .pure, fun _ _ => rfl, ?_⟩
  obtain ⟨x, l', rfl⟩ := List.exists_cons_of_ne_nil h0
  rw [gcall_frzC rfl rfl rfl rfl]
  have := clone_ok0 (c := 64) (H := [] :: Fm :: H) (x :: l') h0 hn (by simp) (by simp)
  rw [k7] at this
  simpa [nxF, frzVals, frzVal, frzCell] using this
 | hdr v ro hv hF =>
  refine ⟨Fm.ins 46 (.arr 1 (K.map irow) v true), .hdr v true hv (Fr.get_ins ..), fun k hk => Fr.get_ins_other _ hk _, ?_⟩
  rw [gcall_frzC rfl rfl rfl rfl]
  have hr : List.take K.length (K.map irow) = K.map irow := List.take_of_length_le (by simp)
  have e : frzVals ([] :: Fm :: H) [.hdr (H.length, 46) 1 K.length 0 K.length] = ([.pure (.slice (K.map irow))], [] :: Fm.ins 46 (.arr 1 (K.map irow) v true) :: H) := by
   simp [frzVals, frzVal, frzCell, hF, hv, hr]
  rw [e]
  have := clone_ok0 (c := 64) (H := [] :: Fm.ins 46 (.arr 1 (K.map irow) v true) :: H) K h0 hn (by simp) (by simp)
  rw [k7] at this
  simpa [nxF] using this
theorem r_loop {H : Heap} {a b : List Int} {A B : Nat} {com : Nat → Nat → Nat} {tab : List Nat} (htl : tab.length = 81) (hA : A ≤ 9) (hB : B ≤ 9) (eB : blkF b = B) (hb0 : b ≠ []) (hbn : b.length ≤ 1000000) (hbr : ∀ x ∈ b, 0 ≤ x ∧ x ≤ 1000000)
  (htab : ∀ x y, x < 9 → y < 9 → tab.getD (x * 9 + y) 0 = com x y) (hcm : ∀ x y, com x y ≤ 9) (Q : GX → GSt → Prop) :
  ∀ (j x : Nat) (Fm : Fr) (g9 : GV) (K : List Int), x + j = A → K.length = 2 ^ B → Bd (9 * x) K → KeptAt H.length Fm K g9 → Fm.get 7 = some (.box (cellsT tab)) →
   (∀ Fm' g', (g' = .pure (.slice ((rF com B j x K).map irow)) ∨ (j = 0 ∧ g' = g9)) → Q (.exit 4) ⟨[(0, .pure (.slice (a.map irow))), (9, g')], Fm' :: H, 112⟩) →
  WPL KC needT 133 (lp Tryz.f133 2) [0, 1, 7, 9, 59, 60] [0, 9] Q
   [(0, .pure (.slice (a.map irow))), (1, .pure (.slice (b.map irow))), (7, .bptr (H.length, 7) 0), (9, g9), (59, .pure (.int .i64 (A : Nat))), (60, .pure (.int .i64 (x : Nat)))] (Fm :: H) 112 := by
 have hp9 : (2 : Nat) ^ B ≤ 512 := Nat.pow_le_pow_right (n := 2) (by decide) hB
 have hp0 : 0 < (2 : Nat) ^ B := Nat.pow_pos (by decide)
 intro j
 induction j with
 | zero =>
  intro x Fm g9 K hx hKl hK hg hF h1
  have g0 := fun H' => hg.clean (H := H') (l0 := H.length) (by omega)
  have : ¬ x < A := by omega
  apply WPL_step
  conv => arg 4; whnf
  simp [this, g0]
  exact h1 Fm g9 (.inr ⟨rfl, rfl⟩)
 | succ j ih =>
  intro x Fm g9 K hx hKl hK hg hF h1
  have hxA : x < A := by omega
  have hw := w64 (x := (x : Int) + 1) (by omega) (by omega)
  have hK0 : K ≠ [] := fun e => by rw [e] at hKl; simp at hKl; omega
  obtain ⟨Fm', hg', hFo, eC⟩ := clone_at hg hK0 (by omega)
  have hF' : Fm'.get 7 = some (.box (cellsT tab)) := (hFo 7 (by decide)).trans hF
  have L := fun Q => s_loop (a := a) (A := A) (x := x) (cm := com x) hg' hF' htl (by omega) hB eB hb0 hbn hbr (fun y hy => htab x y (by omega) hy) (hcm x) (M := 9 * x) (by omega) hK hKl Q (2 ^ B) 0 K 0 (by omega) hKl (Nat.zero_le _) (hK.mono (by omega))
  have hbd := sF_bd (cm := com x) (M := 9 * x) (by omega) (hcm x) hK hKl (2 ^ B) 0 K (by omega) hKl (hK.mono (by omega))
  simp only [rF] at h1
  obtain ⟨K', hK'⟩ : ∃ K', sF (com x) K B (2 ^ B) 0 K = K' := ⟨_, rfl⟩
  have hKl' : K'.length = 2 ^ B := by rw [← hK', sF_len]; exact hKl
  rw [hK'] at hbd h1 L
  have ih' := ih (x + 1) Fm' (.pure (.slice (K'.map irow))) K' (by omega) hKl' (by
   have e : (9 * ((x + 1 : Nat) : Int)) = 9 * x + 9 := by omega
   rw [e]; exact hbd) .pure hF' (fun Fm'' g'' hg'' => h1 Fm'' g'' (.inl (by
    rcases hg'' with e | ⟨e0, e⟩
    ·exact e
    ·rw [e, e0]; rfl)))
  rw [hKl] at eC
  obtain ⟨n, hn⟩ : ∃ n : Nat, 2 ^ B = n := ⟨_, rfl⟩
  simp only [hn] at hKl hKl' eC L
  have hr : List.take n (K'.map irow) = K'.map irow := List.take_of_length_le (by simp [hKl'])
  have hlen : ∀ (H' : Heap), lenD (some (.slice 3)) H' g9 = some (n : Int) := fun H' => by
   cases hg with
   | pure => simp [hKl]
   | hdr => simp [hKl]
  simp at L
  apply WPL_step
  conv => arg 4; whnf
  simp [hxA, eC, hlen]
  refine L _ (fun v' hv' => ?_)
  have hkn : n ≤ K'.length := by omega
  have hnl : ¬ H.length + 1 ≤ H.length := by omega
  simp [hw, nxF, hv', hkn, hr, hnl]
  simpa using ih'
def comTab (a b : List Int) : List Nat := (List.range 81).map fun j => comL ((j / 9 : Nat) : Int) ((j % 9 : Nat) : Int) a b
theorem comTab_len {a b : List Int} : (comTab a b).length = 81 := by simp [comTab]
theorem comTab_get {a b : List Int} {x y : Nat} (hx : x < 9) (hy : y < 9) : (comTab a b).getD (x * 9 + y) 0 = comL x y a b := by
 have h : x * 9 + y < 81 := by omega
 have e1 : (x * 9 + y) / 9 = x := by omega
 have e2 : (x * 9 + y) % 9 = y := by omega
 rw [getD_lt (by rw [comTab_len]; exact h)]
 simp only [comTab, List.getElem_map, List.getElem_range, e1, e2]
theorem comL_snoc (x y p q : Int) : ∀ a b : List Int, a.length = b.length → comL x y (a ++ [p]) (b ++ [q]) = comL x y a b + if p = x ∧ q = y then 1 else 0
 | [], [], _ => by simp [comL]
 | [], _ :: _, h => by simp at h
 | _ :: _, [], h => by simp at h
 | u :: a, v :: b, h => by
  have := comL_snoc x y p q a b (by simpa using h)
  simp only [List.cons_append, comL, this]
  omega
theorem comTab_snoc {a b : List Int} {p q : Nat} (h : a.length = b.length) (hp : p < 9) (hq : q < 9) : comTab (a ++ [(p : Int)]) (b ++ [(q : Int)]) = (comTab a b).set (p * 9 + q) (comL p q a b + 1) := by
 refine List.ext_getElem (by simp [comTab]) fun j h1 h2 => ?_
 have hj : j < 81 := by simpa [comTab] using h1
 rw [List.getElem_set]
 by_cases e : p * 9 + q = j
 ·subst e
  have e1 : (p * 9 + q) / 9 = p := by omega
  have e2 : (p * 9 + q) % 9 = q := by omega
  rw [if_pos rfl]
  simp only [comTab, List.getElem_map, List.getElem_range, e1, e2]
  rw [comL_snoc _ _ _ _ _ _ h, if_pos ⟨rfl, rfl⟩]
 ·rw [if_neg e]
  simp only [comTab, List.getElem_map, List.getElem_range]
  rw [comL_snoc _ _ _ _ _ _ h, if_neg (by rintro ⟨h3, h4⟩; omega)]
  rfl
theorem com_loop {H : Heap} {a b : List Int} (hl : a.length = b.length) (hn : a.length ≤ 9) (ha : ∀ x ∈ a, 0 ≤ x ∧ x ≤ 8) (hb : ∀ x ∈ b, 0 ≤ x ∧ x ≤ 8) (Q : GX → GSt → Prop)
  (h1 : Q (.exit 0) ⟨[(0, .pure (.slice (a.map irow))), (1, .pure (.slice (b.map irow))), (7, .bptr (H.length, 7) 0)], [(7, .box (cellsT (comTab a b)))] :: H, 112⟩) : ∀ k i : Nat, i + k = a.length →
  WPL KC needT 133 (lp Tryz.f133 0) [0, 1, 7, 24, 25] [0, 1, 7] Q [(0, .pure (.slice (a.map irow))), (1, .pure (.slice (b.map irow))), (7, .bptr (H.length, 7) 0), (24, .pure (.int .i64 a.length)), (25, .pure (.int .i64 (i : Nat)))] ([(7, .box (cellsT (comTab (a.take i) (b.take i))))] :: H) 112 := by
 intro k
 induction k with
 | zero =>
  intro i hi
  have e1 : a.take i = a := List.take_of_length_le (by omega)
  have e2 : b.take i = b := List.take_of_length_le (by omega)
  rw [e1, e2]
  apply WPL_step
  conv => arg 4; whnf
  have : ¬ i < a.length := by omega
  simp [this]
  exact h1
 | succ k ih =>
  intro i hi
  have hia : i < a.length := by omega
  have hib : i < b.length := by omega
  have hw := w64 (x := (i : Int) + 1) (by omega) (by omega)
  have ra := ha _ (List.getElem_mem hia)
  have rb := hb _ (List.getElem_mem hib)
  obtain ⟨p, hp⟩ := Int.eq_ofNat_of_zero_le ra.1
  obtain ⟨q, hq⟩ := Int.eq_ofNat_of_zero_le rb.1
  have hp9 : p < 9 := by omega
  have hq9 : q < 9 := by omega
  have ih' := ih (i + 1) (by omega)
  have et : comTab (a.take (i + 1)) (b.take (i + 1)) = (comTab (a.take i) (b.take i)).set (p * 9 + q) (comL p q (a.take i) (b.take i) + 1) := by
   rw [List.take_succ_eq_append_getElem hia, List.take_succ_eq_append_getElem hib, hp, hq]
   exact comTab_snoc (by simp; omega) hp9 hq9
  rw [et] at ih'
  have ho : p * 9 + q < (comTab (a.take i) (b.take i)).length := by rw [comTab_len]; omega
  have ht := cellsT_get ho
  have ht2 : (comTab (a.take i) (b.take i))[p * 9 + q] = comL p q (a.take i) (b.take i) := by rw [← comTab_get hp9 hq9, getD_lt ho]
  rw [ht2] at ht
  have cle := comL_le (p : Int) (q : Int) (a.take i) (b.take i)
  have cle2 : (a.take i).length ≤ 9 := by simp; omega
  have hw2 := w64 (x := (comL p q (a.take i) (b.take i) : Nat) + (1 : Int)) (by omega) (by omega)
  have hs := cellsT_set (n := comL p q (a.take i) (b.take i) + 1) ho
  have hpn : ¬ (9 : Int) ≤ p := by omega
  have hqn : ¬ (9 : Int) ≤ q := by omega
  have tl := comTab_len (a := a.take i) (b := b.take i)
  simp at hs
  apply WPL_step
  conv => arg 4; whnf
  have ho80 : p * 9 + q ≤ 80 := by omega
  simp [hia, hib, irow, hp, hq, hpn, hqn, tl, ho, ho80, ht, hw, hw2, hs]
  simpa [irow] using ih'
def K0 (n : Nat) : List Int := 0 :: List.replicate (n - 1) (-1)
theorem fill_loop {H : Heap} {a b : List Int} {x : Blk} {n : Nat} (hn : n ≤ 512) (Q : GX → GSt → Prop)
  (h1 : ∀ v, v ≤ n → Q (.exit 2) ⟨[(0, .pure (.slice (a.map irow))), (1, .pure (.slice (b.map irow))), (7, .bptr (H.length, 7) 0), (9, .hdr (H.length, 46) 1 n 0 n)], [(7, x), (46, .arr 1 ((List.replicate n (-1)).map irow) v false)] :: H, 112⟩) : ∀ (k i v : Nat), i + k = n → v ≤ n →
  WPL KC needT 133 (lp Tryz.f133 1) [0, 1, 7, 9, 48, 49] [0, 1, 7, 9] Q [(0, .pure (.slice (a.map irow))), (1, .pure (.slice (b.map irow))), (7, .bptr (H.length, 7) 0), (9, .hdr (H.length, 46) 1 n 0 n), (48, .pure (.int .i64 (n : Nat))), (49, .pure (.int .i64 (i : Nat)))] ([(7, x), (46, .arr 1 ((List.replicate i (-1) ++ List.replicate (n - i) 0).map irow) v false)] :: H) 112 := by
 intro k
 induction k with
 | zero =>
  intro i v hi hv
  have e : i = n := by omega
  subst e
  apply WPL_step
  conv => arg 4; whnf
  simp
  simpa using h1 v hv
 | succ k ih =>
  intro i v hi hv
  have hin : i < n := by omega
  have hw := w64 (x := (i : Int) + 1) (by omega) (by omega)
  have ih' := ih (i + 1) n (by omega) (Nat.le_refl _)
  obtain ⟨rows, hr⟩ : ∃ rows, (List.replicate i (-1 : Int) ++ List.replicate (n - i) 0).map irow = rows := ⟨_, rfl⟩
  have hrl : rows.length = n := by rw [← hr]; simp; omega
  have hset : rows.set i [.int .i64 (-1)] = (List.replicate (i + 1) (-1 : Int) ++ List.replicate (n - (i + 1)) 0).map irow := by
   rw [← hr, show ([PV.int .i64 (-1)] : List PV) = irow (-1) from rfl, ← List.map_set]
   congr 1
   obtain ⟨m, hm⟩ : ∃ m, n - i = m + 1 := ⟨n - i - 1, by omega⟩
   have e3 : List.replicate (i + 1) (-1 : Int) = List.replicate i (-1) ++ [-1] := List.replicate_succ'
   rw [hm, show n - (i + 1) = m by omega, List.set_append_right _ _ (by simp), e3, List.append_assoc]
   simp [List.replicate_succ]
  have hget : rows[i]? = some (irow 0) := by
   rw [← hr, List.getElem?_map]
   simp [show ¬ n - i = 0 by omega, List.getElem?_append, List.getElem?_replicate]
  have hgi : ∀ h : i < rows.length, rows[i]'h = irow 0 := fun h => by
   rw [List.getElem?_eq_getElem h] at hget
   exact Option.some.inj hget
  rw [hr]
  rw [← hset] at ih'
  apply WPL_step
  conv => arg 4; whnf
  simp [hin, hw, hget, hgi, hrl, irow, splice]
  simpa using ih'
section
section
variable {com : Nat → Nat} {rec : List Bool → Nat} {T : List Bool}
theorem stepY_best : ∀ j y best, best ≤ stepY com rec T j y best
 | 0, _, _ => Nat.le_refl _
 | j + 1, y, best => by
  simp only [stepY]
  refine Nat.le_trans ?_ (stepY_best j (y + 1) _)
  split <;> omega
theorem stepY_ge : ∀ j y best y', y ≤ y' → y' < y + j → T.getD y' false = false → 0 < com y' → com y' + rec (T.set y' true) ≤ stepY com rec T j y best
 | 0, y, _, y', h1, h2, _, _ => by omega
 | j + 1, y, best, y', h1, h2, h3, h4 => by
  simp only [stepY]
  by_cases e : y' = y
  ·subst e
   rw [if_pos ⟨h4, h3⟩]
   exact Nat.le_trans (Nat.le_max_right _ _) (stepY_best j (y' + 1) _)
  ·exact stepY_ge j (y + 1) _ y' (by omega) (by omega) h3 h4
theorem stepY_at : ∀ j y best, stepY com rec T j y best = best ∨ ∃ y', y ≤ y' ∧ y' < y + j ∧ T.getD y' false = false ∧ stepY com rec T j y best = com y' + rec (T.set y' true)
 | 0, _, _ => .inl rfl
 | j + 1, y, best => by
  simp only [stepY]
  by_cases h : 0 < com y ∧ T.getD y false = false
  ·rw [if_pos h]
   rcases stepY_at j (y + 1) (max best (com y + rec (T.set y true))) with e | ⟨y', a, b, d, e⟩
   ·rcases Nat.le_total best (com y + rec (T.set y true)) with hm | hm
    ·exact .inr ⟨y, by omega, by omega, h.2, by rw [e, Nat.max_eq_right hm]⟩
    ·exact .inl (by rw [e, Nat.max_eq_left hm])
   ·exact .inr ⟨y', by omega, by omega, d, e⟩
  ·rw [if_neg h]
   rcases stepY_at j (y + 1) best with e | ⟨y', a, b, d, e⟩
   ·exact .inl e
   ·exact .inr ⟨y', by omega, by omega, d, e⟩
end
def Freer (T T' : List Bool) : Prop := T.length = T'.length ∧ ∀ y, y < T.length → T'.getD y false = false → T.getD y false = false
theorem getD_setL {α : Type} (l : List α) (i j : Nat) (x d : α) (h : i < l.length) : (l.set i x).getD j d = if i = j then x else l.getD j d := by
 rw [List.getD_eq_getElem?_getD, List.getElem?_set, List.getD_eq_getElem?_getD]
 by_cases e : i = j
 ·subst e; simp [h]
 ·simp [e]
theorem Freer.set {T T' : List Bool} (h : Freer T T') (y : Nat) : Freer (T.set y true) (T'.set y true) := by
 refine ⟨by simp [h.1], fun z hz hf => ?_⟩
 rw [List.length_set] at hz
 by_cases hy : y < T.length
 ·rw [getD_setL _ _ _ _ _ hy]
  rw [getD_setL _ _ _ _ _ (by rw [← h.1]; exact hy)] at hf
  split at hf
  ·cases hf
  ·rename_i e; rw [if_neg e]; exact h.2 z hz hf
 ·rw [List.set_eq_of_length_le (by omega)]
  rw [List.set_eq_of_length_le (by rw [← h.1]; omega)] at hf
  exact h.2 z hz hf
theorem stG_free {com : Nat → Nat → Nat} {A : Nat} : ∀ (k : Nat) {T T' : List Bool}, Freer T T' → stG com A k T' ≤ stG com A k T
 | 0, _, _, _ => Nat.le_refl _
 | k + 1, T, T', h => by
  simp only [stG]
  rcases stepY_at (com := com (A - (k + 1))) (rec := stG com A k) (T := T') T'.length 0 (stG com A k T') with e | ⟨y, _, hy, hf, e⟩
  ·rw [e]
   exact Nat.le_trans (stG_free k h) (stepY_best _ _ _)
  ·rw [e]
   have hyT : y < T.length := by rw [h.1]; omega
   have hf' := h.2 y hyT hf
   have h2 := stG_free (com := com) (A := A) k (h.set y)
   by_cases h0 : 0 < com (A - (k + 1)) y
   ·have := stepY_ge (com := com (A - (k + 1))) (rec := stG com A k) (T := T) T.length 0 (stG com A k T) y (by omega) (by omega) hf' h0
    omega
   ·have h3 : stG com A k (T'.set y true) ≤ stG com A k T' := stG_free k ⟨by simp, fun z hz hzf => by
     rw [List.getD_eq_getElem?_getD, List.getElem?_set] at hzf
     split at hzf
     ·rename_i e1; subst e1
      split at hzf
      ·simp at hzf
      ·rename_i h5; exact absurd hz (by omega)
     ·rw [List.getD_eq_getElem?_getD]; exact hzf⟩
    have h4 := stG_free (com := com) (A := A) k h
    have := stepY_best (com := com (A - (k + 1))) (rec := stG com A k) (T := T) T.length 0 (stG com A k T)
    omega
def tm (B m : Nat) : List Bool := (List.range B).map fun y => m.testBit y
theorem tm_len {B m : Nat} : (tm B m).length = B := by simp [tm]
theorem tm_get {B m y : Nat} (h : y < B) : (tm B m).getD y false = m.testBit y := by
 rw [getD_lt (by rw [tm_len]; exact h)]
 simp [tm]
theorem tm_set {B m y : Nat} (h : y < B) : (tm B m).set y true = tm B (m ||| 2 ^ y) := by
 refine List.ext_getElem (by simp [tm]) fun j h1 h2 => ?_
 have hj : j < B := by simpa [tm] using h2
 rw [List.getElem_set]
 simp only [tm, List.getElem_map, List.getElem_range, Nat.testBit_or, Nat.testBit_two_pow]
 by_cases e : y = j
 ·simp [e]
 ·simp [e]
theorem tm_zero {B : Nat} : tm B 0 = List.replicate B false := by
 refine List.ext_getElem (by simp [tm]) fun j h1 h2 => ?_
 simp [tm]
section
variable {com : Nat → Nat → Nat} {A B : Nat}
def stM (com : Nat → Nat → Nat) (A B k m : Nat) : Nat := stG com A k (tm B m)
theorem stM_mono (k m : Nat) : stM com A B k m ≤ stM com A B (k + 1) m := by
 unfold stM
 simp only [stG]
 exact stepY_best _ _ _
theorem stM_ge (k m y : Nat) (hy : y < B) (hf : m.testBit y = false) : com (A - (k + 1)) y + stM com A B k (m ||| 2 ^ y) ≤ stM com A B (k + 1) m := by
 have hm := stM_mono (com := com) (A := A) (B := B) k m
 by_cases h0 : 0 < com (A - (k + 1)) y
 ·unfold stM
  simp only [stG]
  have := stepY_ge (com := com (A - (k + 1))) (rec := stG com A k) (T := tm B m) (tm B m).length 0 (stG com A k (tm B m)) y (by omega) (by rw [tm_len]; omega) (by rw [tm_get hy]; exact hf) h0
  rwa [tm_set hy] at this
 ·have h3 : stM com A B k (m ||| 2 ^ y) ≤ stM com A B k m := stG_free k ⟨by rw [tm_len, tm_len], fun z hz hzf => by
   rw [tm_len] at hz
   rw [tm_get hz, Nat.testBit_or] at hzf
   rw [tm_get hz]
   simp at hzf
   exact hzf.1⟩
  omega
theorem stM_at (k m : Nat) : stM com A B (k + 1) m = stM com A B k m ∨ ∃ y, y < B ∧ m.testBit y = false ∧ stM com A B (k + 1) m = com (A - (k + 1)) y + stM com A B k (m ||| 2 ^ y) := by
 unfold stM
 simp only [stG]
 rcases stepY_at (com := com (A - (k + 1))) (rec := stG com A k) (T := tm B m) (tm B m).length 0 (stG com A k (tm B m)) with e | ⟨y, _, hy, hf, e⟩
 ·exact .inl e
 ·rw [tm_len] at hy
  have hy' : y < B := by omega
  rw [tm_get hy'] at hf
  refine .inr ⟨y, hy', hf, ?_⟩
  rw [e, tm_set hy']
end
section
variable {cm : Nat → Nat} {B : Nat}
theorem yF_mono {kv : Int} {set : Nat} (hs : set < 2 ^ B) : ∀ j y N m, y + j ≤ B → N.length = 2 ^ B → N.getD m 0 ≤ (yF cm kv set j y N).getD m 0
 | 0, _, _, _, _, _ => Int.le_refl _
 | j + 1, y, N, m, hy, hl => by
  simp only [yF]
  have hp := or_lt hs (show y < B by omega)
  refine Int.le_trans ?_ (yF_mono hs j (y + 1) _ m (by omega) (by split <;> simp [hl]))
  split
  ·rw [getD_setL _ _ _ _ _ (by omega)]
   split
   ·rename_i e; subst e; unfold mx2; split <;> omega
   ·exact Int.le_refl _
  ·exact Int.le_refl _
theorem yF_hit {kv : Int} {set : Nat} (hs : set < 2 ^ B) : ∀ j y N y', y + j ≤ B → N.length = 2 ^ B → y ≤ y' → y' < y + j → set.testBit y' = false → kv + cm y' ≤ (yF cm kv set j y N).getD (set ||| 2 ^ y') 0
 | 0, y, _, y', _, _, h1, h2, _ => by omega
 | j + 1, y, N, y', hy, hl, h1, h2, hf => by
  simp only [yF]
  have hp := or_lt hs (show y < B by omega)
  by_cases e : y' = y
  ·subst e
   rw [if_pos hf]
   refine Int.le_trans ?_ (yF_mono hs j (y' + 1) _ _ (by omega) (by simp [hl]))
   rw [getD_setL _ _ _ _ _ (by omega), if_pos rfl]
   unfold mx2; split <;> omega
  ·exact yF_hit hs j (y + 1) _ y' (by omega) (by split <;> simp [hl]) (by omega) (by omega) hf
theorem yF_src {kv : Int} {set : Nat} (hs : set < 2 ^ B) : ∀ j y N m, y + j ≤ B → N.length = 2 ^ B → (yF cm kv set j y N).getD m 0 = N.getD m 0 ∨ ∃ y', y' < B ∧ set.testBit y' = false ∧ m = set ||| 2 ^ y' ∧ (yF cm kv set j y N).getD m 0 = kv + cm y'
 | 0, _, _, _, _, _ => .inl rfl
 | j + 1, y, N, m, hy, hl => by
  simp only [yF]
  have hp := or_lt hs (show y < B by omega)
  rcases yF_src hs j (y + 1) (if set.testBit y = false then N.set (set ||| 2 ^ y) (mx2 (N.getD (set ||| 2 ^ y) 0) (kv + cm y)) else N) m (by omega) (by split <;> simp [hl]) with e | ⟨y', a, b, d, e⟩
  ·rw [e]
   by_cases hf : set.testBit y = false
   ·rw [if_pos hf, getD_setL _ _ _ _ _ (by omega)]
    by_cases em : set ||| 2 ^ y = m
    ·rw [if_pos em]
     unfold mx2
     split
     ·exact .inr ⟨y, by omega, hf, em.symm, rfl⟩
     ·rw [em]; exact .inl rfl
    ·rw [if_neg em]; exact .inl rfl
   ·rw [if_neg hf]; exact .inl rfl
  ·exact .inr ⟨y', a, b, d, e⟩
theorem sF_mono {K : List Int} : ∀ j s N m, s + j ≤ 2 ^ B → N.length = 2 ^ B → N.getD m 0 ≤ (sF cm K B j s N).getD m 0
 | 0, _, _, _, _, _ => Int.le_refl _
 | j + 1, s, N, m, hs, hl => by
  simp only [sF]
  refine Int.le_trans ?_ (sF_mono j (s + 1) _ m (by omega) (by split <;> simp [hl, yF_len]))
  split
  ·exact Int.le_refl _
  ·exact yF_mono (by omega) B 0 N m (by omega) hl
theorem sF_hit {K : List Int} : ∀ j s N s' y, s + j ≤ 2 ^ B → N.length = 2 ^ B → s ≤ s' → s' < s + j → 0 ≤ K.getD s' 0 → y < B → s'.testBit y = false → K.getD s' 0 + cm y ≤ (sF cm K B j s N).getD (s' ||| 2 ^ y) 0
 | 0, s, _, s', _, _, _, h1, h2, _, _, _ => by omega
 | j + 1, s, N, s', y, hs, hl, h1, h2, hk, hy, hf => by
  simp only [sF]
  by_cases e : s' = s
  ·subst e
   rw [if_neg (by omega)]
   refine Int.le_trans ?_ (sF_mono j (s' + 1) _ _ (by omega) (by simp [hl, yF_len]))
   exact yF_hit (by omega) B 0 N y (by omega) hl (by omega) (by omega) hf
  ·exact sF_hit j (s + 1) _ s' y (by omega) (by split <;> simp [hl, yF_len]) (by omega) (by omega) hk hy hf
theorem sF_src {K : List Int} : ∀ j s N m, s + j ≤ 2 ^ B → N.length = 2 ^ B → (sF cm K B j s N).getD m 0 = N.getD m 0 ∨ ∃ s' y, s' < 2 ^ B ∧ y < B ∧ 0 ≤ K.getD s' 0 ∧ s'.testBit y = false ∧ m = s' ||| 2 ^ y ∧ (sF cm K B j s N).getD m 0 = K.getD s' 0 + cm y
 | 0, _, _, _, _, _ => .inl rfl
 | j + 1, s, N, m, hs, hl => by
  simp only [sF]
  rcases sF_src (K := K) j (s + 1) (if K.getD s 0 < 0 then N else yF cm (K.getD s 0) s B 0 N) m (by omega) (by split <;> simp [hl, yF_len]) with e | h
  ·rw [e]
   by_cases hn : K.getD s 0 < 0
   ·rw [if_pos hn]; exact .inl rfl
   ·rw [if_neg hn]
    rcases yF_src (cm := cm) (kv := K.getD s 0) (set := s) (B := B) (by omega) B 0 N m (by omega) hl with e2 | ⟨y', a, b, d, e2⟩
    ·exact .inl e2
    ·exact .inr ⟨s, y', by omega, a, by omega, b, d, e2⟩
  ·exact .inr h
end
section
variable {com : Nat → Nat → Nat} {A B : Nat}
structure KInv (com : Nat → Nat → Nat) (A B S x : Nat) (K : List Int) : Prop where
 len : K.length = 2 ^ B
 le : ∀ m, m < 2 ^ B → 0 ≤ K.getD m 0 → K.getD m 0 + stM com A B (A - x) m ≤ S
 at' : ∃ m, m < 2 ^ B ∧ 0 ≤ K.getD m 0 ∧ K.getD m 0 + stM com A B (A - x) m = S
theorem KInv.step {S x : Nat} {K : List Int} (h : KInv com A B S x K) (hx : x < A) : KInv com A B S (x + 1) (sF (com x) K B (2 ^ B) 0 K) := by
 obtain ⟨k, hk⟩ : ∃ k, A - x = k + 1 := ⟨A - x - 1, by omega⟩
 have hk' : A - (x + 1) = k := by omega
 have hxk : A - (k + 1) = x := by omega
 have hle := h.le
 have hat := h.at'
 rw [hk] at hle hat
 have le' : ∀ m, m < 2 ^ B → 0 ≤ (sF (com x) K B (2 ^ B) 0 K).getD m 0 → (sF (com x) K B (2 ^ B) 0 K).getD m 0 + stM com A B k m ≤ S := fun m hm h0 => by
  rcases sF_src (cm := com x) (K := K) (B := B) (2 ^ B) 0 K m (by omega) h.len with e | ⟨s, y, hs, hy, hks, hf, em, e⟩
  ·rw [e] at h0 ⊢
   have := hle m hm h0
   have := stM_mono (com := com) (A := A) (B := B) k m
   omega
  ·rw [e, em]
   have a := hle s hs hks
   have b := stM_ge (com := com) (A := A) (B := B) k s y hy hf
   rw [hxk] at b
   omega
 refine ⟨by rw [sF_len]; exact h.len, by rw [hk']; exact le', ?_⟩
 rw [hk']
 obtain ⟨m, hm, h0, hs⟩ := hat
 rcases stM_at (com := com) (A := A) (B := B) k m with e | ⟨y, hy, hf, e⟩
 ·have hmo := sF_mono (cm := com x) (K := K) (B := B) (2 ^ B) 0 K m (by omega) h.len
  have := le' m hm (by omega)
  exact ⟨m, hm, by omega, by omega⟩
 ·rw [hxk] at e
  have hh := sF_hit (cm := com x) (K := K) (B := B) (2 ^ B) 0 K m y (by omega) h.len (by omega) (by omega) h0 hy hf
  have hp := or_lt hm hy
  have := le' _ hp (by omega)
  exact ⟨m ||| 2 ^ y, hp, by omega, by omega⟩
theorem KInv.run {S : Nat} : ∀ (j x : Nat) (K : List Int), x + j = A → KInv com A B S x K → KInv com A B S A (rF com B j x K)
 | 0, x, K, hx, h => by
  have : x = A := by omega
  subst this
  exact h
 | j + 1, x, K, hx, h => KInv.run j (x + 1) _ (by omega) (h.step (by omega))
theorem K0_inv : KInv com A B (stM com A B A 0) 0 (K0 (2 ^ B)) := by
 have hp0 : 0 < (2 : Nat) ^ B := Nat.pow_pos (by decide)
 have g0 : (K0 (2 ^ B)).getD 0 0 = 0 := rfl
 have gs : ∀ m, 0 < m → m < 2 ^ B → (K0 (2 ^ B)).getD m 0 = -1 := fun m h1 h2 => by
  obtain ⟨q, rfl⟩ : ∃ q, m = q + 1 := ⟨m - 1, by omega⟩
  have : q < 2 ^ B - 1 := by omega
  simp [K0, List.getD_eq_getElem?_getD, List.getElem?_replicate, this]
 refine ⟨by simp [K0]; omega, fun m hm h0 => ?_, ⟨0, hp0, by rw [g0]; exact Int.le_refl _, by rw [g0]; simp⟩⟩
 by_cases e : m = 0
 ·subst e; rw [g0]; simp
 ·rw [gs m (by omega) hm] at h0; omega
theorem maxF_rF : maxF (rF com B A 0 (K0 (2 ^ B))) = stG com A A (List.replicate B false) := by
 have h := KInv.run (com := com) (A := A) (B := B) A 0 (K0 (2 ^ B)) (by omega) K0_inv
 obtain ⟨R, hR⟩ : ∃ R, rF com B A 0 (K0 (2 ^ B)) = R := ⟨_, rfl⟩
 rw [hR] at h ⊢
 have e : stG com A A (List.replicate B false) = stM com A B A 0 := by unfold stM; rw [tm_zero]
 rw [e]
 have hp0 : 0 < (2 : Nat) ^ B := Nat.pow_pos (by decide)
 have hl := h.len
 have z : ∀ m, stM com A B (A - A) m = 0 := fun m => by rw [Nat.sub_self]; rfl
 obtain ⟨m, hm, h0, hs⟩ := h.at'
 rw [z] at hs
 have ge : ∀ m, m < R.length → R.getD m 0 ≤ maxF R := fun m hm => by
  unfold maxF
  have g := maxL_ge (R.drop 1) (R.getD 0 0)
  by_cases e : m = 0
  ·subst e; exact g.1
  ·refine g.2 _ ?_
   rw [getD_lt hm, List.mem_iff_getElem]
   exact ⟨m - 1, by simp; omega, by rw [List.getElem_drop]; congr 1; omega⟩
 have g1 := ge m (by omega)
 have mem : ∃ m', m' < R.length ∧ maxF R = R.getD m' 0 := by
  unfold maxF
  rcases maxL_mem (R.drop 1) (R.getD 0 0) with e | e
  ·exact ⟨0, by omega, e⟩
  ·obtain ⟨i, hi, e⟩ := List.mem_iff_getElem.1 e
   have hi' : 1 + i < R.length := by simp at hi; omega
   exact ⟨1 + i, hi', by rw [getD_lt hi', ← e, List.getElem_drop]⟩
 obtain ⟨m', hm', em⟩ := mem
 have l1 := h.le m' (by omega) (by rw [← em]; omega)
 rw [z, ← em] at l1
 omega
end
end
section
variable {c : Nat} {H : Heap}
theorem chkL_rng : ∀ (l : List Int) (m : Int), chkL l m = 0 → ∀ x ∈ l, 0 ≤ x ∧ x ≤ 8
 | [], _, _, x, hx => absurd hx List.not_mem_nil
 | y :: r, m, h, x, hx => by
  simp only [chkL] at h
  split at h
  ·cases h
  ·rename_i h1
   split at h
   ·cases h
   ·rcases List.mem_cons.1 hx with rfl | hx
    ·omega
    ·exact chkL_rng r _ h x hx
structure PartOk (l : List Int) : Prop where
 ne : l ≠ []
 le : l.length ≤ 9
 rng : ∀ x ∈ l, 0 ≤ x ∧ x ≤ 8
 ck : chkL l 0 = 0
theorem chkP_zero {l : List Int} (h : chkP l = 0) : PartOk l := by
 unfold chkP at h
 split at h
 ·cases h
 ·rename_i h1
  split at h
  ·cases h
  ·rename_i h2
   exact ⟨fun e => h1 (by rw [e]; rfl), by omega, chkL_rng l 0 h, h⟩
theorem PartOk.zero {l : List Int} (h : PartOk l) : chkP l = 0 := by
 unfold chkP
 have h1 := h.le
 have h2 : l.length ≠ 0 := fun e => h.ne (List.length_eq_zero_iff.1 e)
 rw [if_neg h2, if_neg (by omega)]
 exact h.ck
theorem PartOk.blk {l : List Int} (h : PartOk l) : ∃ B : Nat, blkF l = B ∧ 1 ≤ B ∧ B ≤ 9 := by
 have hp : 0 < l.length := List.length_pos_iff.2 h.ne
 have g := maxL_ge (l.map (· + 1)) 0
 have g1 := g.2 (l[0] + 1) (List.mem_map.2 ⟨l[0], List.getElem_mem hp, rfl⟩)
 have g2 := (h.rng _ (List.getElem_mem hp)).1
 have g3 : blkF l ≤ 9 := by
  unfold blkF
  rcases maxL_mem (l.map (· + 1)) 0 with e | e
  ·rw [e]; decide
  ·obtain ⟨x, hx, e⟩ := List.mem_map.1 e
   have := (h.rng x hx).2
   omega
 have g4 : 1 ≤ blkF l := by unfold blkF; omega
 exact ⟨(blkF l).toNat, by omega, by omega, by omega⟩
theorem bothE_zero {a b : List Int} (h : bothE a b = 0) : PartOk a ∧ PartOk b ∧ a.length = b.length := by
 unfold bothE at h
 split at h
 ·rename_i h1; exact absurd h h1
 ·rename_i h1
  split at h
  ·rename_i h2; exact absurd h h2
  ·rename_i h2
   split at h
   ·cases h
   ·rename_i h3
    exact ⟨chkP_zero (by simpa using h1), chkP_zero (by simpa using h2), by omega⟩
end
section
variable {c : Nat} {H : Heap}
theorem comTab_nil : cellsT (comTab [] []) = List.replicate 81 (.pure (.int .i64 0)) := by rfl
theorem K0_bd (n : Nat) : Bd 0 (K0 n) := fun x hx => by
 unfold K0 at hx
 rcases List.mem_cons.1 hx with rfl | h
 ·omega
 ·rw [List.eq_of_mem_replicate h]; omega
theorem K0_set {n : Nat} (hn : 0 < n) : ((List.replicate n (-1 : Int)).map irow).set 0 [.int .i64 0] = (K0 n).map irow := by
 obtain ⟨m, rfl⟩ : ∃ m, n = m + 1 := ⟨n - 1, by omega⟩
 simp [K0, List.replicate_succ, irow]
theorem Moves_ok (a b : List Int) (ha : a.length ≤ 1000000) (hb : b.length ≤ 1000000) (hH : 0 < H.length) : gcall KC (geval KC) 133 [.pure (.slice (a.map irow)), .pure (.slice (b.map irow))] c H = some (.pure (.tuple (movT a b)), H) := by
 refine WPv_eq (call_enter KC needT Tryz.func133 rfl rfl good133 rfl rfl rfl (by simp) hH ?_)
 have E := fun c (H : Heap) (hH : 0 < H.length) => both_ok (c := c) (H := H) a b ha hb hH
 unfold movT
 by_cases h : bothE a b = 0
 ·obtain ⟨pa, pb, hl⟩ := bothE_zero h
  obtain ⟨A, eA, a1, a9⟩ := pa.blk
  obtain ⟨B, eB, b1, b9⟩ := pb.blk
  have le9 := pa.le
  have ra : ∀ x ∈ a, 0 ≤ x ∧ x ≤ 1000000 := fun x hx => ⟨(pa.rng x hx).1, by have := (pa.rng x hx).2; omega⟩
  have rb : ∀ x ∈ b, 0 ≤ x ∧ x ≤ 1000000 := fun x hx => ⟨(pb.rng x hx).1, by have := (pb.rng x hx).2; omega⟩
  have Ba := fun c (H : Heap) (hH : 0 < H.length) => blocks_ok (c := c) (H := H) a pa.ne ha ra hH
  have Bb := fun c (H : Heap) (hH : 0 < H.length) => blocks_ok (c := c) (H := H) b pb.ne hb rb hH
  rw [eA] at Ba
  rw [eB] at Bb
  have se := shl_eq B b9
  rw [Int.one_mul] at se
  have hp9 : (2 : Nat) ^ B ≤ 512 := Nat.pow_le_pow_right (n := 2) (by decide) b9
  have hp0 : 0 < (2 : Nat) ^ B := Nat.pow_pos (by decide)
  have L0 := fun Q h1 => com_loop (H := H) hl pa.le pa.rng pb.rng Q h1 a.length 0 (by omega)
  simp only [List.take_zero, comTab_nil] at L0
  simp [List.replicate] at L0
  have k0l : (K0 (2 ^ B)).length = 2 ^ B := by simp [K0]; omega
  have L2 := fun Fm g9 Q => r_loop (H := H) (a := a) (b := b) (A := A) (B := B) (com := fun x y => comL x y a b) (tab := comTab a b) comTab_len a9 b9 eB pb.ne hb rb (fun x y hx hy => comTab_get hx hy) (fun x y => by have := comL_le x y a b; omega) Q A 0 Fm g9 (K0 (2 ^ B)) (by omega) k0l (K0_bd _)
  have rl := rF_len (com := fun x y => comL x y a b) (B := B) A 0 (K0 (2 ^ B))
  have hm := maxF_rF (com := fun x y => comL x y a b) (A := A) (B := B)
  have hmv : movV a b = (a.length : Int) - (stG (fun x y => comL x y a b) A A (List.replicate B false) : Nat) := by
   unfold movV
   rw [eA, eB]; rfl
  have hs := stG_le (com := fun x y => comL x y a b) (B := A) (n := 9) (fun x y => by have := comL_le x y a b; omega) A (List.replicate B false)
  have hk9 : A * 9 ≤ 9 * 9 := Nat.mul_le_mul a9 (Nat.le_refl _)
  have hw := w64 (x := (a.length : Int) - (stG (fun x y => comL x y a b) A A (List.replicate B false) : Nat)) (by omega) (by omega)
  obtain ⟨R, hR⟩ : ∃ R, rF (fun x y => comL x y a b) B A 0 (K0 (2 ^ B)) = R := ⟨_, rfl⟩
  rw [hR] at rl hm L2
  have hR0 : R ≠ [] := fun e => by rw [e, k0l] at rl; simp at rl; omega
  have Mx := fun c (H : Heap) (hH : 0 < H.length) => max_ok (c := c) (H := H) R hR0 (by omega) hH
  rw [hm] at Mx
  rw [h, hmv]
  simp [E, h]
  refine L0 _ ?_
  obtain ⟨n, hn⟩ : ∃ n : Nat, 2 ^ B = n := ⟨_, rfl⟩
  have L1 := fun Q h1 => fill_loop (H := H) (a := a) (b := b) (x := .box (cellsT (comTab a b))) (n := n) (by omega) Q h1 n 0 0 (by omega) (Nat.zero_le _)
  simp only [hn] at se hp0 hp9 L2 k0l
  have hn0 : ¬ (n : Int) < 0 := by omega
  have hnb : (n : Int) * 8 ≤ 1099511627776 := by omega
  have bn : ¬ (B : Int) < 0 := by omega
  simp [irow] at L1
  simp [Bb, se, hn0, hnb, bn]
  refine L1 _ (fun v hv => ?_)
  have ks := K0_set hp0
  simp [irow] at ks
  have hnl : n ≤ n := Nat.le_refl _
  simp [hp0, hv, splice, ks, Ba]
  have kh : KeptAt H.length [(7, .box (cellsT (comTab a b))), (46, .arr 1 ((K0 n).map irow) n false)] (K0 n) (.hdr (H.length, 46) 1 n 0 n) := by
   have := KeptAt.hdr (L := H.length) (Fm := [(7, .box (cellsT (comTab a b))), (46, .arr 1 ((K0 n).map irow) n false)]) (K := K0 n) n false (by rw [k0l]; exact Nat.le_refl _) (by simp)
   rwa [k0l] at this
  have L2' := fun Q => L2 _ _ Q kh (by simp)
  simp at L2'
  refine L2' _ (fun Fm' => ?_)
  simp [Mx, hw, gleave_free]
  omega
 ·have e1 : (bothE a b != 0) = true := by simpa using h
  simp [E, h, e1, gleave_free]
end
def shbox (t a : List Int) : Blk := .box [.pure (.slice (t.map irow)), .pure (.slice (a.map irow))]
def zx : Blk := .box [.pure (.int .i64 0), .pure (.int .i64 0), .pure (.int .i64 0), .pure (.int .i64 0), .pure (.int .i64 0), .pure (.int .i64 0), .pure (.int .i64 0), .pure (.int .i64 0)]
def mkFr (s : Scoring) (t a : List Int) (x : Score) : Fr := [(2, sbox s), (3, shbox t a), (4, zx), (5, xbox x)]
theorem pairs_loop {H : Heap} (s : Scoring) (t a : List Int) (hl : a.length = t.length) (hn : t.length ≤ 9) (i : Nat) (hi : i < t.length) (w g : Bool) (x : Score) (P : Nat) (hP : P ≤ 100) (Q : GX → GSt → Prop)
  (h1 : Q (.exit 2) ⟨[(2, .bptr (H.length, 2) 0), (3, .bptr (H.length, 3) 0), (4, .bptr (H.length, 4) 0), (5, .bptr (H.length, 5) 0), (6, .pure (.bool (w && rightB t a i))), (7, .pure (.bool g)), (8, .pure (.int .i64 (i : Nat))), (9, .pure (.bool (rightB t a i))), (17, .pure (.int .i64 t.length)), (18, .pure (.int .i64 (i : Nat)))], [] :: mkFr s t a { x with pairs := ((P + cntB (pairB t a i) i : Nat) : Int) } :: H, 160⟩) :
  ∀ k j : Nat, j + k = i →
  WPL KC needT 98 (lp Tryz.f98 1) [2, 3, 4, 5, 6, 7, 8, 9, 17, 18, 28, 29] [2, 3, 4, 5, 6, 7, 8, 9, 17, 18] Q
   [(2, .bptr (H.length, 2) 0), (3, .bptr (H.length, 3) 0), (4, .bptr (H.length, 4) 0), (5, .bptr (H.length, 5) 0), (6, .pure (.bool (w && hasB a i && !anyB (badB t a i) j 0))), (7, .pure (.bool g)), (8, .pure (.int .i64 (i : Nat))), (9, .pure (.bool (hasB a i && !anyB (badB t a i) j 0))), (17, .pure (.int .i64 t.length)), (18, .pure (.int .i64 (i : Nat))), (28, .pure (.int .i64 (i : Nat))), (29, .pure (.int .i64 (j : Nat)))] ([] :: mkFr s t a { x with pairs := ((P + cntB (pairB t a i) j : Nat) : Int) } :: H) 160 := by
 have hia : i < a.length := by omega
 intro k
 induction k with
 | zero =>
  intro j hj
  have e : j = i := by omega
  subst e
  rw [rightB_eq, ← Bool.and_assoc] at h1
  apply WPL_step
  conv => arg 4; whnf
  simp
  simpa using h1
 | succ k ih =>
  intro j hj
  have hji : j < i := by omega
  have hja : j < a.length := by omega
  have hjt : j < t.length := by omega
  have hw := w64 (x := (j : Int) + 1) (by omega) (by omega)
  have cle := cntB_le (pairB t a i) j
  have hw2 := w64 (x := ((P + cntB (pairB t a i) j : Nat) : Int) + 1) (by omega) (by omega)
  have Hi := fun c (H : Heap) (hH : 0 < H.length) => has_ok (c := c) (H := H) t a i hia hH
  have Hj := fun c (H : Heap) (hH : 0 < H.length) => has_ok (c := c) (H := H) t a j hja hH
  have R := fun c (H : Heap) (hH : 0 < H.length) => sright_ok (c := c) (H := H) t a i j hia hja hi hjt hH
  have ih' := ih (j + 1) (by omega)
  have es := anyB_snoc (badB t a i) j 0
  rw [Nat.zero_add] at es
  rw [es] at ih'
  simp only [cntB] at ih'
  simp only [Int.natCast_add] at hw2 ih' ⊢
  apply WPL_step
  conv => arg 4; whnf
  by_cases hi1 : hasB a i = true
  ·by_cases hj1 : hasB a j = true
   ·by_cases hp : prB t a i j = true
    ·have e1 : pairB t a i j = true := by unfold pairB; rw [hi1, hj1, hp]; rfl
     have e2 : badB t a i j = false := by unfold badB; rw [e1]; simp
     rw [e1, e2] at ih'
     simp [hji, mkFr, shbox, xbox, Hi, hi1, Hj, hj1, R, hp, hw, hw2]
     simpa [mkFr, shbox, xbox, hi1, Int.add_assoc] using ih'
    ·have hp' : prB t a i j = false := by simpa using hp
     have e1 : pairB t a i j = false := by unfold pairB; rw [hp']; simp
     have e2 : badB t a i j = true := by unfold badB; rw [e1, hj1]; rfl
     rw [e1, e2] at ih'
     simp [hji, mkFr, shbox, xbox, Hi, hi1, Hj, hj1, R, hp', hw]
     simpa [mkFr, shbox, xbox, hi1] using ih'
   ·have hj' : hasB a j = false := by simpa using hj1
    have e1 : pairB t a i j = false := by unfold pairB; rw [hj']; simp
    have e2 : badB t a i j = false := by unfold badB; rw [hj']; rfl
    rw [e1, e2] at ih'
    simp [hji, mkFr, shbox, xbox, Hi, hi1, Hj, hj', hw]
    simpa [mkFr, shbox, xbox, hi1] using ih'
  ·have hi' : hasB a i = false := by simpa using hi1
   have e1 : pairB t a i j = false := by unfold pairB; rw [hi']; rfl
   rw [e1, hi'] at ih'
   simp [hji, mkFr, shbox, xbox, Hi, hi', hw]
   simpa [mkFr, shbox, xbox] using ih'
theorem pairN_le100 (t a : List Int) {n : Nat} (hn : n ≤ 9) : pairN t a n ≤ 100 := by
 have := pairN_le t a n
 have h2 : n * (n - 1) ≤ 9 * 9 := Nat.mul_le_mul hn (by omega)
 omega
theorem packets_loop {H : Heap} (s : Scoring) (t a : List Int) (hl : a.length = t.length) (hn : t.length ≤ 9) (Q : GX → GSt → Prop)
  (h1 : Q (.exit 0) ⟨[(2, .bptr (H.length, 2) 0), (3, .bptr (H.length, 3) 0), (4, .bptr (H.length, 4) 0), (5, .bptr (H.length, 5) 0), (6, .pure (.bool (allR t a t.length)))], mkFr s t a (bareF t a t.length) :: H, 160⟩) :
  ∀ k i : Nat, i + k = t.length →
  WPL KC needT 98 (lp Tryz.f98 0) [2, 3, 4, 5, 6, 7, 17, 18] [2, 3, 4, 5, 6] Q
   [(2, .bptr (H.length, 2) 0), (3, .bptr (H.length, 3) 0), (4, .bptr (H.length, 4) 0), (5, .bptr (H.length, 5) 0), (6, .pure (.bool (allR t a i))), (7, .pure (.bool (allR t a i))), (17, .pure (.int .i64 t.length)), (18, .pure (.int .i64 (i : Nat)))] (mkFr s t a (bareF t a i) :: H) 160 := by
 intro k
 induction k with
 | zero =>
  intro i hi
  have e : i = t.length := by omega
  subst e
  apply WPL_step
  conv => arg 4; whnf
  simp [mkFr]
  simpa [mkFr] using h1
 | succ k ih =>
  intro i hi
  have hit : i < t.length := by omega
  have hia : i < a.length := by omega
  have hw := w64 (x := (i : Int) + 1) (by omega) (by omega)
  have c1 := cntB_le (rightB t a) i
  have c2 := cntB_le (fun j => hasB a j && !rightB t a j) i
  have c3 := cntB_le (heardB t a) i
  have c4 := stN_le t a i
  have hw1 := w64 (x := (cntB (rightB t a) i : Nat) + (1 : Int)) (by omega) (by omega)
  have hw2 := w64 (x := (cntB (fun j => hasB a j && !rightB t a j) i : Nat) + (1 : Int)) (by omega) (by omega)
  have hw3 := w64 (x := (cntB (heardB t a) i : Nat) + (1 : Int)) (by omega) (by omega)
  have hw4 := w64 (x := (stN t a i : Nat) + (1 : Int)) (by omega) (by omega)
  have Hi := fun c (H : Heap) (hH : 0 < H.length) => has_ok (c := c) (H := H) t a i hia hH
  have Ct := fun c (H : Heap) (hH : 0 < H.length) => count_ok (c := c) (H := H) t t[i] (by omega) hH
  have Ca := fun c (H : Heap) (hH : 0 < H.length) => count_ok (c := c) (H := H) a a[i] (by omega) hH
  have hd := heardB_eq hl hit
  rw [getD_lt hit, getD_lt hia] at hd
  have L := fun Q h1 => pairs_loop (H := H) s t a hl hn i hit (allR t a i) (allR t a i) (bareF t a i) (pairN t a i) (pairN_le100 t a (by omega)) Q h1 i 0 (by omega)
  have ih' := ih (i + 1) (by omega)
  have n1 : ((t.count t[i] : Nat) : Int) = 1 ↔ t.count t[i] = 1 := by omega
  have n2 : ((a.count a[i] : Nat) : Int) = 1 ↔ a.count a[i] = 1 := by omega
  have hr := rightB_eq t a i
  simp only [anyB, Bool.not_false, Bool.and_true, cntB, Nat.add_zero] at L
  simp only [bareF, cntB, pairN, stN, allR] at ih' L ⊢
  simp only [mkFr, xbox, shbox] at ih' L ⊢
  simp at L
  clear ih
  rcases Bool.eq_false_or_eq_true (allR t a i) with hA | hA
  ·rcases Bool.eq_false_or_eq_true (hasB a i) with hh | hh
   ·rw [hh] at hd Hi
    simp only [Bool.true_and] at hd
    rcases Bool.eq_false_or_eq_true (rightB t a i) with hr' | hr'
    ·by_cases e1 : t.count t[i] = 1
     ·by_cases e2 : a.count a[i] = 1
      ·have m1 : (((t.count t[i] : Nat) : Int) == 1) = true := by simp [e1]
       have m2 : (((a.count a[i] : Nat) : Int) == 1) = true := by simp [e2]
       have hd' : heardB t a i = true := by rw [hd, e1, e2]; rfl
       simp only [hA, hh, hr', hd', Bool.and_true, Bool.true_and, Bool.and_false, Bool.false_and] at ih' L
       apply WPL_step
       conv => arg 4; whnf
       simp [hit, Hi, hA]
       refine L _ ?_
       simp [Hi, hw, hw1, hw2, hw3, hw4, Ct, Ca, hit, hia, irow, m1, m2]
       simpa [irow] using ih'
      ·have m1 : (((t.count t[i] : Nat) : Int) == 1) = true := by simp [e1]
       have m2 : (((a.count a[i] : Nat) : Int) == 1) = false := by simp; omega
       have hd' : heardB t a i = false := by rw [hd]; simp [e2]
       simp only [hA, hh, hr', hd', Bool.and_true, Bool.true_and, Bool.and_false, Bool.false_and] at ih' L
       apply WPL_step
       conv => arg 4; whnf
       simp [hit, Hi, hA]
       refine L _ ?_
       simp [Hi, hw, hw1, hw2, hw3, hw4, Ct, Ca, hit, hia, irow, m1, m2]
       simpa [irow] using ih'
     ·have m1 : (((t.count t[i] : Nat) : Int) == 1) = false := by simp; omega
      have hd' : heardB t a i = false := by rw [hd]; simp [e1]
      simp only [hA, hh, hr', hd', Bool.and_true, Bool.true_and, Bool.and_false, Bool.false_and] at ih' L
      apply WPL_step
      conv => arg 4; whnf
      simp [hit, Hi, hA]
      refine L _ ?_
      simp [Hi, hw, hw1, hw2, hw3, hw4, Ct, Ca, hit, hia, irow, m1]
      simpa [irow] using ih'
    ·by_cases e1 : t.count t[i] = 1
     ·by_cases e2 : a.count a[i] = 1
      ·have m1 : (((t.count t[i] : Nat) : Int) == 1) = true := by simp [e1]
       have m2 : (((a.count a[i] : Nat) : Int) == 1) = true := by simp [e2]
       have hd' : heardB t a i = true := by rw [hd, e1, e2]; rfl
       simp only [hA, hh, hr', hd', Bool.and_true, Bool.true_and, Bool.and_false, Bool.false_and] at ih' L
       apply WPL_step
       conv => arg 4; whnf
       simp [hit, Hi, hA]
       refine L _ ?_
       simp [Hi, hw, hw1, hw2, hw3, hw4, Ct, Ca, hit, hia, irow, m1, m2]
       simpa [irow] using ih'
      ·have m1 : (((t.count t[i] : Nat) : Int) == 1) = true := by simp [e1]
       have m2 : (((a.count a[i] : Nat) : Int) == 1) = false := by simp; omega
       have hd' : heardB t a i = false := by rw [hd]; simp [e2]
       simp only [hA, hh, hr', hd', Bool.and_true, Bool.true_and, Bool.and_false, Bool.false_and] at ih' L
       apply WPL_step
       conv => arg 4; whnf
       simp [hit, Hi, hA]
       refine L _ ?_
       simp [Hi, hw, hw1, hw2, hw3, hw4, Ct, Ca, hit, hia, irow, m1, m2]
       simpa [irow] using ih'
     ·have m1 : (((t.count t[i] : Nat) : Int) == 1) = false := by simp; omega
      have hd' : heardB t a i = false := by rw [hd]; simp [e1]
      simp only [hA, hh, hr', hd', Bool.and_true, Bool.true_and, Bool.and_false, Bool.false_and] at ih' L
      apply WPL_step
      conv => arg 4; whnf
      simp [hit, Hi, hA]
      refine L _ ?_
      simp [Hi, hw, hw1, hw2, hw3, hw4, Ct, Ca, hit, hia, irow, m1]
      simpa [irow] using ih'
   ·rw [hh] at hd Hi hr
    simp only [Bool.false_and] at hd hr
    simp only [hA, hh, hr, hd, Bool.and_true, Bool.true_and, Bool.and_false, Bool.false_and] at ih' L
    apply WPL_step
    conv => arg 4; whnf
    simp [hit, Hi, hA]
    refine L _ ?_
    simp [Hi, hw]
    simpa [irow] using ih'
  ·rcases Bool.eq_false_or_eq_true (hasB a i) with hh | hh
   ·rw [hh] at hd Hi
    simp only [Bool.true_and] at hd
    rcases Bool.eq_false_or_eq_true (rightB t a i) with hr' | hr'
    ·by_cases e1 : t.count t[i] = 1
     ·by_cases e2 : a.count a[i] = 1
      ·have m1 : (((t.count t[i] : Nat) : Int) == 1) = true := by simp [e1]
       have m2 : (((a.count a[i] : Nat) : Int) == 1) = true := by simp [e2]
       have hd' : heardB t a i = true := by rw [hd, e1, e2]; rfl
       simp only [hA, hh, hr', hd', Bool.and_true, Bool.true_and, Bool.and_false, Bool.false_and] at ih' L
       apply WPL_step
       conv => arg 4; whnf
       simp [hit, Hi, hA]
       refine L _ ?_
       simp [Hi, hw, hw1, hw2, hw3, hw4, Ct, Ca, hit, hia, irow, m1, m2]
       simpa [irow] using ih'
      ·have m1 : (((t.count t[i] : Nat) : Int) == 1) = true := by simp [e1]
       have m2 : (((a.count a[i] : Nat) : Int) == 1) = false := by simp; omega
       have hd' : heardB t a i = false := by rw [hd]; simp [e2]
       simp only [hA, hh, hr', hd', Bool.and_true, Bool.true_and, Bool.and_false, Bool.false_and] at ih' L
       apply WPL_step
       conv => arg 4; whnf
       simp [hit, Hi, hA]
       refine L _ ?_
       simp [Hi, hw, hw1, hw2, hw3, hw4, Ct, Ca, hit, hia, irow, m1, m2]
       simpa [irow] using ih'
     ·have m1 : (((t.count t[i] : Nat) : Int) == 1) = false := by simp; omega
      have hd' : heardB t a i = false := by rw [hd]; simp [e1]
      simp only [hA, hh, hr', hd', Bool.and_true, Bool.true_and, Bool.and_false, Bool.false_and] at ih' L
      apply WPL_step
      conv => arg 4; whnf
      simp [hit, Hi, hA]
      refine L _ ?_
      simp [Hi, hw, hw1, hw2, hw3, hw4, Ct, Ca, hit, hia, irow, m1]
      simpa [irow] using ih'
    ·by_cases e1 : t.count t[i] = 1
     ·by_cases e2 : a.count a[i] = 1
      ·have m1 : (((t.count t[i] : Nat) : Int) == 1) = true := by simp [e1]
       have m2 : (((a.count a[i] : Nat) : Int) == 1) = true := by simp [e2]
       have hd' : heardB t a i = true := by rw [hd, e1, e2]; rfl
       simp only [hA, hh, hr', hd', Bool.and_true, Bool.true_and, Bool.and_false, Bool.false_and] at ih' L
       apply WPL_step
       conv => arg 4; whnf
       simp [hit, Hi, hA]
       refine L _ ?_
       simp [Hi, hw, hw1, hw2, hw3, hw4, Ct, Ca, hit, hia, irow, m1, m2]
       simpa [irow] using ih'
      ·have m1 : (((t.count t[i] : Nat) : Int) == 1) = true := by simp [e1]
       have m2 : (((a.count a[i] : Nat) : Int) == 1) = false := by simp; omega
       have hd' : heardB t a i = false := by rw [hd]; simp [e2]
       simp only [hA, hh, hr', hd', Bool.and_true, Bool.true_and, Bool.and_false, Bool.false_and] at ih' L
       apply WPL_step
       conv => arg 4; whnf
       simp [hit, Hi, hA]
       refine L _ ?_
       simp [Hi, hw, hw1, hw2, hw3, hw4, Ct, Ca, hit, hia, irow, m1, m2]
       simpa [irow] using ih'
     ·have m1 : (((t.count t[i] : Nat) : Int) == 1) = false := by simp; omega
      have hd' : heardB t a i = false := by rw [hd]; simp [e1]
      simp only [hA, hh, hr', hd', Bool.and_true, Bool.true_and, Bool.and_false, Bool.false_and] at ih' L
      apply WPL_step
      conv => arg 4; whnf
      simp [hit, Hi, hA]
      refine L _ ?_
      simp [Hi, hw, hw1, hw2, hw3, hw4, Ct, Ca, hit, hia, irow, m1]
      simpa [irow] using ih'
   ·rw [hh] at hd Hi hr
    simp only [Bool.false_and] at hd hr
    simp only [hA, hh, hr, hd, Bool.and_true, Bool.true_and, Bool.and_false, Bool.false_and] at ih' L
    apply WPL_step
    conv => arg 4; whnf
    simp [hit, Hi, hA]
    refine L _ ?_
    simp [Hi, hw]
    simpa [irow] using ih'
section
variable {c : Nat} {H : Heap}
theorem rowX (x : Score) : x.row = [.int .i64 x.points, .int .i64 x.packets, .int .i64 x.wrong, .int .i64 x.pairs, .int .i64 x.new, .int .i64 x.whole, .int .i64 x.start, .int .i64 x.honour] := rfl
theorem mark_ok (s : Scoring) (t a : List Int) (hl : a.length = t.length) (h0 : t ≠ []) (hn : t.length ≤ 9) (hH : 0 < H.length) :
  gcall KC (geval KC) 98 [.pure (.agg s.row), .pure (.agg [.slice (t.map irow), .slice (a.map irow)])] c H = some (.pure (.agg (markF s t a).row), H) := by
 refine WPv_eq (call_enter KC needT Tryz.func98 rfl rfl good98 rfl rfl rfl (by simp) hH ?_)
 have L := fun Q h1 => packets_loop (H := H) s t a hl hn Q h1 t.length 0 (by omega)
 have ha0 : a ≠ [] := fun e => h0 (List.length_eq_zero_iff.1 (by rw [← hl, e]; rfl))
 have Ct := fun c (H : Heap) (hH : 0 < H.length) => contains_ok (c := c) (H := H) a (-1) (by omega) hH
 have Of := fun c (H : Heap) (hH : 0 < H.length) => Of_ok (c := c) (H := H) a (by omega) hH
 have eo : ofT a = [.slice ((numL a []).map irow), .int .i64 0] := by
  unfold ofT
  rw [if_neg (by rw [hl]; exact fun e => h0 (List.length_eq_zero_iff.1 e)), if_neg (by omega)]
 rw [eo] at Of
 have M := fun c (H : Heap) (hH : 0 < H.length) => Moves_ok (c := c) (H := H) (numL a []) t (by rw [numL_len]; omega) (by omega) hH
 rw [movT_eq] at M
 rw [rowS]
 have e0 : bareF t a 0 = ⟨0, 0, 0, 0, 0, 0, 0, 0⟩ := rfl
 rw [e0] at L
 simp only [allR, mkFr, sbox, shbox, zx, xbox] at L
 simp at L
 simp
 refine L _ ?_
 rw [rowX]
 unfold markF ptsW wholeF honF bareF W
 simp only
 by_cases hA : allR t a t.length = true
 ·by_cases hc : a.contains (-1) = true
  ·simp only [hc] at Ct
   have hc' : -1 ∈ a := by simpa using hc
   simp [hA, Ct, hc', gleave_free]
  ·have hc2 : a.contains (-1) = false := by simpa using hc
   simp only [hc2] at Ct
   have hc' : ¬ -1 ∈ a := by simpa using hc
   simp [hA, Ct, hc', Of, M, gleave_free]
 ·have hA' : allR t a t.length = false := by simpa using hA
  by_cases hc : a.contains (-1) = true
  ·simp only [hc] at Ct
   have hc' : -1 ∈ a := by simpa using hc
   simp [hA', Ct, hc', gleave_free]
  ·have hc2 : a.contains (-1) = false := by simpa using hc
   simp only [hc2] at Ct
   have hc' : ¬ -1 ∈ a := by simpa using hc
   simp [hA', Ct, hc', Of, M, gleave_free]
end
section
variable {c : Nat} {H : Heap}
theorem firstE_rng : ∀ l : List Int, firstE ansE l = 0 → ∀ x ∈ l, -1 ≤ x ∧ x ≤ 8
 | [], _, x, hx => absurd hx List.not_mem_nil
 | y :: r, h, x, hx => by
  simp only [firstE] at h
  split at h
  ·rename_i h1; exact absurd h h1
  ·rename_i h1
   rcases List.mem_cons.1 hx with rfl | hx
   ·unfold ansE at h1
    split at h1
    ·rename_i h2; exact inB_iff.1 h2
    ·exact absurd (by decide) h1
   ·exact firstE_rng r h x hx
theorem wrF_zero {l : List Int} {n : Nat} (h : wrF l n = 0) : l.length = n ∧ ∀ x ∈ l, -1 ≤ x ∧ x ≤ 8 := by
 unfold wrF at h
 split at h
 ·cases h
 ·rename_i h1
  exact ⟨by omega, firstE_rng l h⟩
end
section
variable {c : Nat} {H : Heap}
def arow (l : List Int) : List PV := [.slice (l.map irow)]
def fltL (n : Int) : List (List Int) → Int
 | [] => 0
 | a :: r => if wrF a n ≠ 0 then wrF a n else fltL n r
def sbx (s : Scoring) : Fr := [(3, .box (s.row.map .pure))]
theorem rank_loop1 (s : Scoring) (t : List Int) (hp : PartOk t) (A : List (List Int)) (hA : A.length ≤ 12) (bA : ∀ a ∈ A, a.length ≤ 1000000) (Q : GX → GSt → Prop) : ∀ m q : Nat, q + m = A.length → ∀ l : List Score, l = (A.take q).map (markF s t) →
  (fltL t.length (A.drop q) = 0 → Q (.exit 0) ⟨[(3, .bptr (H.length, 3) 0), (6, apS (H.length, 50) 8 ((A.map (markF s t)).map Score.row)), (7, .nils), (8, gdead)], apF 50 8 ((A.map (markF s t)).map Score.row) (sbx s) :: H, 77⟩) →
  (∀ e fr, e ≠ 0 → fltL t.length (A.drop q) = e → Q .ret ⟨[(3, .bptr (H.length, 3) 0), (6, .nils), (7, .nils), (8, .pure (.int .i64 e))], fr :: H, 77⟩) →
  WPL KC needT 63 (lp Tryz.f63 0) [1, 3, 6, 7, 30, 31, 32] [3, 6, 7, 8] Q [(1, .pure (.slice (t.map irow))), (3, .bptr (H.length, 3) 0), (6, apS (H.length, 50) 8 (l.map Score.row)), (7, .nils), (30, .pure (.slice (A.map arow))), (31, .pure (.int .i64 (A.length : Nat))), (32, .pure (.int .i64 (q : Nat)))] (apF 50 8 (l.map Score.row) (sbx s) :: H) 77 := by
 intro m
 induction m with
 | zero =>
  intro q hq l hl h1 h2
  have hn : ¬ q < A.length := by omega
  have e : A.drop q = [] := List.drop_eq_nil_of_le (by omega)
  rw [e] at h1 h2
  have e2 : A.take q = A := List.take_of_length_le (by omega)
  rw [e2] at hl
  subst hl
  apply WPL_step
  conv => arg 4; whnf
  simp [hn, sbx]
  simpa [sbx, gdead] using h1 rfl
 | succ m ih =>
  intro q hq l hl h1 h2
  have hia : q < A.length := by omega
  have hw := w64 (x := (q : Int) + 1) (by omega) (by omega)
  have hlen := bA _ (List.getElem_mem hia)
  have hll : l.length = q := by rw [hl]; simp; omega
  have C := fun c (H : Heap) (hH : 0 < H.length) => written_ok (c := c) (H := H) A[q] t.length hlen hH
  rw [List.drop_eq_getElem_cons hia] at h1 h2
  simp only [fltL] at h1 h2
  by_cases g : wrF A[q] t.length = 0
  ·simp only [if_neg (not_not_intro g)] at h1 h2
   obtain ⟨e1, e2⟩ := wrF_zero g
   have ih' := ih (q + 1) (by omega) (l ++ [markF s t A[q]]) (by rw [hl, ← List.take_append_getElem hia, List.map_append]; rfl) h1 h2
   have M := fun c (H : Heap) (hH : 0 < H.length) => mark_ok (c := c) (H := H) s t A[q] e1 hp.ne hp.le hH
   have hb : (l.length + 1) * 64 ≤ 1099511627776 := by omega
   have K := fun f0 (x : Score) => apK_1 (H := H) (l := H.length) (key := 50) (es := 8) (bytes := 64) (rows := l.map Score.row) (r := x.row) (fr := sbx s) (f0 := f0) rfl rfl (by simpa using hb)
   simp only [sbx, rowS, List.map_cons, List.map_nil] at K
   rw [rowS] at M
   simp only [rowX] at M K
   rw [g] at C
   apply WPL_step
   conv => arg 4; whnf
   simp [hia, arow, hw, C, M, K, sbx, rowS]
   simpa [arow, sbx, rowS, rowX] using ih'
  ·simp only [if_pos g] at h1 h2
   have h2 := fun fr => h2 _ fr g rfl
   have g' : (wrF A[q] t.length != 0) = true := by simpa using g
   apply WPL_step
   conv => arg 4; whnf
   simp [hia, arow, hw, C, g, g', sbx, rowS]
   exact h2 _
end
section
variable {c : Nat} {H : Heap}
structure Tab where
 packets : Int
 passed : Int
 state : Int
 answers : List (List Int)
def Tab.row (t : Tab) : List PV := [.int .i64 t.packets, .int .i64 t.passed, .int .i64 t.state, .slice (t.answers.map arow)]
def tb (t : Tab) : Blk := .box [.pure (.int .i64 t.packets), .pure (.int .i64 t.passed), .pure (.int .i64 t.state), .pure (.slice (t.answers.map arow))]
def Sm (t : Tab) : Prop := t.answers.length ≤ 1000000 ∧ ∀ a ∈ t.answers, a.length ≤ 1000000
def rowE (p q : Int) (a : List Int) : Int := if wrF a p ≠ 0 then wrF a p else if ((a.drop q.toNat).count (-1) : Int) < p - q then 13 else 0
def rowsE (p q : Int) : List (List Int) → Int
 | [] => 0
 | a :: r => if rowE p q a ≠ 0 then rowE p q a else rowsE p q r
def chkT (t : Tab) : Int :=
 if inB t.packets 1 9 = false then 2 else if inB t.passed 0 t.packets = false then 2 else if inB t.state 1 4 = false then 4 else if t.answers.length = 0 then 6 else if 12 < t.answers.length then 8
 else if rowsE t.packets t.passed t.answers ≠ 0 then rowsE t.packets t.passed t.answers else if 3 ≤ t.state ∧ t.passed < t.packets then 10 else 0
theorem wrF_len {a : List Int} {n : Int} (h : wrF a n = 0) : (a.length : Int) = n := by
 unfold wrF at h
 split at h
 ·simp at h
 ·omega
theorem chkT_loop (t : Tab) (hs : Sm t) (hp : 1 ≤ t.packets ∧ t.packets ≤ 9) (hq : 0 ≤ t.passed ∧ t.passed ≤ t.packets) (Q : GX → GSt → Prop) (hH : 0 < H.length) : ∀ k i : Nat, i + k = t.answers.length →
  (rowsE t.packets t.passed (t.answers.drop i) = 0 → Q (.exit 1) ⟨[(1, .bptr (H.length, 1) 0), (2, gdead)], [(1, tb t)] :: H, 68⟩) →
  (rowsE t.packets t.passed (t.answers.drop i) ≠ 0 → Q .ret ⟨[(1, .bptr (H.length, 1) 0), (2, .pure (.int .i64 (rowsE t.packets t.passed (t.answers.drop i))))], [(1, tb t)] :: H, 68⟩) →
  WPL KC needT 65 (lp Tryz.f65 0) [1, 33, 34, 35] [1, 2] Q [(1, .bptr (H.length, 1) 0), (33, .pure (.slice (t.answers.map arow))), (34, .pure (.int .i64 t.answers.length)), (35, .pure (.int .i64 i))] ([(1, tb t)] :: H) 68 := by
 intro k
 induction k with
 | zero =>
  intro i hi h1 h2
  rw [drop_nil (by omega)] at h1
  apply WPL_step
  conv => arg 4; whnf
  have : ¬ i < t.answers.length := by omega
  simp [this, hH, tb]
  exact h1 rfl
 | succ k ih =>
  intro i hi h1 h2
  have hs1 := hs.1
  have hia : i < t.answers.length := by omega
  have hw := w64 (x := (i : Int) + 1) (by omega) (by omega)
  have hla := hs.2 _ (List.getElem_mem hia)
  rw [drop_cons hia] at h1 h2
  unfold rowsE at h1 h2
  obtain ⟨a, ha⟩ : ∃ a, t.answers[i] = a := ⟨_, rfl⟩
  rw [ha] at h1 h2 hla
  have W := fun c (H : Heap) (hH : 0 < H.length) => written_ok (c := c) (H := H) a t.packets hla hH
  have C := fun c (H : Heap) (hH : 0 < H.length) => count_ok (c := c) (H := H) (a.drop t.passed.toNat) (-1) (by simp; omega) hH
  rw [List.map_drop] at C
  have hall : ∀ x : Int, (irow x).length = 1 := fun x => rfl
  have hw2 := w64 (x := t.packets - t.passed) (by omega) (by omega)
  have hq0 : ¬ t.passed < 0 := by omega
  apply WPL_step
  conv => arg 4; whnf
  by_cases he : wrF a t.packets = 0
  ·have hlen := wrF_len he
   have e1 : rowE t.packets t.passed a = if ((a.drop t.passed.toNat).count (-1) : Int) < t.packets - t.passed then 13 else 0 := by unfold rowE; rw [if_neg (by simpa using he)]
   have hq1 : t.passed.toNat ≤ a.length := by omega
   have htk : (a.map irow).take a.length = a.map irow := List.take_of_length_le (by simp)
   generalize hcn : ((a.drop t.passed.toNat).count (-1) : Nat) = cn at *
   by_cases hc : (cn : Int) < t.packets - t.passed
   ·rw [if_pos hc] at e1
    rw [e1] at h2
    simp [hia, ha, arow, hH, tb, W, C, he, hq0, hq1, htk, hall, hw2, hc]
    exact h2 (by simp)
   ·rw [if_neg hc] at e1
    rw [e1] at h1 h2
    simp only [ne_eq, not_true_eq_false, if_false] at h1 h2
    have ih' := ih (i + 1) (by omega) h1 h2
    simp [hia, ha, arow, hH, tb, W, C, he, hq0, hq1, htk, hall, hw2, hc, hw]
    simpa [arow, tb] using ih'
  ·have e1 : rowE t.packets t.passed a = wrF a t.packets := by unfold rowE; rw [if_pos he]
   rw [e1] at h2
   have he' : (wrF a t.packets != 0) = true := by simpa using he
   rw [if_pos he] at h2
   simp [hia, ha, arow, hH, tb, W, he']
   exact h2 he
theorem chkT_ok (t : Tab) (hs : Sm t) (hH : 0 < H.length) : gcall KC (geval KC) 65 [.pure (.agg t.row)] c H = some (.pure (.int .i64 (chkT t)), H) := by
 refine WPv_eq (call_enter KC needT Tryz.func65 rfl rfl good65 rfl rfl rfl (by simp) hH ?_)
 have hs1 := hs.1
 have W := fun c (H : Heap) (hH : 0 < H.length) (x lo hi : Int) => withinP_ok (c := c) (x := x) (lo := lo) (hi := hi) (H := H) hH
 unfold chkT
 by_cases h1 : inB t.packets 1 9 = false
 ·simp [Tab.row, W, h1, gleave_free]
 have h1' : inB t.packets 1 9 = true := by simpa using h1
 by_cases h2 : inB t.passed 0 t.packets = false
 ·simp [Tab.row, W, h1', h2, gleave_free]
 have h2' : inB t.passed 0 t.packets = true := by simpa using h2
 by_cases h3 : inB t.state 1 4 = false
 ·simp [Tab.row, W, h1', h2', h3, gleave_free]
 have h3' : inB t.state 1 4 = true := by simpa using h3
 by_cases h4 : t.answers.length = 0
 ·have h5 : t.answers = [] := List.length_eq_zero_iff.1 h4
  simp [Tab.row, W, h1', h2', h3', h5, gleave_free]
 have h4' : ((t.answers.length : Int) == 0) = false := by simp; exact fun e => h4 (by rw [e]; rfl)
 have h4'' : ¬ t.answers = [] := fun e => h4 (by rw [e]; rfl)
 by_cases h5 : 12 < t.answers.length
 ·have h6 : (12 : Int) < t.answers.length := by omega
  simp [Tab.row, W, h1', h2', h3', h4, h4', h4'', h5, h6, gleave_free]
 have h6 : ¬ (12 : Int) < t.answers.length := by omega
 have r1 := inB_iff.1 h1'
 have r2 := inB_iff.1 h2'
 have L := fun Q => chkT_loop (H := H) t hs ⟨by omega, by omega⟩ ⟨by omega, by omega⟩ Q hH t.answers.length 0 (by omega)
 simp [tb] at L
 simp [Tab.row, W, h1', h2', h3', h4, h4', h4'', h5, h6]
 refine L _ (fun h => ?_) (fun h => ?_)
 ·by_cases h7 : 3 ≤ t.state
  ·by_cases h8 : t.passed < t.packets
   ·simp [h, h7, h8, gleave_free]
   ·simp [h, h7, h8, gleave_free]
  ·simp [h, h7, gleave_free]
 ·simp [h, gleave_free]
def lateOk (a : List Int) : Bool := a.all fun x => x == -1
theorem all_count (l : List Int) : lateOk l = true ↔ l.count (-1) = l.length := by
 unfold lateOk
 rw [List.count_eq_length]
 simp only [List.all_eq_true, beq_iff_eq]
 exact ⟨fun h x hx => (h x hx).symm, fun h x hx => (h x hx).symm⟩
theorem rowE_late {a : List Int} {p q : Int} (h : (a.length : Int) = p) (hw : wrF a p = 0) (hq : 0 ≤ q ∧ q ≤ p) : rowE p q a = if lateOk (a.drop q.toNat) = true then 0 else 13 := by
 unfold rowE
 rw [if_neg (by simpa using hw)]
 have hl : ((a.drop q.toNat).length : Int) = p - q := by simp; omega
 have hc : (a.drop q.toNat).count (-1) ≤ (a.drop q.toNat).length := List.count_le_length
 by_cases hall : lateOk (a.drop q.toNat) = true
 ·have := (all_count _).1 hall
  rw [if_pos hall, if_neg (by omega)]
 ·have : (a.drop q.toNat).count (-1) ≠ (a.drop q.toNat).length := fun e => hall ((all_count _).2 e)
  rw [if_neg hall, if_pos (by omega)]
end
section
variable {c : Nat} {H : Heap}
def tableW : List UInt8 := [116, 97, 98, 108, 101]
def guestW : List UInt8 := [103, 117, 101, 115, 116]
def endW : List UInt8 := [101, 110, 100]
def stW (s : Int) : List UInt8 := if s = 1 then [111, 112, 101, 110] else if s = 2 then [112, 97, 117, 115, 101, 100] else if s = 3 then [99, 108, 111, 115, 101, 100] else [115, 104, 111, 119, 110]
def cellS (n : Int) : List UInt8 := if n < 0 then [32, 45] else 32 :: itoaL n
def gRow (a : List Int) : List UInt8 := guestW ++ a.flatMap cellS ++ [10]
def headS (t : Tab) : List UInt8 := tableW ++ 32 :: itoaL t.packets ++ 32 :: itoaL t.passed ++ 32 :: stW t.state ++ [10]
def lastS (n : Nat) : List UInt8 := endW ++ 32 :: itoaL (n : Int) ++ [10]
def saveS (t : Tab) : List UInt8 := headS t ++ t.answers.flatMap gRow ++ lastS t.answers.length
theorem stW_len (s : Int) : (stW s).length ≤ 6 := by
 unfold stW
 split
 ·simp
 ·split
  ·simp
  ·split <;> simp
theorem cellS_len (n : Int) : (cellS n).length ≤ 22 := by
 have := itoaL_len n
 unfold cellS
 split
 ·simp
 ·simp; omega
theorem gRow_len (a : List Int) : (gRow a).length ≤ 22 * a.length + 6 := by
 have := flat_len cellS_len a
 unfold gRow
 simp [guestW] at this ⊢
 omega
theorem headS_len (t : Tab) : (headS t).length ≤ 60 := by
 have h1 := itoaL_len t.packets
 have h2 := itoaL_len t.passed
 have h3 := stW_len t.state
 unfold headS
 simp [tableW]
 omega
theorem lastS_len (n : Nat) : (lastS n).length ≤ 30 := by
 have h1 := itoaL_len n
 unfold lastS
 simp [endW]
 omega
theorem rows_len {m : Nat} : ∀ {l : List (List Int)}, (∀ a ∈ l, a.length ≤ m) → (l.flatMap gRow).length ≤ (22 * m + 6) * l.length
 | [], _ => by simp
 | a :: l, h => by
  have h1 := rows_len fun b hb => h b (List.mem_cons_of_mem _ hb)
  have h2 := gRow_len a
  have h3 := h a List.mem_cons_self
  have h4 : 22 * a.length ≤ 22 * m := Nat.mul_le_mul_left _ h3
  simp only [List.flatMap_cons, List.length_append, List.length_cons, Nat.mul_add]
  omega
theorem tyB_ne : kB ≠ kA := by rw [kB_def, kA_def]; simp
theorem ty1A : (1 : Nat) ≠ kA := by rw [kA_def]; simp
theorem ty1B : (1 : Nat) ≠ kB := by rw [kB_def]; simp
@[simp] theorem ev_g0 {s : Slots} : ev s (.global 0) = .pptr [.str [], .str [111, 112, 101, 110], .str [112, 97, 117, 115, 101, 100], .str [99, 108, 111, 115, 101, 100], .str [115, 104, 111, 119, 110]] := by
 have e : globs 0 = some [.str [], .str [111, 112, 101, 110], .str [112, 97, 117, 115, 101, 100], .str [99, 108, 111, 115, 101, 100], .str [115, 104, 111, 119, 110]] := by kernel_rfl
 show (match globs 0 with | some cs => GV.pptr cs | none => gdead) = _
 rw [e]
theorem wr_up1 {kb : Nat} {F f0 : Fr} {l s : List UInt8} (hB : Bl (F :: H) (H.length, kb) l) (hs : s ≠ []) (hn : l.length + s.length ≤ 1099511627776) :
  gcall KC (geval KC) 50 [.bptr (H.length, kb) 0, .pure (.str s)] c (f0 :: F :: H) = some (.pure (.tuple [.int .i64 s.length, .nili]), f0 :: setF F kA kb H.length (l ++ s) :: H) := by
 rw [write_ok hB.up hs hn, setB_up (by simp), setB_top]
theorem wr_top {kb : Nat} {F : Fr} {l s : List UInt8} (hB : Bl (F :: H) (H.length, kb) l) (hs : s ≠ []) (hn : l.length + s.length ≤ 1099511627776) :
  gcall KC (geval KC) 50 [.bptr (H.length, kb) 0, .pure (.str s)] c (F :: H) = some (.pure (.tuple [.int .i64 s.length, .nili]), setF F kA kb H.length (l ++ s) :: H) := by
 rw [write_ok hB hs hn, setB_top]
theorem wr_up2 {kb : Nat} {F f0 f1 : Fr} {l s : List UInt8} (hB : Bl (F :: H) (H.length, kb) l) (hs : s ≠ []) (hn : l.length + s.length ≤ 1099511627776) :
  gcall KC (geval KC) 50 [.bptr (H.length, kb) 0, .pure (.str s)] c (f1 :: f0 :: F :: H) = some (.pure (.tuple [.int .i64 s.length, .nili]), f1 :: f0 :: setF F kA kb H.length (l ++ s) :: H) := by
 rw [write_ok hB.up.up hs hn, setB_up (by simp; omega), setB_up (by simp), setB_top]
theorem sv_cells (a : List Int) (ha : a.length ≤ 1000) (har : ∀ n ∈ a, -1 ≤ n ∧ n ≤ 1000) (p33 p34 p35 : PV) (kb : Nat) (Q : GX → GSt → Prop) : ∀ (k i : Nat) (l : List UInt8) (F f0 : Fr), i + k = a.length → Bl (F :: H) (H.length, kb) l → l ≠ [] → l.length + 22 * k ≤ 1099511627776 →
  (Q (.exit 2) ⟨[(1, .bptr (H.length, 1) 0), (5, .bptr (H.length, kb) 0), (33, .pure p33), (34, .pure p34), (35, .pure p35)], f0 :: (if i < a.length then setF F kA kb H.length (l ++ (a.drop i).flatMap cellS) else F) :: H, 64⟩) →
  WPL KC needT 20 (lp Tryz.f20 1) [1, 5, 33, 34, 35, 40, 41, 42] [1, 5, 33, 34, 35] Q [(1, .bptr (H.length, 1) 0), (5, .bptr (H.length, kb) 0), (33, .pure p33), (34, .pure p34), (35, .pure p35), (40, .pure (.slice (a.map irow))), (41, .pure (.int .i64 a.length)), (42, .pure (.int .i64 i))] (f0 :: F :: H) 64 := by
 intro k
 induction k with
 | zero =>
  intro i l F f0 hi hB hne hb h1
  have hia : ¬ i < a.length := by omega
  apply WPL_step
  conv => arg 4; whnf
  simp [hia]
  simpa [hia] using h1
 | succ k ih =>
  intro i l F f0 hi hB hne hb h1
  have hia : i < a.length := by omega
  have hw := w64 (x := (i : Int) + 1) (by omega) (by omega)
  have hd : a.drop i = a[i] :: a.drop (i + 1) := List.drop_eq_getElem_cons hia
  have hri := har a[i] (List.getElem_mem hia)
  have hs : (a.drop i).flatMap cellS = cellS a[i] ++ (a.drop (i + 1)).flatMap cellS := by rw [hd]; rfl
  rw [hs, ← List.append_assoc, if_pos hia] at h1
  have hcs := cellS_len a[i]
  have hc0 : cellS a[i] ≠ [] := by unfold cellS; split <;> simp
  have hB1 := hB.setF (l' := l ++ cellS a[i]) (by simp [hne])
  have ih' := ih (i + 1) (l ++ cellS a[i]) (setF F kA kb H.length (l ++ cellS a[i])) f0 (by omega) hB1 (by simp [hne]) (by simp; omega) (by
   split
   ·rw [setF_setF hB (by simp [hne])]; exact h1
   ·have : a.drop (i + 1) = [] := List.drop_eq_nil_of_le (by omega)
    rw [this] at h1
    simpa using h1)
  have hp := fun f1 c => wr_up2 (c := c) (f0 := f0) (f1 := f1) (s := cellS a[i]) hB hc0 (by omega)
  apply WPL_step
  conv => arg 4; whnf
  have il := itoaL_len a[i]
  by_cases hn : a[i] < 0
  ·have e1 : cellS a[i] = [32, 45] := by unfold cellS; rw [if_pos hn]
   rw [e1] at ih' hp
   simp at hp ih'
   simp [hia, irow, hn, hp, hw]
   simpa using ih'
  ·have e1 : cellS a[i] = 32 :: itoaL a[i] := by unfold cellS; rw [if_neg hn]
   rw [e1] at ih' hp
   have hI : ∀ c G, 0 < List.length G → gcall KC (geval KC) 51 [.pure (.int .i64 a[i])] c G = some (.pure (.str (itoaL a[i])), G) := fun c G hG => itoa_ok (by omega) (by omega) hG
   have l1 : (itoaL a[i]).length + 1 ≤ 4611686018427387904 := by omega
   have l2 : 1 + (itoaL a[i]).length ≤ 4611686018427387904 := by omega
   simp at hp ih'
   simp [hia, irow, hn, hp, hw, hI, l1, l2]
   simpa using ih'
theorem sv_rows (t : Tab) (hl : t.answers.length ≤ 1000) (ha : ∀ a ∈ t.answers, a.length ≤ 1000 ∧ ∀ n ∈ a, -1 ≤ n ∧ n ≤ 1000) (kb : Nat) (Q : GX → GSt → Prop) : ∀ (k i : Nat) (l : List UInt8) (F : Fr), i + k = t.answers.length → Bl (F :: H) (H.length, kb) l → l ≠ [] → l.length + 22006 * k ≤ 1099511627776 →
  (Q (.exit 0) ⟨[(1, .bptr (H.length, 1) 0), (5, .bptr (H.length, kb) 0)], (if i < t.answers.length then setF F kA kb H.length (l ++ (t.answers.drop i).flatMap gRow) else F) :: H, 64⟩) →
  WPL KC needT 20 (lp Tryz.f20 0) [1, 5, 33, 34, 35] [1, 5] Q [(1, .bptr (H.length, 1) 0), (5, .bptr (H.length, kb) 0), (33, .pure (.slice (t.answers.map arow))), (34, .pure (.int .i64 t.answers.length)), (35, .pure (.int .i64 i))] (F :: H) 64 := by
 intro k
 induction k with
 | zero =>
  intro i l F hi hB hne hb h1
  have hia : ¬ i < t.answers.length := by omega
  apply WPL_step
  conv => arg 4; whnf
  simp [hia]
  simpa [hia] using h1
 | succ k ih =>
  intro i l F hi hB hne hb h1
  have hia : i < t.answers.length := by omega
  have hw := w64 (x := (i : Int) + 1) (by omega) (by omega)
  have hd : t.answers.drop i = t.answers[i] :: t.answers.drop (i + 1) := List.drop_eq_getElem_cons hia
  have hri := ha t.answers[i] (List.getElem_mem hia)
  generalize hA : t.answers[i] = a at *
  have hs : (t.answers.drop i).flatMap gRow = gRow a ++ (t.answers.drop (i + 1)).flatMap gRow := by rw [hd]; rfl
  rw [hs, ← List.append_assoc, if_pos hia] at h1
  have hcs := gRow_len a
  have hc0 : gRow a ≠ [] := by unfold gRow; simp [guestW]
  have hcl := flat_len cellS_len a
  have hB1 := hB.setF (l' := l ++ guestW) (by simp [hne])
  have hB2 := hB.setF (l' := l ++ guestW ++ a.flatMap cellS) (by simp [hne])
  have hB3 := hB.setF (l' := l ++ gRow a) (by simp [hne])
  have ih' := ih (i + 1) (l ++ gRow a) (setF F kA kb H.length (l ++ gRow a)) (by omega) hB3 (by simp [hne]) (by simp; omega) (by
   split
   ·rw [setF_setF hB (by simp [hne])]; exact h1
   ·have : t.answers.drop (i + 1) = [] := List.drop_eq_nil_of_le (by omega)
    rw [this] at h1
    simpa using h1)
  have hp1 := fun f0 c => wr_up1 (c := c) (f0 := f0) (s := guestW) hB (by simp [guestW]) (by simp [guestW]; omega)
  have hp2 := fun f0 c => wr_up1 (c := c) (f0 := f0) (s := [10]) hB2 (by simp) (by simp [guestW] at hcl ⊢; omega)
  have e3 : l ++ guestW ++ a.flatMap cellS ++ [10] = l ++ gRow a := by simp [gRow]
  rw [e3, setF_setF hB (by simp [hne])] at hp2
  apply WPL_step
  conv => arg 4; whnf
  have h0 := fun f0 Q hq => sv_cells (H := H) a hri.1 hri.2 (.slice (t.answers.map arow)) (.int .i64 t.answers.length) (.int .i64 i) kb Q a.length 0 (l ++ guestW) (setF F kA kb H.length (l ++ guestW)) f0 (by omega) hB1 (by simp [hne]) (by simp [guestW]; omega) hq
  have eF : (if 0 < a.length then setF (setF F kA kb H.length (l ++ guestW)) kA kb H.length (l ++ guestW ++ (a.drop 0).flatMap cellS) else setF F kA kb H.length (l ++ guestW)) = setF F kA kb H.length (l ++ guestW ++ a.flatMap cellS) := by
   split
   ·rw [setF_setF hB (by simp [hne]), List.drop_zero]
   ·have : a = [] := List.length_eq_zero_iff.1 (by omega)
    subst this
    simp
  simp only [eF] at h0
  simp only [List.append_assoc] at hp2
  simp [guestW] at hp1
  simp [hia, arow, hA, hp1]
  refine h0 _ _ ?_
  simp [hp2, hw]
  simpa using ih'
theorem chkT_good {t : Tab} (h : chkT t = 0) : 1 ≤ t.packets ∧ t.packets ≤ 9 ∧ 0 ≤ t.passed ∧ t.passed ≤ t.packets ∧ 1 ≤ t.state ∧ t.state ≤ 4 ∧ t.answers ≠ [] ∧ t.answers.length ≤ 12 ∧ rowsE t.packets t.passed t.answers = 0 := by
 unfold chkT at h
 split at h
 ·omega
 ·split at h
  ·omega
  ·split at h
   ·omega
   ·split at h
    ·omega
    ·split at h
     ·omega
     ·split at h
      ·omega
      ·rename_i h1 h2 h3 h4 h5 h6
       simp [inB] at h1 h2 h3
       refine ⟨by omega, by omega, by omega, by omega, by omega, by omega, fun e => h4 (by rw [e]; rfl), by omega, by omega⟩
theorem rowsE_mem {p q : Int} : ∀ {l : List (List Int)}, rowsE p q l = 0 → ∀ a ∈ l, rowE p q a = 0
 | x :: l, h, a, ha => by
  unfold rowsE at h
  split at h
  ·rename_i hx; exact absurd h hx
  ·rename_i hx
   rcases List.mem_cons.1 ha with rfl | ha
   ·omega
   ·exact rowsE_mem h a ha
theorem save0 (t : Tab) (hs : Sm t) (hH : 0 < H.length) (h0 : chkT t = 0) (ha : ∀ a ∈ t.answers, a.length ≤ 1000 ∧ ∀ n ∈ a, -1 ≤ n ∧ n ≤ 1000) : gcall KC (geval KC) 20 [.pure (.agg t.row)] c H = some (.pure (.tuple [.str (saveS t), .int .i64 0]), H) := by
 refine WPv_eq (call_enter KC needT Tryz.func20 rfl rfl good20 rfl rfl rfl (by simp) hH ?_)
 have hC := fun c G (hG : 0 < List.length G) => chkT_ok (c := c) (H := G) t hs hG
 rw [h0] at hC
 obtain ⟨g1, g2, g3, g4, g5, g6, g7, g8, g9⟩ := chkT_good h0
 have hI : ∀ n : Int, 0 ≤ n ∧ n ≤ 1000 → ∀ c G, 0 < List.length G → gcall KC (geval KC) 51 [.pure (.int .i64 n)] c G = some (.pure (.str (itoaL n)), G) := fun n hn c G hG => itoa_ok (by omega) (by omega) hG
 have hI1 := hI t.packets (by omega)
 have hI2 := hI t.passed (by omega)
 have hI3 := hI t.answers.length (by omega)
 have k1 := itoaL_len t.packets
 have k2 := itoaL_len t.passed
 unfold Tab.row at hC
 have hst : t.state = 1 ∨ t.state = 2 ∨ t.state = 3 ∨ t.state = 4 := by omega
 have hhd : headS t = tableW ++ 32 :: itoaL t.packets ++ 32 :: itoaL t.passed ++ 32 :: stW t.state ++ [10] := rfl
 unfold saveS
 rw [hhd]
 generalize itoaL t.packets = P at *
 generalize itoaL t.passed = R at *
 have f1 : ∀ k, 1000 ≤ k → P.length ≤ k := fun k hk => by omega
 have f2 : ∀ k, 1000 ≤ k → P.length + R.length ≤ k := fun k hk => by omega
 have f3 : ∀ m k, m ≤ 100 → 1000 ≤ k → P.length + m + R.length ≤ k := fun m k h1 h2 => by omega
 have f4 : ∀ m k, m ≤ 100 → 1000 ≤ k → P.length + (R.length + m) ≤ k := fun m k h1 h2 => by omega
 have f6 : P.length + 1 + 1 + 1 + 1 + 1 + 1 + 1 + R.length ≤ 4611686018427387904 := by omega
 have f5 : ∀ m k, m ≤ 100 → 1000 ≤ k → m + P.length ≤ k := fun m k h1 h2 => by omega
 have f7 : ∀ k, 1000 ≤ k → P.length + (R.length + 1 + 1) ≤ k := fun k hk => by omega
 have hne1 : kB ≠ kA := tyB_ne
 have hkB : kB = 1329227995784915872903807060280774661 := by rw [kB_def]; simp
 have hbx : ∀ x : GV, Fr.get ([(1, .box [.pure (.int .i64 t.packets), .pure (.int .i64 t.passed), x, .pure (.slice (t.answers.map arow))]), (kB, .box [.pure .nilp, .nils])] : Fr) 1 = some (.box [.pure (.int .i64 t.packets), .pure (.int .i64 t.passed), x, .pure (.slice (t.answers.map arow))]) := fun x => by simp
 have hB0 : ∀ x : GV, Bl (([(1, .box [.pure (.int .i64 t.packets), .pure (.int .i64 t.passed), x, .pure (.slice (t.answers.map arow))]), (kB, .box [.pure .nilp, .nils])] : Fr) :: H) (H.length, kB) [] := fun x => by
  refine ⟨⟨by simp, hne1, ⟨_, .inl rfl, ?_⟩, fun h => absurd rfl h, fun _ => ?_⟩, kB_name⟩
  ·simp [Ne.symm ty1B, apS_nil]
  ·simp [Ne.symm ty1A, Ne.symm hne1]
 have hd1 : ∀ (x : GV) (s : List UInt8), s ≠ [] → s.length ≤ 1000 → ∃ F1, (∀ c, gcall KC (geval KC) 50 [.bptr (H.length, 1329227995784915872903807060280774661) 0, .pure (.str s)] c ([(1, .box [.pure (.int .i64 t.packets), .pure (.int .i64 t.passed), x, .pure (.slice (t.answers.map arow))]), (1329227995784915872903807060280774661, .box [.pure .nilp, .nils])] :: H) = some (.pure (.tuple [.int .i64 s.length, .nili]), F1 :: H)) ∧
   Bl (F1 :: H) (H.length, 1329227995784915872903807060280774661) s ∧ F1.get 1 = some (.box [.pure (.int .i64 t.packets), .pure (.int .i64 t.passed), x, .pure (.slice (t.answers.map arow))]) := fun x s h1 h2 => by
  rw [← hkB]
  refine ⟨_, fun c => wr_top (c := c) (s := s) (hB0 x) h1 (by simp; omega), ?_, ?_⟩
  ·exact (hB0 x).setF h1
  ·rw [setF_get ty1A ty1B]; exact hbx x
 have rows : ∀ (F1 : Fr) (x : GV) (s : List UInt8), s ≠ [] → s.length ≤ 1000 → Bl (F1 :: H) (H.length, 1329227995784915872903807060280774661) s → F1.get 1 = some (.box [.pure (.int .i64 t.packets), .pure (.int .i64 t.passed), x, .pure (.slice (t.answers.map arow))]) →
   ∃ F2, Bl (F2 :: H) (H.length, 1329227995784915872903807060280774661) (s ++ t.answers.flatMap gRow) ∧ F2.get 1 = some (.box [.pure (.int .i64 t.packets), .pure (.int .i64 t.passed), x, .pure (.slice (t.answers.map arow))]) ∧
   ∀ Q : GX → GSt → Prop, Q (.exit 0) ⟨[(1, .bptr (H.length, 1) 0), (5, .bptr (H.length, 1329227995784915872903807060280774661) 0)], F2 :: H, 64⟩ → WPL KC needT 20 (lp Tryz.f20 0) [1, 5, 33, 34, 35] [1, 5] Q [(1, .bptr (H.length, 1) 0), (5, .bptr (H.length, 1329227995784915872903807060280774661) 0), (33, .pure (.slice (t.answers.map arow))), (34, .pure (.int .i64 t.answers.length)), (35, .pure (.int .i64 0))] (F1 :: H) 64 := fun F1 x s h1 h2 hB hE => by
  have hl0 : 0 < t.answers.length := List.length_pos_iff.2 g7
  refine ⟨setF F1 kA 1329227995784915872903807060280774661 H.length (s ++ t.answers.flatMap gRow), hB.setF (by simp [h1]), ?_, fun Q hq => ?_⟩
  ·rw [setF_get ty1A (by decide)]; exact hE
  ·have := sv_rows (H := H) t (by omega) ha 1329227995784915872903807060280774661 Q t.answers.length 0 s F1 (by omega) hB h1 (by omega) (by rw [if_pos hl0, List.drop_zero]; exact hq)
   simpa using this
 have hlr := rows_len (m := 1000) (fun a h => (ha a h).1)
 have hll := lastS_len t.answers.length
 have endk : ∀ (F2 : Fr) (l : List UInt8), Bl (F2 :: H) (H.length, 1329227995784915872903807060280774661) l → l.length ≤ 1000000000 → l ≠ [] → ∃ F3 F4, (∀ c, gcall KC (geval KC) 50 [.bptr (H.length, 1329227995784915872903807060280774661) 0, .pure (.str (lastS t.answers.length))] c (F2 :: H) = some (.pure (.tuple [.int .i64 (lastS t.answers.length).length, .nili]), F3 :: H)) ∧
   (∀ c, gcall KC (geval KC) 52 [.bptr (H.length, 1329227995784915872903807060280774661) 0] c (F3 :: H) = some (.pure (.str (l ++ lastS t.answers.length)), F4 :: H)) := fun F2 l hB hl hne => by
  have hq : lastS t.answers.length ≠ [] := by simp [lastS, endW]
  have e3 := fun c => wr_top (c := c) (s := lastS t.answers.length) hB hq (by omega)
  have e4 := fun c => string_ok (c := c) (hB.setF (l' := l ++ lastS t.answers.length) (by simp [hne])) (by simp [hne]) (by simp; omega)
  simp only [Heap.set_cons', if_true] at e4
  exact ⟨_, _, e3, e4⟩
 have f8 : ∀ m k, m ≤ 100 → 1000 ≤ k → P.length + (R.length + m + 1) ≤ k := fun m k h1 h2 => by omega
 have hil := itoaL_len t.answers.length
 have f9 : 4 + (itoaL t.answers.length).length ≤ 4611686018427387904 := by omega
 have f10 : ∀ k, 1000 ≤ k → (itoaL t.answers.length).length ≤ k := fun k hk => by omega
 rcases hst with hst | hst | hst | hst
 ·rw [hst] at hC ⊢
  obtain ⟨F1, hp, hB1, hE1⟩ := hd1 (.pure (.int .i64 1)) (tableW ++ 32 :: P ++ 32 :: R ++ 32 :: stW 1 ++ [10]) (by simp) (by simp [tableW, stW]; omega)
  obtain ⟨F2, hB2, hE2, hR⟩ := rows F1 _ _ (by simp) (by simp [tableW, stW]; omega) hB1 hE1
  obtain ⟨F3, F4, hp3, hp4⟩ := endk F2 _ hB2 (by simp [tableW, stW] at hlr ⊢; omega) (by simp)
  simp [tableW, stW] at hp
  simp [lastS, endW] at hp3
  simp [Tab.row, hC, hI1, hI2, f1, f2, f3, f4, f5, f6, f7, f8, hst, hp, hE1]
  refine hR _ ?_
  simp [hE2, hI3, hp3, hp4, f9, f10, gleave_free]
 ·rw [hst] at hC ⊢
  obtain ⟨F1, hp, hB1, hE1⟩ := hd1 (.pure (.int .i64 2)) (tableW ++ 32 :: P ++ 32 :: R ++ 32 :: stW 2 ++ [10]) (by simp) (by simp [tableW, stW]; omega)
  obtain ⟨F2, hB2, hE2, hR⟩ := rows F1 _ _ (by simp) (by simp [tableW, stW]; omega) hB1 hE1
  obtain ⟨F3, F4, hp3, hp4⟩ := endk F2 _ hB2 (by simp [tableW, stW] at hlr ⊢; omega) (by simp)
  simp [tableW, stW] at hp
  simp [lastS, endW] at hp3
  simp [Tab.row, hC, hI1, hI2, f1, f2, f3, f4, f5, f6, f7, f8, hst, hp, hE1]
  refine hR _ ?_
  simp [hE2, hI3, hp3, hp4, f9, f10, gleave_free]
 ·rw [hst] at hC ⊢
  obtain ⟨F1, hp, hB1, hE1⟩ := hd1 (.pure (.int .i64 3)) (tableW ++ 32 :: P ++ 32 :: R ++ 32 :: stW 3 ++ [10]) (by simp) (by simp [tableW, stW]; omega)
  obtain ⟨F2, hB2, hE2, hR⟩ := rows F1 _ _ (by simp) (by simp [tableW, stW]; omega) hB1 hE1
  obtain ⟨F3, F4, hp3, hp4⟩ := endk F2 _ hB2 (by simp [tableW, stW] at hlr ⊢; omega) (by simp)
  simp [tableW, stW] at hp
  simp [lastS, endW] at hp3
  simp [Tab.row, hC, hI1, hI2, f1, f2, f3, f4, f5, f6, f7, f8, hst, hp, hE1]
  refine hR _ ?_
  simp [hE2, hI3, hp3, hp4, f9, f10, gleave_free]
 ·rw [hst] at hC ⊢
  obtain ⟨F1, hp, hB1, hE1⟩ := hd1 (.pure (.int .i64 4)) (tableW ++ 32 :: P ++ 32 :: R ++ 32 :: stW 4 ++ [10]) (by simp) (by simp [tableW, stW]; omega)
  obtain ⟨F2, hB2, hE2, hR⟩ := rows F1 _ _ (by simp) (by simp [tableW, stW]; omega) hB1 hE1
  obtain ⟨F3, F4, hp3, hp4⟩ := endk F2 _ hB2 (by simp [tableW, stW] at hlr ⊢; omega) (by simp)
  simp [tableW, stW] at hp
  simp [lastS, endW] at hp3
  simp [Tab.row, hC, hI1, hI2, f1, f2, f3, f4, f5, f6, f7, f8, hst, hp, hE1]
  refine hR _ ?_
  simp [hE2, hI3, hp3, hp4, f9, f10, gleave_free]
end
section
variable {c : Nat} {H : Heap}
def numA (w : List UInt8) : Int := match Lib.atoiAll w with | .ok n => n | .range => Lib.atoiSat w | _ => 0
noncomputable def numB (w : List UInt8) : Bool := (numV w).isSome
theorem numA_of {w : List UInt8} {n : Int} (h : numV w = some n) : numA w = n := by
 rw [numV_def] at h
 unfold numA
 split at h
 ·rename_i m hm
  rw [hm]
  split at h
  ·simpa using h
  ·cases h
 ·cases h
noncomputable def lbN (S : Slots) (st : LoopState) (p : Option GX) : GLoop := { slots := S, nt := 13, params := [9, 10], assign := rgA Tryz.f70, body := rgB Tryz.f70, fn := 70, state := st, pending := p }
def frN (n : Int) (b : Bool) (l : GLoop) : Fr := [(2, .box [.pure (.int .i64 n)]), (3, .box [.pure (.bool b)]), (10000005, .loop l)]
theorem roundN {n0 n : Int} {b0 b : Bool} {S : Slots} (f0 f1 : Fr) (h2 : look S 2 = .bptr (H.length, 2) 0) (h3 : look S 3 = .bptr (H.length, 3) 0) :
  ground (geval KC) (H.length, 10000005) [.pure (.int .i64 n), .pure (.bool b)] (f1 :: f0 :: frN n0 b0 (lbN S .ready none) :: H) =
   some (.pure (.bool false), f1 :: f0 :: frN n b (lbN S .done (some .ret)) :: H) := by
 refine WPv_eq (ground_wp KC needT (l := lbN S .ready none) (s := (10, .pure (.bool b)) :: (9, .pure (.int .i64 n)) :: S) ?_ rfl ?_ ?_ ?_ ?_)
 ·simp [frN]
 ·simp [lbN, putParams]
 ·kernel_rfl
 ·kernel_rfl
 ·show wp KC needT 70 (rgA Tryz.f70) _ _
  conv => arg 4; whnf
  simp [roundMid, lbN, frN]
  conv => arg 4; whnf
  simp [h2, h3, roundEnd]
theorem nums1_ok {w : List UInt8} (hw : w.length ≤ 281474976710656) {S : Slots} (h2 : look S 2 = .bptr (H.length, 2) 0) (h3 : look S 3 = .bptr (H.length, 3) 0) (n0 : Int) (b0 : Bool) :
  gcall KC (geval KC) 135 [.yield (H.length, 10000005), .pptr [.slice [[.str w]]]] c (frN n0 b0 (lbN S .ready none) :: H) = some (.pure (.tuple []), frN (numA w) (numB w) (lbN S .done (some .ret)) :: H) := by
 refine WPv_eq (call_enter KC needT Tryz.func135 rfl rfl good135 rfl rfl rfl (by simp) (by simp) ?_)
 have hat : ∀ c G, 0 < List.length G → gcall KC (geval KC) 95 [.pure (.str w)] c G = extAtoi 222 [.pure (.str w)] G := fun c G hG =>
  gcall_ext KC (e := extAtoi 222) (by kernel_rfl) (by rfl) hG
 unfold extAtoi at hat
 simp only [hw, if_true] at hat
 have hr := fun n b => roundN (n0 := n0) (b0 := b0) (n := n) (b := b) [] [] h2 h3
 have hB : numB w = (numV w).isSome := rfl
 have hV := numV_def w
 have ec : canon (GV.pptr [.slice [[.str w]]]) = .pptr [.slice [[.str w]]] := rfl
 simp [ec]
 apply WPL_step
 conv => arg 4; whnf
 cases hA : Lib.atoiAll w with
 | ok n =>
  have hA' : numA w = n := by unfold numA; rw [hA]
  rw [hA] at hat hV
  simp only at hV
  by_cases c1 : n < 0
  ·rw [if_neg (by omega)] at hV
   rw [hA', hB, hV]
   have c1' : ¬ 0 ≤ n := by omega
   simp [hat, c1, c1', hr, gleave_free]
  ·have c1' : 0 ≤ n := by omega
   by_cases c2 : 4 < w.length
   ·rw [if_neg (by omega)] at hV
    have c2' : (4 : Int) < w.length := by omega
    have c4 : ¬ (w.length : Int) ≤ 4 := by omega
    rw [hA', hB, hV]
    simp [hat, c1, c1', c2, c2', c4, hr, gleave_free]
   ·have c2' : ¬ (4 : Int) < w.length := by omega
    have c4 : (w.length : Int) ≤ 4 := by omega
    have hrg := atoi_rng hA
    have hI : ∀ c G, 0 < List.length G → gcall KC (geval KC) 51 [.pure (.int .i64 n)] c G = some (.pure (.str (itoaL n)), G) := fun c G hG => itoa_ok hrg.1 hrg.2 hG
    by_cases c3 : itoaL n = w
    ·rw [if_pos ⟨by omega, by omega, c3⟩] at hV
     rw [hA', hB, hV]
     rw [c3] at hI
     simp [hat, c1, c1', c2, c2', c4, hI, c3, hr, gleave_free]
    ·rw [if_neg (fun h => c3 h.2.2)] at hV
     have c3' : ¬ w = itoaL n := fun h => c3 h.symm
     have c5 : (itoaL n == w) = false := by simpa using c3
     rw [hA', hB, hV]
     simp [hat, c1, c1', c2, c2', c4, hI, c3, c3', c5, hr, gleave_free]
 | range =>
  have hA' : numA w = Lib.atoiSat w := by unfold numA; rw [hA]
  rw [hA] at hat hV
  simp only at hV
  rw [hA', hB, hV]
  simp [hat, hr, gleave_free]
 | _ =>
  have hA' : numA w = 0 := by unfold numA; rw [hA]
  rw [hA] at hat hV
  simp only at hV
  rw [hA', hB, hV]
  simp [hat, hr, gleave_free]
theorem numbersC_ok (l : List (List PV)) (hH : 0 < H.length) : gcall KC (geval KC) 105 [.pure (.slice l)] c H = some (.func 135 [] [.pptr [.slice l]], H) := by
 refine WPv_eq (call_enter KC needT Tryz.func105 rfl rfl good105 rfl rfl rfl (by simp) hH ?_)
 have hnl : ¬ H.length ≤ H.length - 1 := by omega
 simp [gleave_free, hnl]
 simp [capD, capsP, capP, hnl]
theorem number_range {w : List UInt8} (hw : w.length ≤ 281474976710656) (st : GSt) (Q : GX → GSt → Prop) (hh : st.h = [(2, .box [.pure (.int .i64 0)]), (3, .box [.pure (.bool false)])] :: H) (hnt : st.nt = 13)
  (h2 : look st.s 2 = .bptr (H.length, 2) 0) (h3 : look st.s 3 = .bptr (H.length, 3) 0) (h8 : look st.s 8 = .func 135 [] [.pptr [.slice [[.str w]]]])
  (hq : ∀ lb, Q .ret { st with h := frN (numA w) (numB w) lb :: H }) :
  WP KC needT 70 (.rangeFunc (.tmp 8) #[9, 10] (rgA Tryz.f70) (rgB Tryz.f70)) st Q := by
 have hfr : firstRegion (rgB Tryz.f70) = 5 := by kernel_rfl
 refine WP_range KC needT (nm := (H.length, 10000005)) (H1 := frN 0 false (lbN st.s .ready none) :: H) (H2 := frN (numA w) (numB w) (lbN st.s .done (some .ret)) :: H) (v := .pure (.tuple [])) ?_ ?_ ?_
 ·rw [hh, hfr, hnt]
  simp [gnewV, gnewU, frN, lbN]
 ·simp only [ev, h8]
  exact nums1_ok hw h2 h3 0 false
 ·have := hq (lbN st.s .exhausted (some .ret))
  simp [rangeEnd, lbN, frN] at this ⊢
  exact this
theorem numberV_ok {w : List UInt8} (hw : w.length ≤ 281474976710656) (hH : 0 < H.length) : gcall KC (geval KC) 70 [.pure (.str w)] c H = some (.pure (.tuple [.int .i64 (numA w), .bool (numB w)]), H) := by
 refine WPv_eq (call_enter KC needT Tryz.func70 rfl rfl good70 rfl rfl rfl (by simp) hH ?_)
 simp [numbersC_ok]
 refine number_range hw _ _ ?_ rfl rfl rfl rfl (fun lb => ?_)
 ·simp
 ·simp [frN, gleave_free]
end
section
variable {c : Nat} {H : Heap}
def posW (w : List UInt8) : List (List UInt8) → Int → Int
 | [], _ => -1
 | x :: l, i => if w = x then i else posW w l (i + 1)
theorem indexS_loop (l : List (List UInt8)) (w : List UInt8) (hn : l.length ≤ 1000000) (Q : GX → GSt → Prop) (hH : 0 < H.length) : ∀ k i : Nat, i + k = l.length →
  (posW w (l.drop i) i = -1 → Q (.exit 0) ⟨[(4, gdead)], H, 19⟩) → (∀ p, posW w (l.drop i) i = p → p ≠ -1 → Q .ret ⟨[(4, .pure (.int .i64 p))], H, 19⟩) →
  WPL KC needT 104 (lp Tryz.f104 0) [0, 1, 7, 8] [4] Q [(0, .pure (.slice (l.map srow))), (1, .pure (.str w)), (7, .pure (.int .i64 l.length)), (8, .pure (.int .i64 i))] H 19 := by
 intro k
 induction k with
 | zero =>
  intro i hi h1 h2
  have e : l.drop i = [] := List.drop_of_length_le (by omega)
  rw [e] at h1
  apply WPL_step
  conv => arg 4; whnf
  have : ¬ i < l.length := by omega
  simp [this, hH]
  exact h1 rfl
 | succ k ih =>
  intro i hi h1 h2
  have hia : i < l.length := by omega
  have hw := w64 (x := (i : Int) + 1) (by omega) (by omega)
  rw [List.drop_eq_getElem_cons hia] at h1 h2
  unfold posW at h1 h2
  apply WPL_step
  conv => arg 4; whnf
  by_cases he : w = l[i]
  ·rw [if_pos he] at h2
   have h2' := h2 i rfl (by omega)
   have he' : (w == l[i]) = true := by simpa using he
   simp [hia, hH, srow, ← he, hw]
   exact h2'
  ·rw [if_neg he] at h1 h2
   have he' : (w == l[i]) = false := by simpa using he
   have ih' := ih (i + 1) (by omega) (by simpa using h1) (by simpa using h2)
   simp [hia, hH, srow, he, he', hw]
   simpa using ih'
theorem indexS_ok (l : List (List UInt8)) (w : List UInt8) (hn : l.length ≤ 1000000) (hH : 0 < H.length) : gcall KC (geval KC) 104 [.pure (.slice (l.map srow)), .pure (.str w)] c H = some (.pure (.int .i64 (posW w l 0)), H) := by
 refine WPv_eq (call_enter KC needT Tryz.func104 rfl rfl good104 rfl rfl rfl (by simp) hH ?_)
 simp
 have h0 := fun Q h1 h2 => indexS_loop (H := [] :: H) l w hn Q (by simp) l.length 0 (by omega) h1 h2
 simp at h0
 refine h0 _ (fun h => ?_) (fun h => ?_)
 ·simp [h, gleave_free]
 ·simp [gleave_free]
def stL : List (List UInt8) := [[], [111, 112, 101, 110], [112, 97, 117, 115, 101, 100], [99, 108, 111, 115, 101, 100], [115, 104, 111, 119, 110]]
noncomputable def headV (ws : List (List UInt8)) : Option Tab := match ws with
 | [w0, w1, w2, w3] => if w0 = tableW then (match numV w1, numV w2 with | some a, some b => if 0 < posW w3 stL 0 then some ⟨a, b, posW w3 stL 0, []⟩ else none | _, _ => none) else none
 | _ => none
def tabG (t : Tab) : GV := .agg [.pure (.int .i64 t.packets), .pure (.int .i64 t.passed), .pure (.int .i64 t.state), .nils]
def headT (ws : List (List UInt8)) : Tab := match ws with
 | [w0, w1, w2, w3] => if w0 = tableW then ⟨numA w1, numA w2, posW w3 stL 0, []⟩ else ⟨0, 0, 0, []⟩
 | _ => ⟨0, 0, 0, []⟩
theorem headT_of {ws : List (List UInt8)} {t : Tab} (h : headV ws = some t) : headT ws = t := by
 unfold headV at h
 split at h
 ·rename_i w0 w1 w2 w3
  split at h
  ·rename_i h0
   split at h
   ·rename_i a b ha hb
    split at h
    ·simp only [Option.some.injEq] at h
     subst h
     show (if w0 = tableW then _ else _) = _
     rw [if_pos h0, numA_of ha, numA_of hb]
    ·cases h
   ·cases h
  ·cases h
 ·cases h
theorem headV_nil {ws : List (List UInt8)} {t : Tab} (h : headV ws = some t) : t.answers = [] := by
 have := headT_of h
 subst this
 unfold headT
 split
 ·split <;> rfl
 ·rfl
theorem head_ok (ws : List (List UInt8)) (hn : ws.length ≤ 1000000) (hsz : ∀ w ∈ ws, w.length ≤ 281474976710656) (hH : 0 < H.length) : gcall KC (geval KC) 68 [.pure (.slice (ws.map srow))] c H = some (.tuple [tabG (headT ws), .pure (.bool (headV ws).isSome)], H) := by
 refine WPv_eq (call_enter KC needT Tryz.func68 rfl rfl good68 rfl rfl rfl (by simp) hH ?_)
 by_cases h4 : ws.length = 4
 ·match ws, h4 with
  | [w0, w1, w2, w3], _ =>
   by_cases h0 : w0 = tableW
   ·subst h0
    have N1 := fun c G (hG : 0 < List.length G) => numberV_ok (c := c) (H := G) (w := w1) (hsz w1 (by simp)) hG
    have N2 := fun c G (hG : 0 < List.length G) => numberV_ok (c := c) (H := G) (w := w2) (hsz w2 (by simp)) hG
    have I := fun c G (hG : 0 < List.length G) => indexS_ok (c := c) (H := G) stL w3 (by decide) hG
    simp [stL, srow] at I
    have hgs : gslice KC 129 (.pptr [.str [], .str [111, 112, 101, 110], .str [112, 97, 117, 115, 101, 100], .str [99, 108, 111, 115, 101, 100], .str [115, 104, 111, 119, 110]]) none none none = some (.pure (.slice [[.str []], [.str [111, 112, 101, 110]], [.str [112, 97, 117, 115, 101, 100]], [.str [99, 108, 111, 115, 101, 100]], [.str [115, 104, 111, 119, 110]]])) := by kernel_rfl
    have eV : headV [tableW, w1, w2, w3] = (match numV w1, numV w2 with | some a, some b => if 0 < posW w3 stL 0 then some ⟨a, b, posW w3 stL 0, []⟩ else none | _, _ => none) := by
     unfold headV
     show (if tableW = tableW then _ else _) = _
     rw [if_pos rfl]
    have eT : tabG (headT [tableW, w1, w2, w3]) = .agg [.pure (.int .i64 (numA w1)), .pure (.int .i64 (numA w2)), .pure (.int .i64 (posW w3 stL 0)), .nils] := rfl
    have B1 : numB w1 = (numV w1).isSome := rfl
    have B2 : numB w2 = (numV w2).isSome := rfl
    rw [eV, eT]
    simp only [stL]
    cases v1 : numV w1 with
    | none =>
     rw [v1] at B1
     simp [srow, tableW, N1, N2, I, hgs, B1, B2, gleave_keep, KC_keep, refs, refs2, refs1, deepRefs, boxRefs, matRefs, dedup, moveOut, cleanBlk, clM, ren, ren2, ren1]
    | some a =>
     cases v2 : numV w2 with
     | none =>
      rw [v1] at B1
      rw [v2] at B2
      simp [srow, tableW, N1, N2, I, hgs, B1, B2, gleave_keep, KC_keep, refs, refs2, refs1, deepRefs, boxRefs, matRefs, dedup, moveOut, cleanBlk, clM, ren, ren2, ren1]
     | some b =>
      rw [v1] at B1
      rw [v2] at B2
      by_cases hp0 : 0 < posW w3 [[], [111, 112, 101, 110], [112, 97, 117, 115, 101, 100], [99, 108, 111, 115, 101, 100], [115, 104, 111, 119, 110]] 0
      ·simp [srow, tableW, N1, N2, I, hgs, B1, B2, hp0, gleave_keep, KC_keep, refs, refs2, refs1, deepRefs, boxRefs, matRefs, dedup, moveOut, cleanBlk, clM, ren, ren2, ren1]
      ·simp [srow, tableW, N1, N2, I, hgs, B1, B2, hp0, gleave_keep, KC_keep, refs, refs2, refs1, deepRefs, boxRefs, matRefs, dedup, moveOut, cleanBlk, clM, ren, ren2, ren1]
   ·have eV : headV [w0, w1, w2, w3] = none := by
     unfold headV
     show (if w0 = tableW then _ else _) = _
     rw [if_neg h0]
    have eT : tabG (headT [w0, w1, w2, w3]) = .agg [.pure (.int .i64 0), .pure (.int .i64 0), .pure (.int .i64 0), .nils] := by
     unfold headT
     show tabG (if w0 = tableW then _ else _) = _
     rw [if_neg h0]
     rfl
    rw [eV, eT]
    simp only [tableW] at h0
    simp [srow, h0, gleave_keep, KC_keep, refs, refs2, refs1, deepRefs, boxRefs, matRefs, dedup, moveOut, cleanBlk, clM, ren, ren2, ren1]
 ·have h4' : ¬ (ws.length : Int) = 4 := by omega
  have eV : headV ws = none := by
   unfold headV
   split
   ·simp at h4
   ·rfl
  have eT : tabG (headT ws) = .agg [.pure (.int .i64 0), .pure (.int .i64 0), .pure (.int .i64 0), .nils] := by
   unfold headT
   split
   ·simp at h4
   ·rfl
  rw [eV, eT]
  simp [h4, h4', gleave_keep, KC_keep, refs, refs2, refs1, deepRefs, boxRefs, matRefs, dedup, moveOut, cleanBlk, clM, ren, ren2, ren1]
noncomputable def cellV (w : List UInt8) : Option Int := if w = [45] then some (-1) else numV w
noncomputable def cellsV : List (List UInt8) → Option (List Int)
 | [] => some []
 | w :: r => match cellV w with | none => none | some n => match cellsV r with | none => none | some l => some (n :: l)
theorem apK_any {d q : Nat} {rows : List (List PV)} {r : List PV} {f0 : Fr} (hr : rows ≠ []) (hb : (rows.length + 1) * 8 ≤ 1099511627776) (hq : q < tyBase) :
  apK H.length d (apS (H.length, q) 1 rows) 1 8 [r] (f0 :: apF q 1 rows [] :: H) = some (apS (H.length, q) 1 (rows ++ [r]), f0 :: apF q 1 (rows ++ [r]) [] :: H) := by
 have h := apK_apS (l := H.length) (key := q) (es := 1) (bytes := 8) (rows := rows) (r := r) (H' := f0 :: apF q 1 rows [] :: H) (fun h => absurd h hr) (fun h => by simp [apF_self h]) (by simp; omega) hb hq
 have e : ∀ d, apK H.length d (apS (H.length, q) 1 rows) 1 8 [r] (f0 :: apF q 1 rows [] :: H) = apK H.length q (apS (H.length, q) 1 rows) 1 8 [r] (f0 :: apF q 1 rows [] :: H) := fun d => by
  unfold apS
  rw [if_neg hr, apK_hdr, apK_hdr]
 rw [e, h]
 simp
 unfold apF
 simp [hr, Fr.ins_ins]
theorem guest_loop (ws : List (List UInt8)) (hn : ws.length ≤ 1000000) (hsz : ∀ w ∈ ws, w.length ≤ 281474976710656) (Q : GX → GSt → Prop) (hH : 0 < H.length) : ∀ (k i : Nat) (acc : List Int) (q : Nat), (q = 19 ∨ q = 30) → i + k = ws.length → acc.length + k ≤ 1000000 →
  (∀ q ns, (q = 19 ∨ q = 30) → cellsV (ws.drop i) = some ns → Q (.exit 0) ⟨[(2, gdead), (3, gdead), (4, apS (H.length, q) 1 ((acc ++ ns).map irow))], apF q 1 ((acc ++ ns).map irow) [] :: H, 33⟩) →
  (∀ q rows, (q = 19 ∨ q = 30) → cellsV (ws.drop i) = none → Q .ret ⟨[(2, .nils), (3, .pure (.bool false)), (4, apS (H.length, q) 1 rows)], apF q 1 rows [] :: H, 33⟩) →
  WPL KC needT 69 (lp Tryz.f69 0) [4, 9, 10, 11] [2, 3, 4] Q [(4, apS (H.length, q) 1 (acc.map irow)), (9, .pure (.slice (ws.map srow))), (10, .pure (.int .i64 ws.length)), (11, .pure (.int .i64 i))] (apF q 1 (acc.map irow) [] :: H) 33 := by
 intro k
 induction k with
 | zero =>
  intro i acc q hq hi hb h1 h2
  have hia : ¬ i < ws.length := by omega
  have e1 : ws.drop i = [] := List.drop_of_length_le (by omega)
  rw [e1] at h1
  have h1' := h1 q [] hq rfl
  rw [List.append_nil] at h1'
  apply WPL_step
  conv => arg 4; whnf
  simp [hia]
  exact h1'
 | succ k ih =>
  intro i acc q hq hi hb h1 h2
  have hia : i < ws.length := by omega
  have hw := w64 (x := (i : Int) + 1) (by omega) (by omega)
  have hd : ws.drop i = ws[i] :: ws.drop (i + 1) := List.drop_eq_getElem_cons hia
  have hsi := hsz ws[i] (List.getElem_mem hia)
  have N1 := fun c G (hG : 0 < List.length G) => numberV_ok (c := c) (H := G) (w := ws[i]) hsi hG
  have B1 : numB ws[i] = (numV ws[i]).isSome := rfl
  have hb' : (acc.length + 1) * 8 ≤ 1099511627776 := by omega
  have hqt : q < tyBase := by rcases hq with rfl | rfl <;> simp
  have hap : ∀ (d : Nat) (x : Int), (d = 19 ∨ d = 30) → ∃ q', (q' = 19 ∨ q' = 30) ∧ ∀ f0 : Fr, apK H.length d (apS (H.length, q) 1 (acc.map irow)) 1 8 [[.int .i64 x]] (f0 :: apF q 1 (acc.map irow) [] :: H) = some (apS (H.length, q') 1 ((acc ++ [x]).map irow), f0 :: apF q' 1 ((acc ++ [x]).map irow) [] :: H) := fun d x hdd => by
   by_cases ha : acc = []
   ·subst ha
    refine ⟨d, hdd, fun f0 => ?_⟩
    have hdt : d < tyBase := by rcases hdd with rfl | rfl <;> simp
    have := apK_1 (key := d) (es := 1) (rows := []) (fr := []) (H := H) (l := H.length) (bytes := 8) (r := [.int .i64 x]) (f0 := f0) rfl rfl (by simp) hdt
    simpa [apS_nil, apF_nil, irow] using this
   ·refine ⟨q, hq, fun f0 => ?_⟩
    rw [apK_any (by simpa using ha) (by simpa using hb') hqt]
    simp [irow]
  rw [hd] at h1 h2
  have step : ∀ (x : Int) (q' : Nat), (q' = 19 ∨ q' = 30) → cellV ws[i] = some x → WPL KC needT 69 (lp Tryz.f69 0) [4, 9, 10, 11] [2, 3, 4] Q [(4, apS (H.length, q') 1 ((acc ++ [x]).map irow)), (9, .pure (.slice (ws.map srow))), (10, .pure (.int .i64 ws.length)), (11, .pure (.int .i64 (i + 1 : Nat)))] (apF q' 1 ((acc ++ [x]).map irow) [] :: H) 33 := fun x q' hq' hx =>
   ih (i + 1) (acc ++ [x]) q' hq' (by omega) (by simp; omega) (fun q ns hq h => by
    rw [List.append_assoc]
    exact h1 q (x :: ns) hq (by simp only [cellsV, hx, h])) (fun q rows hq h => h2 q rows hq (by simp only [cellsV, hx, h]))
  apply WPL_step
  conv => arg 4; whnf
  by_cases hm : ws[i] = [45]
  ·have hc : cellV ws[i] = some (-1) := by unfold cellV; rw [if_pos hm]
   obtain ⟨q', hq', ha⟩ := hap 19 (-1) (.inl rfl)
   have st := step (-1) q' hq' hc
   generalize apS (H.length, q) 1 (acc.map irow) = g0 at *
   generalize apF q 1 (acc.map irow) [] = F0 at *
   simp [hia, srow, hm, hw, ha]
   simpa using st
  ·have hm' : (ws[i] == [45]) = false := by simpa using hm
   cases hv : numV ws[i] with
   | none =>
    have hc : cellV ws[i] = none := by unfold cellV; rw [if_neg hm, hv]
    rw [hv] at B1
    have h2' := h2 q (acc.map irow) hq (by simp only [cellsV, hc])
    simp [hia, srow, hm, hm', hw, N1, B1]
    exact h2'
   | some n =>
    have hc : cellV ws[i] = some n := by unfold cellV; rw [if_neg hm, hv]
    rw [hv] at B1
    rw [numA_of hv] at N1
    obtain ⟨q', hq', ha⟩ := hap 30 n (.inr rfl)
    have st := step n q' hq' hc
    generalize apS (H.length, q) 1 (acc.map irow) = g0 at *
    generalize apF q 1 (acc.map irow) [] = F0 at *
    simp [hia, srow, hm, hm', hw, N1, B1, ha]
    simpa using st
def cellsG : Option (List Int) → PV
 | some ns => .tuple [.slice (ns.map irow), .bool true]
 | none => .tuple [.slice [], .bool false]
theorem guest_ok (ws : List (List UInt8)) (hn : ws.length ≤ 1000000) (hsz : ∀ w ∈ ws, w.length ≤ 281474976710656) (hH : 0 < H.length) :
  gcall KC (geval KC) 69 [.pure (.slice (ws.map srow))] c H = some (.pure (cellsG (cellsV ws)), H) := by
 refine WPv_eq (call_enter KC needT Tryz.func69 rfl rfl good69 rfl rfl rfl (by simp) hH ?_)
 have h0 := fun Q h1 h2 => guest_loop (H := H) ws hn hsz Q hH ws.length 0 [] 19 (.inl rfl) (by omega) (by simpa using hn) h1 h2
 simp [apS_nil, apF_nil] at h0
 simp
 refine h0 _ (fun q ns hq h => ?_) (fun q rows hq h => ?_)
 ·rw [h]
  simp [cellsG, gleave_free]
  cases ns with
  | nil => simp [apS_nil, apF_nil]
  | cons n r =>
   have e := clean1_apS (H := H) (key := q) (es := 1) (rows := (n :: r).map irow) (l := H.length) (l0 := H.length - 1) (F := apF q 1 ((n :: r).map irow) []) rfl (by omega) (fun h => apF_self h)
   have e2 : ∀ G l0, clean2 G l0 (apS (H.length, q) 1 ((n :: r).map irow)) = clean1 G l0 (apS (H.length, q) 1 ((n :: r).map irow)) := fun G l0 => by unfold apS; split <;> rfl
   rw [e2, e]
   simp
 ·rw [h]
  simp [cellsG, gleave_free]
end
section
variable {c : Nat} {H : Heap}
def tabB (t : Tab) (x : GV) : Blk := .box [.pure (.int .i64 t.packets), .pure (.int .i64 t.passed), .pure (.int .i64 t.state), x]
def lF (kb ka L : Nat) (t : Tab) : Fr := apF ka 1 (t.answers.map arow) [(kb, tabB t (apS (L, ka) 1 (t.answers.map arow)))]
def lM (kb ka L : Nat) (t : Tab) (l : List Int) : Fr := apF ka 1 ((t.answers ++ [l]).map arow) [(kb, tabB t (apS (L, ka) 1 (t.answers.map arow)))]
section
variable {kb ka L : Nat} {t : Tab} {l : List Int}
theorem lF_get (hk : kb < ka) : (lF kb ka L t).get kb = some (tabB t (apS (L, ka) 1 (t.answers.map arow))) := by
 unfold lF apF
 split
 ·simp
 ·rw [Fr.get_ins_other _ (by omega)]; simp
theorem lM_get (hk : kb < ka) : (lM kb ka L t l).get kb = some (tabB t (apS (L, ka) 1 (t.answers.map arow))) := by
 unfold lM apF
 split
 ·simp
 ·rw [Fr.get_ins_other _ (by omega)]; simp
theorem lM_ins (hk : kb < ka) : (lM kb ka L t l).ins kb (tabB t (apS (L, ka) 1 ((t.answers ++ [l]).map arow))) = lF kb ka L { t with answers := t.answers ++ [l] } := by
 have h1 : ¬ ka = kb := by omega
 have h2 : ¬ ka < kb := by omega
 have h3 : ¬ kb = ka := by omega
 unfold lM lF apF
 simp [Fr.ins, h1, h2, h3, hk, tabB]
theorem lF_head {t' : Tab} (h1 : t.answers = []) (h2 : t'.answers = []) : (lF kb ka L t).ins kb (tabB t' .nils) = lF kb ka L t' := by
 unfold lF apF
 simp [h1, h2, Fr.ins, apS_nil]
theorem lF_app (hk : kb < ka) (h : H.length = L) (hkt : ka < tyBase) (f0 : Fr) (hb : t.answers.length ≤ 1000000) : apK L ka (apS (L, ka) 1 (t.answers.map arow)) 1 24 [[.slice (l.map irow)]] (f0 :: lF kb ka L t :: H) = some (apS (L, ka) 1 ((t.answers ++ [l]).map arow), f0 :: lM kb ka L t l :: H) := by
 subst h
 have := apK_1 (key := ka) (es := 1) (rows := t.answers.map arow) (fr := [(kb, tabB t (apS (H.length, ka) 1 (t.answers.map arow)))]) (H := H) (l := H.length) (bytes := 24) (r := [.slice (l.map irow)]) (f0 := f0) rfl (by simp; omega) (by simp; omega) hkt
 unfold lF lM
 rw [this]
 simp [arow]
end
noncomputable def rowL (i : Nat) (x : Tab × Int × Int) (row : List UInt8) : Option (Tab × Int × Int) :=
 if 0 < x.2.1 then none
 else if i = 0 then (match headV (splitL 32 row) with | some t => some (t, x.2) | none => none)
 else if (splitL 32 row).head? = some guestW then (match cellsV ((splitL 32 row).drop 1) with | some l => some ({ x.1 with answers := x.1.answers ++ [l] }, x.2) | none => none)
 else match splitL 32 row with | [w0, w1] => if w0 = endW then (match numV w1 with | some n => some (x.1, (i : Int) + 1, n) | none => none) else none | _ => none
noncomputable def rowsL : Nat → Tab × Int × Int → List (List UInt8) → Option (Tab × Int × Int)
 | _, x, [] => some x
 | i, x, row :: r => match rowL i x row with | some y => rowsL (i + 1) y r | none => none
noncomputable def failL : Nat → Tab × Int × Int → List (List UInt8) → Int
 | _, _, [] => 0
 | i, x, row :: r => match rowL i x row with | some y => failL (i + 1) y r | none => (i : Int) + 1
def zeroB : Blk := .box [.pure (.int .i64 0), .pure (.int .i64 0), .pure (.int .i64 0), .nils]
theorem load_loop (rows : List (List UInt8)) (hn : rows.length ≤ 100000) (hsz : ∀ w ∈ rows, w.length ≤ 100000) (m : Int) (sp : List (List UInt8)) (Q : GX → GSt → Prop) : ∀ (k i : Nat) (x : Tab × Int × Int), i + k = rows.length → x.1.answers.length ≤ i →
  (∀ y, rowsL i x (rows.drop i) = some y → y.1.answers.length ≤ rows.length → Q (.exit 0) ⟨[(2, .bptr (H.length, 2) 0), (3, gdead), (4, gdead), (5, .pure (.slice (sp.map srow))), (6, .pure (.int .i64 m)), (7, .pure (.int .i64 y.2.1)), (8, .pure (.int .i64 y.2.2))], lF 2 61 H.length y.1 :: H, 114⟩) →
  (∀ (a b : Int) (F : Fr), rowsL i x (rows.drop i) = none → F.get 2 = some zeroB → Q .ret ⟨[(2, .bptr (H.length, 2) 0), (3, .pure (.int .i64 (failL i x (rows.drop i)))), (4, .pure (.int .i64 3)), (5, .pure (.slice (sp.map srow))), (6, .pure (.int .i64 m)), (7, .pure (.int .i64 a)), (8, .pure (.int .i64 b))], F :: H, 114⟩) →
  WPL KC needT 22 (lp Tryz.f22 0) [2, 5, 6, 7, 8, 26, 27, 28] [2, 3, 4, 5, 6, 7, 8] Q [(2, .bptr (H.length, 2) 0), (5, .pure (.slice (sp.map srow))), (6, .pure (.int .i64 m)), (7, .pure (.int .i64 x.2.1)), (8, .pure (.int .i64 x.2.2)), (26, .pure (.slice (rows.map srow))), (27, .pure (.int .i64 rows.length)), (28, .pure (.int .i64 i))] (lF 2 61 H.length x.1 :: H) 114 := by
 intro k
 induction k with
 | zero =>
  intro i x hi hc h1 h2
  have hia : ¬ i < rows.length := by omega
  have e1 : rows.drop i = [] := List.drop_of_length_le (by omega)
  rw [e1] at h1
  have h1' := h1 x rfl (by omega)
  apply WPL_step
  conv => arg 4; whnf
  simp [hia]
  exact h1'
 | succ k ih =>
  intro i x hi hc h1 h2
  have hia : i < rows.length := by omega
  have hw := w64 (x := (i : Int) + 1) (by omega) (by omega)
  have hd : rows.drop i = rows[i] :: rows.drop (i + 1) := List.drop_eq_getElem_cons hia
  have hsi := hsz rows[i] (List.getElem_mem hia)
  rw [hd] at h1 h2
  have hS : ∀ c G, 0 < List.length G → gcall KC (geval KC) 55 [.pure (.str rows[i]), .pure (.str [32])] c G = some (.pure (.slice ((splitL 32 rows[i]).map srow)), G) := fun c G hG => split_ok (by omega) hG
  obtain ⟨p, r, hp⟩ : ∃ p r, splitL 32 rows[i] = p :: r := by
   cases h : splitL 32 rows[i] with
   | nil => exact absurd h (splitL_ne _ _)
   | cons p r => exact ⟨p, r, rfl⟩
  have hsl := splitL_len 32 rows[i]
  have hsm := splitL_mem 32 rows[i]
  rw [hp] at hsl hsm hS
  have hF2 := lF_get (kb := 2) (ka := 61) (L := H.length) (t := x.1) (by omega)
  apply WPL_step
  conv => arg 4; whnf
  obtain ⟨t, e0, n0⟩ := x
  simp only at hc h1 h2 hF2 ⊢
  have hret : ∀ (F : Fr), (F.ins 2 zeroB).get 2 = some zeroB := fun F => Fr.get_ins ..
  unfold tabB at hF2
  unfold zeroB at hret h2
  have i1 : IntKind.i64.wrap 1 = 1 := rfl
  by_cases he : 0 < e0
  ·have hrv : rowL i (t, e0, n0) rows[i] = none := by unfold rowL; rw [if_pos he]
   have h2' := fun a b F => h2 a b F (by simp only [rowsL, hrv])
   simp only [failL, hrv] at h2'
   simp [hia, srow, hS, he, hw, hF2]
   exact h2' _ _ _ (hret _)
  ·by_cases hi0 : i = 0
   ·subst hi0
    have hh := fun c G (hG : 0 < List.length G) => head_ok (c := c) (H := G) (p :: r) (by simp at hsl ⊢; omega) (fun w hw => by have := hsm w hw; omega) hG
    have ht0 : t.answers = [] := List.length_eq_zero_iff.1 (by omega)
    unfold tabG at hh
    have hrv : rowL 0 (t, e0, n0) rows[0] = (match headV (p :: r) with | some t => some (t, e0, n0) | none => none) := by unfold rowL; rw [if_neg he, hp, if_pos rfl]
    cases hV : headV (p :: r) with
    | none =>
     rw [hV] at hh hrv
     have h2' := fun a b F => h2 a b F (by simp only [rowsL, hrv])
     simp only [failL, hrv] at h2'
     simp [srow] at hh
     simp [hia, srow, hS, he, hw, hF2, hh, Fr.get_ins, Fr.ins_ins, i1]
     exact h2' _ _ _ (hret _)
    | some t1 =>
     rw [hV] at hh hrv
     rw [headT_of hV] at hh
     have ih' := ih 1 (t1, e0, n0) (by omega) (by simp only; rw [headV_nil hV]; simp) (fun y hy hl => h1 y (by simp only [rowsL, hrv]; exact hy) hl) (fun a b F hy hF => by have q := h2 a b F (by simp only [rowsL, hrv]; exact hy) hF; simp only [failL, hrv] at q; exact q)
     have hins := lF_head (kb := 2) (ka := 61) (L := H.length) (t := t) (t' := t1) ht0 (headV_nil hV)
     unfold tabB at hins
     simp [srow] at hh
     simp [hia, srow, hS, he, hw, hF2, hh, hins, i1]
     simpa using ih'
   ·by_cases hg : p = guestW
    ·subst hg
     have hG := fun c G (hG : 0 < List.length G) => guest_ok (c := c) (H := G) r (by simp at hsl; omega) (fun w hw => by have := hsm w (List.mem_cons_of_mem _ hw); omega) hG
     have htk : (r.map srow).take r.length = r.map srow := List.take_of_length_le (by simp)
     have hrv : rowL i (t, e0, n0) rows[i] = (match cellsV r with | some l => some ({ t with answers := t.answers ++ [l] }, e0, n0) | none => none) := by
      unfold rowL; rw [if_neg he, if_neg hi0, hp, if_pos (show (guestW :: r).head? = some guestW from rfl)]; rfl
     have hap := fun l f0 => lF_app (kb := 2) (ka := 61) (L := H.length) (t := t) (l := l) (H := H) (by omega) rfl (by simp) f0 (by omega)
     have hm2 := fun l => lM_get (kb := 2) (ka := 61) (L := H.length) (t := t) (l := l) (by omega)
     have hin := fun l => lM_ins (kb := 2) (ka := 61) (L := H.length) (t := t) (l := l) (by omega)
     unfold tabB at hm2 hin
     cases hA : cellsV r with
     | none =>
      rw [hA] at hrv hG
      have h2' := fun a b F => h2 a b F (by simp only [rowsL, hrv])
      simp only [failL, hrv] at h2'
      simp only [cellsG] at hG
      have hap0 := hap []
      simp only [List.map_nil] at hap0
      simp [arow] at hap0
      simp [hia, srow, hS, he, hi0, hw, hF2, guestW, htk, hG, hap0, hm2, Fr.get_ins, Fr.ins_ins]
      exact h2' _ _ _ (hret _)
     | some l =>
      rw [hA] at hrv hG
      simp only at hrv
      simp only [cellsG] at hG
      have ih' := ih (i + 1) ({ t with answers := t.answers ++ [l] }, e0, n0) (by omega) (by simp; omega) (fun y hy hl => h1 y (by simp only [rowsL, hrv]; exact hy) hl) (fun a b F hy hF => by have q := h2 a b F (by simp only [rowsL, hrv]; exact hy) hF; simp only [failL, hrv] at q; exact q)
      have hapl := hap l
      have hinl := hin l
      simp [arow] at hapl hinl
      simp [hia, srow, hS, he, hi0, hw, hF2, guestW, htk, hG, hapl, hm2, Fr.get_ins, Fr.ins_ins, hinl]
      simpa using ih'
    ·have hg' : (p == [103, 117, 101, 115, 116]) = false := by simpa [guestW] using hg
     have hg2 : ¬ (p :: r).head? = some guestW := fun h => hg (by simpa using h)
     have hrv : rowL i (t, e0, n0) rows[i] = (match p :: r with | [w0, w1] => if w0 = endW then (match numV w1 with | some n => some (t, (i : Int) + 1, n) | none => none) else none | _ => none) := by
      unfold rowL; rw [if_neg he, if_neg hi0, hp, if_neg hg2]
     by_cases hend : p = endW
     ·subst hend
      match r with
      | [] =>
       have h2' := fun a b F => h2 a b F (by simp only [rowsL, hrv])
       simp only [failL, hrv] at h2'
       simp [hia, srow, hS, he, hi0, hw, hF2, hg', endW]
       exact h2' _ _ _ (hret _)
      | x :: y :: r' =>
       have h2' := fun a b F => h2 a b F (by simp only [rowsL, hrv])
       simp only [failL, hrv] at h2'
       have hr1 : ¬ ((r'.length : Int) + 1 + 1 + 1 = 2) := by omega
       simp [hia, srow, hS, he, hi0, hw, hF2, hg', endW, hr1]
       exact h2' _ _ _ (hret _)
      | [w1] =>
       have N1 := fun c G (hG : 0 < List.length G) => numberV_ok (c := c) (H := G) (w := w1) (by have := hsm w1 (by simp); omega) hG
       have B1 : numB w1 = (numV w1).isSome := rfl
       simp only [if_true] at hrv
       cases hA : numV w1 with
       | none =>
        rw [hA] at hrv B1
        have h2' := fun a b F => h2 a b F (by simp only [rowsL, hrv])
        simp only [failL, hrv] at h2'
        simp [hia, srow, hS, he, hi0, hw, hF2, hg', endW, N1, B1]
        exact h2' _ _ _ (hret _)
       | some n =>
        rw [hA] at hrv B1
        rw [numA_of hA] at N1
        have ih' := ih (i + 1) (t, (i : Int) + 1, n) (by omega) (by simp only; omega) (fun y hy hl => h1 y (by simp only [rowsL, hrv]; exact hy) hl) (fun a b F hy hF => by have q := h2 a b F (by simp only [rowsL, hrv]; exact hy) hF; simp only [failL, hrv] at q; exact q)
        simp [hia, srow, hS, he, hi0, hw, hF2, hg', endW, N1, B1]
        simpa using ih'
     ·have hend' : (p == [101, 110, 100]) = false := by simpa [endW] using hend
      have hrv2 : rowL i (t, e0, n0) rows[i] = none := by
       rw [hrv]
       match r with
       | [] => rfl
       | [w1] => simp only; rw [if_neg hend]
       | _ :: _ :: _ => rfl
      have h2' := fun a b F => h2 a b F (by simp only [rowsL, hrv2])
      simp only [failL, hrv2] at h2'
      simp [hia, srow, hS, he, hi0, hw, hF2, hg', hend']
      exact h2' _ _ _ (hret _)
theorem cellsV_len : ∀ {ws : List (List UInt8)} {l : List Int}, cellsV ws = some l → l.length = ws.length
 | [], l, h => by simp only [cellsV, Option.some.injEq] at h; subst h; rfl
 | w :: r, l, h => by
  simp only [cellsV] at h
  split at h
  ·cases h
  ·split at h
   ·cases h
   ·rename_i l' hl
    simp only [Option.some.injEq] at h
    subst h
    simp [cellsV_len hl]
theorem rowL_len {M i : Nat} {x y : Tab × Int × Int} {row : List UInt8} (h : rowL i x row = some y) (hr : row.length ≤ M) (hx : ∀ a ∈ x.1.answers, a.length ≤ M) : (∀ a ∈ y.1.answers, a.length ≤ M) ∧ y.1.answers.length ≤ x.1.answers.length + 1 := by
 unfold rowL at h
 have hsl := splitL_len 32 row
 split at h
 ·cases h
 ·split at h
  ·split at h
   ·rename_i t ht
    simp only [Option.some.injEq] at h
    subst h
    simp only
    rw [headV_nil ht]
    simp
   ·cases h
  ·split at h
   ·split at h
    ·rename_i l hl
     simp only [Option.some.injEq] at h
     subst h
     refine ⟨fun a ha => ?_, by simp⟩
     rcases List.mem_append.1 ha with ha | ha
     ·exact hx a ha
     ·rw [List.mem_singleton] at ha
      subst ha
      have := cellsV_len hl
      rw [this]
      simp
      omega
    ·cases h
   ·split at h
    ·split at h
     ·split at h
      ·simp only [Option.some.injEq] at h
       subst h
       exact ⟨hx, by simp⟩
      ·cases h
     ·cases h
    ·cases h
theorem rowsL_len {M : Nat} : ∀ {rows : List (List UInt8)} {i : Nat} {x y : Tab × Int × Int}, rowsL i x rows = some y → (∀ w ∈ rows, w.length ≤ M) → (∀ a ∈ x.1.answers, a.length ≤ M) → (∀ a ∈ y.1.answers, a.length ≤ M) ∧ y.1.answers.length ≤ x.1.answers.length + rows.length
 | [], i, x, y, h, _, hx => by simp only [rowsL, Option.some.injEq] at h; subst h; exact ⟨hx, by simp⟩
 | row :: r, i, x, y, h, hr, hx => by
  simp only [rowsL] at h
  split at h
  ·rename_i z hz
   have h1 := rowL_len hz (hr row List.mem_cons_self) hx
   have h2 := rowsL_len h (fun w hw => hr w (List.mem_cons_of_mem _ hw)) h1.1
   exact ⟨h2.1, by simp; omega⟩
  ·cases h
def zT : Tab := ⟨0, 0, 0, []⟩
noncomputable def loadE (s : List UInt8) : Tab × Int × Int :=
 if 2000 < s.length then (zT, 0, 5) else
 match rowsL 0 (zT, 0, 0) ((splitL 10 s).take ((splitL 10 s).length - 1)) with
 | none => (zT, failL 0 (zT, 0, 0) ((splitL 10 s).take ((splitL 10 s).length - 1)), 3)
 | some y => if y.2.1 = 0 ∨ (splitL 10 s).getD ((splitL 10 s).length - 1) [] ≠ [] then (zT, (splitL 10 s).length, 3) else if y.2.2 ≠ y.1.answers.length then (zT, y.2.1, 12)
  else if chkT y.1 ≠ 0 then (zT, 0, chkT y.1) else (y.1, 0, 0)
def loadT (x : Tab × Int × Int) : PV := .tuple [.agg x.1.row, .int .i64 x.2.1, .int .i64 x.2.2]
def lR (kb ka L : Nat) (t : Tab) : Fr := if t.answers = [] then [(kb, tabB t (apS (L, ka) 1 (t.answers.map arow)))] else Fr.ins ka (.arr 1 (t.answers.map arow) 0 true) [(kb, tabB t (apS (L, ka) 1 (t.answers.map arow)))]
theorem lR_get {kb ka L : Nat} {t : Tab} (hk : kb < ka) : (lR kb ka L t).get kb = some (tabB t (apS (L, ka) 1 (t.answers.map arow))) := by
 unfold lR
 split
 ·simp
 ·rw [Fr.get_ins_other _ (by omega)]; simp
theorem frz_tab {kb ka : Nat} {t : Tab} (hk : kb < ka) : frzVals (lF kb ka H.length t :: H) [.agg [.pure (.int .i64 t.packets), .pure (.int .i64 t.passed), .pure (.int .i64 t.state), apS (H.length, ka) 1 (t.answers.map arow)]] =
  ([mkAgg [.pure (.int .i64 t.packets), .pure (.int .i64 t.passed), .pure (.int .i64 t.state), if t.answers = [] then .nils else .pure (.slice (t.answers.map arow))]], lR kb ka H.length t :: H) := by
 have t1 : (t.answers.map arow).take t.answers.length = t.answers.map arow := List.take_of_length_le (by simp)
 have h1 : ¬ ka = kb := by omega
 have h2 : ¬ ka < kb := by omega
 have h3 : ¬ kb = ka := by omega
 unfold lF lR apF apS tabB
 by_cases h : t.answers = []
 ·simp [h, frzVals, frzVal, frzCells, frzCell, pureCell]
 ·simp [h, frzVals, frzVal, frzCells, frzCell, pureCell, t1, Fr.ins, h1, h2, h3, hk]
theorem gcall_frzA {K : Ctx} {rec : Rec} {f : FuncId} {args : List GV} (h1 : K.cln f = false) (h2 : K.bor f = false) (h3 : K.frz f = true) : gcall K rec f args c H = gcall0 K rec f (frzVals H args).1 c (frzVals H args).2 := by
 unfold gcall gcallN
 simp [h1, h2, h3]
theorem gcall0_canonA {K : Ctx} {rec : Rec} {f : FuncId} {a b : List GV} (h : a.map canon = b.map canon) : gcall0 K rec f a c H = gcall0 K rec f b c H := by
 have hl : a.length = b.length := by have := congrArg List.length h; simpa using this
 unfold gcall0
 rw [h, hl]
theorem canon_tab {t : Tab} : canon (mkAgg [.pure (.int .i64 t.packets), .pure (.int .i64 t.passed), .pure (.int .i64 t.state), if t.answers = [] then .nils else .pure (.slice (t.answers.map arow))]) = .pure (.agg t.row) := by
 unfold Tab.row
 by_cases h : t.answers = [] <;> simp [h]
theorem chk_frz {kb ka : Nat} {t : Tab} (hk : kb < ka) (hs : Sm t) : gcall KC (geval KC) 65 [.agg [.pure (.int .i64 t.packets), .pure (.int .i64 t.passed), .pure (.int .i64 t.state), apS (H.length, ka) 1 (t.answers.map arow)]] c (lF kb ka H.length t :: H) = some (.pure (.int .i64 (chkT t)), lR kb ka H.length t :: H) := by
 rw [gcall_frzA rfl rfl rfl, frz_tab hk]
 have h0 := chkT_ok (c := c) (H := lR kb ka H.length t :: H) t hs (by simp)
 rw [gcall_frzA rfl rfl rfl] at h0
 refine Eq.trans (gcall0_canonA ?_) h0
 simp only [List.map_cons, List.map_nil, canon_tab]
 rfl
theorem clean_tab {kb ka l0 : Nat} {t : Tab} {F : Fr} (hF : t.answers ≠ [] → F.get ka = some (.arr 1 (t.answers.map arow) 0 true)) (h : l0 < H.length) : clean1 (F :: H) l0 (apS (H.length, ka) 1 (t.answers.map arow)) = if t.answers = [] then .nils else .pure (.slice (t.answers.map arow)) := by
 unfold apS
 by_cases hr : t.answers = []
 ·simp [hr]
 ·have : ¬ H.length ≤ l0 := by omega
  simp [hr, this, hF hr, List.take_of_length_le (show (t.answers.map arow).length ≤ t.answers.length by simp)]
theorem lR_arr {kb ka L : Nat} {t : Tab} (h : t.answers ≠ []) : (lR kb ka L t).get ka = some (.arr 1 (t.answers.map arow) 0 true) := by
 unfold lR
 rw [if_neg h, Fr.get_ins]
end
section
variable {c : Nat} {H : Heap}
theorem Load_ok (s : List UInt8) (hH : 0 < H.length) (hs : s.length ≤ 9223372036854775807) : gcall KC (geval KC) 22 [.pure (.str s)] c H = some (.pure (loadT (loadE s)), H) := by
 refine WPv_eq (call_enter KC needT Tryz.func22 rfl rfl good22 rfl rfl rfl (by simp) hH ?_)
 by_cases h1 : 2000 < s.length
 ·have hv : loadE s = (zT, 0, 5) := by unfold loadE; rw [if_pos h1]
  have h1' : (2000 : Int) < s.length := by omega
  rw [hv]
  simp [h1, h1', loadT, Tab.row, zT, gleave_free]
 ·have h1' : ¬ (2000 : Int) < s.length := by omega
  have hS : ∀ c G, 0 < List.length G → gcall KC (geval KC) 55 [.pure (.str s), .pure (.str [10])] c G = some (.pure (.slice ((splitL 10 s).map srow)), G) := fun c G hG => split_ok (by omega) hG
  have hv : loadE s = (match rowsL 0 (zT, 0, 0) ((splitL 10 s).take ((splitL 10 s).length - 1)) with
   | none => (zT, failL 0 (zT, 0, 0) ((splitL 10 s).take ((splitL 10 s).length - 1)), 3)
   | some y => if y.2.1 = 0 ∨ (splitL 10 s).getD ((splitL 10 s).length - 1) [] ≠ [] then (zT, (splitL 10 s).length, 3) else if y.2.2 ≠ y.1.answers.length then (zT, y.2.1, 12)
    else if chkT y.1 ≠ 0 then (zT, 0, chkT y.1) else (y.1, 0, 0)) := by
   unfold loadE; exact if_neg h1
  have hsl := splitL_len 10 s
  have hsm := splitL_mem 10 s
  have hne := splitL_ne 10 s
  rw [hv]
  clear hv
  generalize splitL 10 s = sp at *
  obtain ⟨n, hn⟩ : ∃ n, sp.length = n + 1 := ⟨sp.length - 1, by have := List.length_pos_iff.2 hne; omega⟩
  have hw := w64 (x := (n : Int)) (by omega) (by omega)
  have hw2 := w64 (x := (n : Int) + 1) (by omega) (by omega)
  rw [hn, Nat.add_sub_cancel]
  have hsr : ∀ x : List UInt8, (srow x).length = 1 := fun _ => rfl
  have hlt : (sp.take n).length = n := by rw [List.length_take]; omega
  have hsz : ∀ w ∈ sp.take n, w.length ≤ 2000 := fun w hw => by have := hsm w (List.mem_of_mem_take hw); omega
  have h0 := fun Q => load_loop (H := H) (sp.take n) (by omega) (fun w hw => by have := hsz w hw; omega) (n : Int) sp Q n 0 (zT, 0, 0) (by omega) (by simp [zT])
  rw [hlt] at h0
  have hF0 : lF 2 61 H.length zT = [(2, .box [.pure (.int .i64 0), .pure (.int .i64 0), .pure (.int .i64 0), .nils])] := rfl
  simp only [hF0, List.map_take] at h0
  have hmin : min n (n + 1) = n := by omega
  have hbnd : ∀ y, rowsL 0 (zT, 0, 0) (sp.take n) = some y → Sm y.1 := fun y hy => by
   have := rowsL_len hy hsz (by simp [zT])
   refine ⟨by have := this.2; simp [zT] at this; omega, fun a ha => by have := this.1 a ha; omega⟩
  simp [h1, h1', hS, hn, hw, hsr, hmin]
  refine h0 _ (fun y hy _ => ?_) (fun a b F hy hF => ?_)
  ·rw [List.drop_zero] at hy
   rw [hy]
   have hSm := hbnd y hy
   have hF2 := lF_get (kb := 2) (ka := 61) (L := H.length) (t := y.1) (by omega)
   have hm : n < sp.length := by omega
   have hget : sp[n]? = some sp[n] := List.getElem?_eq_getElem hm
   unfold tabB at hF2
   by_cases e1 : y.2.1 = 0
   ·simp [e1, hF2, hw2, loadT, Tab.row, zT, Fr.get_ins, gleave_free]
   ·by_cases e2 : sp[n] = []
    ·by_cases e3 : y.2.2 = y.1.answers.length
     ·have hC := fun c => chk_frz (c := c) (H := H) (kb := 2) (ka := 61) (t := y.1) (by omega) hSm
      have hR2 := lR_get (kb := 2) (ka := 61) (L := H.length) (t := y.1) (by omega)
      unfold tabB at hR2
      by_cases e4 : chkT y.1 = 0
      ·have q1 := clean_tab (kb := 2) (ka := 61) (t := y.1) (H := H) (l0 := H.length - 1) (F := (lR 2 61 H.length y.1).ins 2 (tabB y.1 (apS (H.length, 61) 1 (y.1.answers.map arow)))) (fun h => by rw [Fr.get_ins_other _ (by decide)]; exact lR_arr h) (by omega)
       unfold tabB at q1
       simp [e1, e2, e3, hF2, hget, srow, hC, e4, hR2, Fr.get_ins, q1, gleave_free]
       unfold loadT Tab.row
       by_cases h5 : y.1.answers = [] <;> simp [h5]
      ·have e4' : (chkT y.1 == 0) = false := by simpa using e4
       simp [e1, e2, e3, hF2, hget, srow, hC, e4, e4', hR2, loadT, Tab.row, zT, Fr.get_ins, gleave_free, bne]
     ·simp [e1, e2, e3, hF2, hget, srow, loadT, Tab.row, zT, Fr.get_ins, gleave_free]
    ·simp [e1, e2, hF2, hget, srow, hw2, loadT, Tab.row, zT, Fr.get_ins, gleave_free]
  ·rw [List.drop_zero] at hy
   rw [hy]
   unfold zeroB at hF
   simp [hF, loadT, Tab.row, zT, Fr.get_ins, gleave_free]
end
theorem join_no {c d : UInt8} (hcd : d ≠ c) : ∀ {ws : List (List UInt8)}, (∀ w ∈ ws, d ∉ w) → d ∉ joinL c ws
 | [], _ => by simp [joinL]
 | [w], h => h w List.mem_cons_self
 | w :: y :: r, h => by
  rw [joinL_cons (by simp)]
  have ih := join_no hcd (ws := y :: r) fun x hx => h x (List.mem_cons_of_mem _ hx)
  intro hm
  rcases List.mem_append.1 hm with hm | hm
  ·exact h w List.mem_cons_self hm
  ·rcases List.mem_cons.1 hm with e | hm
   ·exact hcd e
   ·exact ih hm
def cellW (n : Int) : List UInt8 := if n < 0 then [45] else itoaL n
def headP (t : Tab) : List (List UInt8) := [tableW, itoaL t.packets, itoaL t.passed, stW t.state]
def guestP (a : List Int) : List (List UInt8) := guestW :: a.map cellW
def endP (n : Int) : List (List UInt8) := [endW, itoaL n]
theorem cellS_eq (n : Int) : cellS n = 32 :: cellW n := by unfold cellS cellW; split <;> rfl
theorem join_cells (w : List UInt8) : ∀ a : List Int, joinL 32 (w :: a.map cellW) = w ++ a.flatMap cellS
 | [] => by simp [joinL]
 | n :: a => by
  rw [List.map_cons, joinL_cons (by simp), join_cells (cellW n) a]
  simp [cellS_eq]
theorem gRow_eq (a : List Int) : gRow a = joinL 32 (guestP a) ++ [10] := by
 unfold guestP
 rw [join_cells]
 rfl
theorem headS_eq (t : Tab) : headS t = joinL 32 (headP t) ++ [10] := by
 simp [headS, headP, joinL]
theorem lastS_eq (n : Nat) : lastS n = joinL 32 (endP n) ++ [10] := by
 simp [lastS, endP, joinL]
def rowsT (t : Tab) : List (List UInt8) := joinL 32 (headP t) :: (t.answers.map (fun a => joinL 32 (guestP a)) ++ [joinL 32 (endP t.answers.length)])
theorem flat_map {α : Type} {g : α → List UInt8} {h : α → List UInt8} (e : ∀ x, h x = g x ++ [10]) : ∀ l : List α, l.flatMap h = (l.map g).flatMap fun w => w ++ [10]
 | [] => rfl
 | x :: r => by simp [e, flat_map e r]
theorem saveS_rows (t : Tab) : saveS t = (rowsT t).flatMap fun w => w ++ [10] := by
 unfold saveS rowsT
 rw [headS_eq, lastS_eq, flat_map gRow_eq]
 simp
theorem firstE_all {g : Int → Int} : ∀ {l : List Int}, firstE g l = 0 → ∀ x ∈ l, g x = 0
 | y :: r, h, x, hx => by
  unfold firstE at h
  by_cases hy : g y = 0
  ·rw [if_neg (by simpa using hy)] at h
   rcases List.mem_cons.1 hx with e | e
   ·rw [e]; exact hy
   ·exact firstE_all h x e
  ·rw [if_pos hy] at h
   exact absurd h hy
structure GoodT (t : Tab) : Prop where
 p : 1 ≤ t.packets ∧ t.packets ≤ 9
 q : 0 ≤ t.passed ∧ t.passed ≤ 9
 s : 1 ≤ t.state ∧ t.state ≤ 4
 n : 1 ≤ t.answers.length ∧ t.answers.length ≤ 12
 a : ∀ a ∈ t.answers, a.length ≤ 9 ∧ ∀ x ∈ a, -1 ≤ x ∧ x ≤ 8
theorem goodT {t : Tab} (h : chkT t = 0) : GoodT t := by
 obtain ⟨g1, g2, g3, g4, g5, g6, g7, g8, g9⟩ := chkT_good h
 refine ⟨⟨g1, g2⟩, ⟨g3, by omega⟩, ⟨g5, g6⟩, ⟨by have := List.length_pos_iff.2 g7; omega, g8⟩, fun a ha => ?_⟩
 have hr := rowsE_mem g9 a ha
 unfold rowE at hr
 split at hr
 ·rename_i hw; exact absurd hr hw
 ·rename_i hw
  have hw0 : wrF a t.packets = 0 := Decidable.not_not.1 hw
  have hl := wrF_len hw0
  unfold wrF at hw0
  rw [if_neg (by simpa using hl)] at hw0
  refine ⟨by omega, fun x hx => ?_⟩
  have := firstE_all hw0 x hx
  unfold ansE at this
  split at this
  ·rename_i hb; exact inB_iff.1 hb
  ·omega
theorem cellW_no {n : Int} (h : -1 ≤ n) {c : UInt8} (hc : c.toNat < 45) : c ∉ cellW n := by
 unfold cellW
 split
 ·intro hm; simp at hm; subst hm; simp at hc
 ·exact itoa_no (by omega) (by omega)
theorem stW_no {s : Int} {c : UInt8} (hc : c.toNat < 48) : c ∉ stW s := by
 unfold stW
 intro hm
 split at hm
 ·simp at hm; rcases hm with rfl | rfl | rfl | rfl <;> simp at hc
 ·split at hm
  ·simp at hm; rcases hm with rfl | rfl | rfl | rfl | rfl | rfl <;> simp at hc
  ·split at hm
   ·simp at hm; rcases hm with rfl | rfl | rfl | rfl | rfl | rfl <;> simp at hc
   ·simp at hm; rcases hm with rfl | rfl | rfl | rfl | rfl <;> simp at hc
theorem headP_no {t : Tab} (h : GoodT t) {c : UInt8} (hc : c.toNat < 45) : ∀ w ∈ headP t, c ∉ w := fun w hw => by
 have h1 := h.p
 have h2 := h.q
 simp [headP] at hw
 rcases hw with rfl | rfl | rfl | rfl
 ·intro hm; simp [tableW] at hm; rcases hm with rfl | rfl | rfl | rfl | rfl <;> simp at hc
 ·exact itoa_no (by omega) (by omega)
 ·exact itoa_no (by omega) (by omega)
 ·exact stW_no (by omega)
theorem guestP_no {a : List Int} (h : ∀ x ∈ a, -1 ≤ x ∧ x ≤ 8) {c : UInt8} (hc : c.toNat < 45) : ∀ w ∈ guestP a, c ∉ w := fun w hw => by
 rcases List.mem_cons.1 hw with rfl | hw
 ·intro hm; simp [guestW] at hm; rcases hm with rfl | rfl | rfl | rfl | rfl <;> simp at hc
 ·obtain ⟨n, hn, rfl⟩ := List.mem_map.1 hw
  exact cellW_no (h n hn).1 hc
theorem endP_no {n : Int} (h : 0 ≤ n) {c : UInt8} (hc : c.toNat < 45) : ∀ w ∈ endP n, c ∉ w := fun w hw => by
 simp [endP] at hw
 rcases hw with rfl | rfl
 ·intro hm; simp [endW] at hm; rcases hm with rfl | rfl | rfl <;> simp at hc
 ·exact itoa_no h (by omega)
theorem rowsT_no {t : Tab} (h : GoodT t) : ∀ w ∈ rowsT t, (10 : UInt8) ∉ w := fun w hw => by
 unfold rowsT at hw
 rcases List.mem_cons.1 hw with rfl | hw
 ·exact join_no (by decide) (headP_no h (by decide))
 ·rcases List.mem_append.1 hw with hw | hw
  ·obtain ⟨x, hx, rfl⟩ := List.mem_map.1 hw
   exact join_no (by decide) (guestP_no (h.a x hx).2 (by decide))
  ·rw [List.mem_singleton] at hw
   subst hw
   exact join_no (by decide) (endP_no (by omega) (by decide))
theorem posW_st {s : Int} (h : 1 ≤ s ∧ s ≤ 4) : posW (stW s) stL 0 = s := by
 have : s = 1 ∨ s = 2 ∨ s = 3 ∨ s = 4 := by omega
 rcases this with rfl | rfl | rfl | rfl <;> decide
theorem row_head {t : Tab} (h : GoodT t) (n0 : Int) : rowL 0 (zT, 0, n0) (joinL 32 (headP t)) = some (⟨t.packets, t.passed, t.state, []⟩, 0, n0) := by
 unfold rowL
 rw [split_words (by simp [headP]) (headP_no h (by decide)), if_neg (by simp), if_pos rfl]
 have : headV (headP t) = some ⟨t.packets, t.passed, t.state, []⟩ := by
  unfold headV headP
  show (if tableW = tableW then _ else _) = _
  rw [if_pos rfl, numV_itoa (by have := h.p; omega) (by have := h.p; omega), numV_itoa (by have := h.q; omega) (by have := h.q; omega), posW_st h.s]
  simp only
  rw [if_pos (by have := h.s; omega)]
 rw [this]
theorem itoa_ne_minus {n : Int} (h : 0 ≤ n) : itoaL n ≠ [45] := fun e => by
 have := itoa_mem h 45 (by rw [e]; simp)
 have h2 : (45 : UInt8).toNat = 45 := rfl
 omega
theorem cellsV_cells : ∀ {a : List Int}, (∀ x ∈ a, -1 ≤ x ∧ x ≤ 8) → cellsV (a.map cellW) = some a
 | [], _ => rfl
 | n :: a, h => by
  have h1 := h n List.mem_cons_self
  have hc : cellV (cellW n) = some n := by
   unfold cellW cellV
   split
   ·rw [if_pos rfl]; congr 1; omega
   ·rw [if_neg (itoa_ne_minus (by omega)), numV_itoa (by omega) (by omega)]
  rw [List.map_cons, cellsV, hc]
  simp only
  rw [cellsV_cells fun x hx => h x (List.mem_cons_of_mem _ hx)]
theorem row_guest {t : Tab} {a : List Int} {i : Nat} (hi : i ≠ 0) (h : ∀ x ∈ a, -1 ≤ x ∧ x ≤ 8) (n0 : Int) : rowL i (t, 0, n0) (joinL 32 (guestP a)) = some ({ t with answers := t.answers ++ [a] }, 0, n0) := by
 unfold rowL
 have e : (guestP a).drop 1 = a.map cellW := rfl
 rw [split_words (by simp [guestP]) (guestP_no h (by decide)), if_neg (by simp), if_neg hi, if_pos (show (guestP a).head? = some guestW from rfl), e, cellsV_cells h]
theorem row_end {t : Tab} {n : Int} {i : Nat} (hi : i ≠ 0) (h : 0 ≤ n ∧ n ≤ 1000) (n0 : Int) : rowL i (t, 0, n0) (joinL 32 (endP n)) = some (t, (i : Int) + 1, n) := by
 unfold rowL
 rw [split_words (by simp [endP]) (endP_no h.1 (by decide)), if_neg (by simp), if_neg hi, if_neg (by simp [endP]; decide)]
 show (if endW = endW then _ else _) = _
 rw [if_pos rfl, numV_itoa h.1 (by omega)]
theorem rows_guests : ∀ (xs : List (List Int)) (t : Tab) (i : Nat) (rest : List (List UInt8)), i ≠ 0 → (∀ a ∈ xs, ∀ x ∈ a, -1 ≤ x ∧ x ≤ 8) →
  rowsL i (t, 0, 0) (xs.map (fun a => joinL 32 (guestP a)) ++ rest) = rowsL (i + xs.length) ({ t with answers := t.answers ++ xs }, 0, 0) rest
 | [], t, i, rest, _, _ => by simp
 | x :: xs, t, i, rest, hi, h => by
  rw [List.map_cons, List.cons_append, rowsL, row_guest hi (h x List.mem_cons_self)]
  simp only
  rw [rows_guests xs _ _ _ (by omega) fun y hy => h y (List.mem_cons_of_mem _ hy)]
  have e1 : i + 1 + xs.length = i + (xs.length + 1) := by omega
  simp [e1]
theorem cellS_short {n : Int} (h : -1 ≤ n ∧ n ≤ 8) : (cellS n).length ≤ 5 := by
 unfold cellS
 split
 ·simp
 ·have := itoa_short (n := n) (by omega) (by omega)
  simp; omega
theorem flat_short {α : Type} {g : α → List UInt8} {m : Nat} : ∀ {l : List α}, (∀ x ∈ l, (g x).length ≤ m) → (l.flatMap g).length ≤ m * l.length
 | [], _ => by simp
 | x :: l, h => by
  have h1 := flat_short fun y hy => h y (List.mem_cons_of_mem _ hy)
  have h2 := h x List.mem_cons_self
  simp only [List.flatMap_cons, List.length_append, List.length_cons, Nat.mul_add]
  omega
theorem saveS_short {t : Tab} (h : GoodT t) : (saveS t).length ≤ 900 := by
 have h1 : (t.answers.flatMap gRow).length ≤ 60 * t.answers.length := flat_short fun a ha => by
  have := flat_short (g := cellS) (m := 5) (l := a) fun x hx => cellS_short ((h.a a ha).2 x hx)
  have := (h.a a ha).1
  unfold gRow
  simp [guestW] at *
  omega
 have h2 := headS_len t
 have h3 := lastS_len t.answers.length
 have h4 := h.n
 unfold saveS
 simp
 simp at h1
 omega
theorem load_save {t : Tab} (h : chkT t = 0) : loadE (saveS t) = (t, 0, 0) := by
 have hf := goodT h
 have hs := saveS_short hf
 unfold loadE
 rw [if_neg (by omega), saveS_rows, split_rows (rowsT_no hf)]
 have hl : (rowsT t ++ [[]]).length - 1 = (rowsT t).length := by simp
 rw [hl, List.take_left]
 have hr : rowsL 0 (zT, 0, 0) (rowsT t) = some (t, ((1 + t.answers.length : Nat) : Int) + 1, (t.answers.length : Int)) := by
  unfold rowsT
  rw [rowsL, row_head hf]
  simp only
  rw [rows_guests _ _ _ _ (by omega) (fun a ha => (hf.a a ha).2), rowsL, row_end (by omega) ⟨by omega, by have := hf.n; omega⟩]
  simp [rowsL]
 rw [hr]
 have hg : (rowsT t ++ [[]]).getD (rowsT t).length [] = [] := by simp
 simp only
 rw [if_neg (fun hh => by rcases hh with hh | hh; omega; exact hh hg), if_neg (by simp), if_neg (by simpa using h)]
section
variable {c : Nat} {H : Heap}
end
end Go.Gh
