/- The program's search by sets: the inner loops. -/
import Derived.Test.YthcpepcmnmlmeaaSb
namespace Go.Gh
open Go.Proofs
set_option linter.unusedSimpArgs false
set_option linter.unusedVariables false
set_option linter.unnecessarySimpa false
set_option maxRecDepth 100000
set_option maxHeartbeats 4000000
/-- Where what is kept lies: told as a pure slice, or in the function's frame. -/
inductive KeptAt (L : Nat) (Fm : Fr) (K : List Int) : GV → Prop
  | pure : KeptAt L Fm K (.pure (.slice (K.map irow)))
  | hdr (v : Nat) (ro : Bool) (hv : v ≤ K.length) (h : Fm.get 46 = some (.arr 1 (K.map irow) v ro)) : KeptAt L Fm K (.hdr (L, 46) 1 K.length 0 K.length)
theorem KeptAt.clean {L : Nat} {Fm : Fr} {K : List Int} {g : GV} (h : KeptAt L Fm K g) {H : Heap} {l0 : Nat} (hl : L ≤ l0) : clean H l0 g = g := by
  cases h with
  | pure => rfl
  | hdr v ro hv h => simp [hl]
def nxF (N : List Int) (v : Nat) : Fr := [(28737, .arr 1 (N.map irow) v false)]
theorem y_loop {H : Heap} {Fm : Fr} {a b : List Int} {A x B set : Nat} {K : List Int} {g9 : GV} {kv : Int} {cm : Nat → Nat} {tab : List Nat} (hg : KeptAt H.length Fm K g9) (hF : Fm.get 7 = some (.box (cellsT tab))) (htl : tab.length = 81) (hx : x ≤ 8) (hB : B ≤ 9) (hs : set < 2 ^ B)
    (htab : ∀ y (hy : y < 9), tab.getD (x * 9 + y) 0 = cm y) (hcm : ∀ y, cm y ≤ 9) (hk0 : 0 ≤ kv) (hk : kv ≤ 100) {M : Int} (hM : M ≤ 1000) (hMk : kv + 9 ≤ M) (Q : GX → GSt → Prop) :
    ∀ (j y : Nat) (N : List Int) (v : Nat), y + j = B → N.length = 2 ^ B → v ≤ 2 ^ B → Bd M N → (∀ v', v' ≤ 2 ^ B → Q (.exit 8) ⟨[(0, .pure (.slice (a.map irow))), (1, .pure (.slice (b.map irow))), (7, .bptr (H.length, 7) 0), (11, .pure (.int .i64 (x : Nat))), (12, .hdr (H.length + 1, 28737) 1 (2 ^ B) 0 (2 ^ B)), (59, .pure (.int .i64 (A : Nat))), (60, .pure (.int .i64 (x : Nat))), (65, g9), (66, .pure (.int .i64 ((2 ^ B : Nat) : Int))), (67, .pure (.int .i64 (set : Nat)))], [] :: nxF (yF cm kv set j y N) v' :: Fm :: H, 112⟩) →
    WPL KC needT 69 (lp Try.f69 4) [0, 1, 7, 11, 12, 13, 14, 59, 60, 65, 66, 67, 75, 76] [0, 1, 7, 11, 12, 59, 60, 65, 66, 67] Q
      [(0, .pure (.slice (a.map irow))), (1, .pure (.slice (b.map irow))), (7, .bptr (H.length, 7) 0), (11, .pure (.int .i64 (x : Nat))), (12, .hdr (H.length + 1, 28737) 1 (2 ^ B) 0 (2 ^ B)), (13, .pure (.int .i64 (set : Nat))), (14, .pure (.int .i64 kv)), (59, .pure (.int .i64 (A : Nat))), (60, .pure (.int .i64 (x : Nat))), (65, g9), (66, .pure (.int .i64 ((2 ^ B : Nat) : Int))), (67, .pure (.int .i64 (set : Nat))), (75, .pure (.int .i64 (B : Nat))), (76, .pure (.int .i64 (y : Nat)))] ([] :: nxF N v :: Fm :: H) 112 := by
  have g1 := fun H' => hg.clean (H := H') (l0 := H.length + 1) (by omega)
  have g2 := fun H' => hg.clean (H := H') (l0 := H.length + 1 + 1) (by omega)
  have g0 := fun H' => hg.clean (H := H') (l0 := H.length) (by omega)
  have hp9 : (2 : Nat) ^ B ≤ 512 := Nat.pow_le_pow_right (n := 2) (by decide) hB
  obtain ⟨n, hn⟩ : ∃ n : Nat, 2 ^ B = n := ⟨_, rfl⟩
  intro j
  induction j with
  | zero =>
    intro y N v hy hNl hv hb h1
    apply WPL_step
    conv => arg 4; whnf
    have : ¬ y < B := by omega
    have h1' := h1 v hv
    simp only [hn] at h1' ⊢
    simp [this, g1, g2, g0, nxF]
    simpa [yF, nxF] using h1'
  | succ j ih =>
    intro y N v hy hNl hv hb h1
    have hyB : y < B := by omega
    have hw := w64 (x := (y : Int) + 1) (by omega) (by omega)
    have be := bit_eq set y (by omega) (by omega)
    have hneg : ¬ (y : Int) < 0 := by omega
    simp only [yF] at h1
    apply WPL_step
    conv => arg 4; whnf
    cases hbit : set.testBit y with
    | true =>
      rw [hbit] at h1 be
      rw [if_neg (by simp)] at h1
      have ih' := ih (y + 1) N v (by omega) hNl hv hb h1
      simp only [hn] at ih' ⊢
      simp only [Bool.not_true] at be
      simp [hyB, hneg, be, hw, g1, g2, g0, nxF]
      simpa [nxF] using ih'
    | false =>
      rw [hbit] at h1 be
      rw [if_pos rfl] at h1
      simp only [Bool.not_false] at be
      have se := shl_eq y (by omega)
      rw [Int.one_mul] at se
      have hpl := or_lt hs hyB
      have hy9 : (2 : Nat) ^ y ≤ 512 := Nat.pow_le_pow_right (n := 2) (by decide) (show y ≤ 9 by omega)
      have bo := bor_nat (a := set) (b := 2 ^ y) (by omega) (by omega)
      obtain ⟨q, hq⟩ : ∃ q : Nat, 2 ^ y = q := ⟨_, rfl⟩
      rw [hq] at se bo h1 hpl
      obtain ⟨p, hp⟩ : ∃ p : Nat, set ||| q = p := ⟨_, rfl⟩
      rw [hp] at bo h1 hpl
      have hpN : p < N.length := by omega
      have hbp := hb.getD hpN
      have hcy := hcm y
      have hNp : N.getD p 0 = N[p] := getD_lt hpN
      rw [hNp] at h1 hbp
      have hw2 := w64 (x := kv + (cm y : Nat)) (by omega) (by omega)
      have hx9 : ¬ (9 : Int) ≤ x := by omega
      have hy9' : ¬ (9 : Int) ≤ y := by omega
      have hxn : ¬ (x : Int) < 0 := by omega
      have hpn : ¬ (p : Int) < 0 := by omega
      have ho : x * 9 + y < tab.length := by omega
      have ht := cellsT_get ho
      have ht2 : tab[x * 9 + y] = cm y := by rw [← htab y (by omega), getD_lt ho]
      rw [ht2] at ht
      have hmx : (if N[p] < kv + (cm y : Nat) then kv + (cm y : Nat) else N[p]) = mx2 N[p] (kv + cm y) := rfl
      have hmb : -1 ≤ mx2 N[p] (kv + cm y) ∧ mx2 N[p] (kv + cm y) ≤ M := by unfold mx2; split <;> omega
      have ih' := ih (y + 1) (N.set p (mx2 N[p] (kv + cm y))) (2 ^ B) (by omega) (by rw [List.length_set]; exact hNl) (Nat.le_refl _) (hb.set p hmb.1 hmb.2) h1
      simp only [hn] at ih' hNl hpl hv ⊢
      have hpn' : p < n := by omega
      have hnN : n ≤ N.length := by omega
      simp [hyB, hneg, be, se, bo, hw, hw2, g1, g2, g0, nxF, hpN, hpn, hpn', hv, hnN, hNl, hx9, hy9', hxn, hF, htl, ho, ht, irow, splice]
      simpa [nxF, irow, mx2] using ih'
theorem yF_bd {cm : Nat → Nat} {kv : Int} {set B : Nat} {M : Int} (hs : set < 2 ^ B) (hk : -1 ≤ kv) (hcm : ∀ y, kv + cm y ≤ M) : ∀ j y N, y + j ≤ B → N.length = 2 ^ B → Bd M N → Bd M (yF cm kv set j y N)
  | 0, _, _, _, _, h => h
  | j + 1, y, N, hy, hl, h => by
    simp only [yF]
    have hp := or_lt hs (show y < B by omega)
    have hg := h.getD (i := set ||| 2 ^ y) (by omega)
    have hc := hcm y
    refine yF_bd hs hk hcm j (y + 1) _ (by omega) ?_ ?_
    · split
      · rw [List.length_set]; exact hl
      · exact hl
    · split
      · refine h.set _ ?_ ?_
        · unfold mx2; split <;> omega
        · unfold mx2; split <;> omega
      · exact h
theorem s_loop {H : Heap} {Fm : Fr} {a b : List Int} {A x B : Nat} {K : List Int} {g9 : GV} {cm : Nat → Nat} {tab : List Nat} (hg : KeptAt H.length Fm K g9) (hF : Fm.get 7 = some (.box (cellsT tab))) (htl : tab.length = 81) (hx : x ≤ 8) (hB : B ≤ 9) (eB : blkF b = B) (hb0 : b ≠ []) (hbn : b.length ≤ 1000000) (hbr : ∀ x ∈ b, 0 ≤ x ∧ x ≤ 1000000)
    (htab : ∀ y (hy : y < 9), tab.getD (x * 9 + y) 0 = cm y) (hcm : ∀ y, cm y ≤ 9) {M : Int} (hM : M ≤ 90) (hK : Bd M K) (hKl : K.length = 2 ^ B) (Q : GX → GSt → Prop) :
    ∀ (j s : Nat) (N : List Int) (v : Nat), s + j = 2 ^ B → N.length = 2 ^ B → v ≤ 2 ^ B → Bd (M + 9) N → (∀ v', v' ≤ 2 ^ B → Q (.exit 6) ⟨[(0, .pure (.slice (a.map irow))), (1, .pure (.slice (b.map irow))), (7, .bptr (H.length, 7) 0), (12, .hdr (H.length + 1, 28737) 1 (2 ^ B) 0 (2 ^ B)), (59, .pure (.int .i64 (A : Nat))), (60, .pure (.int .i64 (x : Nat)))], nxF (sF cm K B j s N) v' :: Fm :: H, 112⟩) →
    WPL KC needT 69 (lp Try.f69 3) [0, 1, 7, 11, 12, 59, 60, 65, 66, 67] [0, 1, 7, 12, 59, 60] Q
      [(0, .pure (.slice (a.map irow))), (1, .pure (.slice (b.map irow))), (7, .bptr (H.length, 7) 0), (11, .pure (.int .i64 (x : Nat))), (12, .hdr (H.length + 1, 28737) 1 (2 ^ B) 0 (2 ^ B)), (59, .pure (.int .i64 (A : Nat))), (60, .pure (.int .i64 (x : Nat))), (65, g9), (66, .pure (.int .i64 ((2 ^ B : Nat) : Int))), (67, .pure (.int .i64 (s : Nat)))] (nxF N v :: Fm :: H) 112 := by
  have g1 := fun H' => hg.clean (H := H') (l0 := H.length + 1) (by omega)
  have g2 := fun H' => hg.clean (H := H') (l0 := H.length + 1 + 1) (by omega)
  have g0 := fun H' => hg.clean (H := H') (l0 := H.length) (by omega)
  have hp9 : (2 : Nat) ^ B ≤ 512 := Nat.pow_le_pow_right (n := 2) (by decide) hB
  obtain ⟨n, hn⟩ : ∃ n : Nat, 2 ^ B = n := ⟨_, rfl⟩
  have Bl := fun c (H : Heap) (hH : 0 < H.length) => blocks_ok (c := c) (H := H) b hb0 hbn hbr hH
  rw [eB] at Bl
  intro j
  induction j with
  | zero =>
    intro s N v hs hNl hv hb h1
    apply WPL_step
    conv => arg 4; whnf
    have h1' := h1 v hv
    rw [hn] at hs
    have : ¬ s < n := by omega
    simp only [hn] at h1' ⊢
    simp [this, g1, g2, g0, nxF]
    simpa [sF, nxF] using h1'
  | succ j ih =>
    intro s N v hs hNl hv hb h1
    have hsn : s < 2 ^ B := by omega
    have hsK : s < K.length := by omega
    have hw := w64 (x := (s : Int) + 1) (by omega) (by omega)
    have eK : K.getD s 0 = K[s] := getD_lt hsK
    have bK := hK _ (List.getElem_mem hsK)
    simp only [sF] at h1
    rw [eK] at h1
    by_cases hneg : K[s] < 0
    · rw [if_pos hneg] at h1
      have ih' := ih (s + 1) N v (by omega) hNl hv hb h1
      have hsn' : s < n := by omega
      simp only [hn] at ih' hNl hKl ⊢
      cases hg with
      | pure =>
        apply WPL_step
        conv => arg 4; whnf
        simp [hsn', hsK, irow, hneg, hw, nxF]
        simpa [nxF, irow] using ih'
      | hdr v0 ro hv0 hF46 =>
        have hKn : n ≤ K.length := by omega
        apply WPL_step
        conv => arg 4; whnf
        simp [hsn', hsK, irow, hneg, hw, nxF, hF46, hv0]
        simpa [nxF, irow] using ih'
    · rw [if_neg hneg] at h1
      have hbd := yF_bd (cm := cm) (kv := K[s]) (M := M + 9) hsn (by omega) (fun y => by have := hcm y; omega) B 0 N (by omega) hNl hb
      have ih' := fun v' (hv' : v' ≤ 2 ^ B) => ih (s + 1) (yF cm K[s] s B 0 N) v' (by omega) (by rw [yF_len]; exact hNl) hv' hbd h1
      have L := fun Q => y_loop (a := a) (b := b) (A := A) (kv := K[s]) hg hF htl hx hB hsn htab hcm (by omega) (by omega) (M := M + 9) (by omega) (by omega) Q B 0 N v (by omega) hNl hv hb
      have hsn' : s < n := by omega
      simp only [hn] at ih' L hNl hKl ⊢
      simp [nxF] at L
      cases hg with
      | pure =>
        apply WPL_step
        conv => arg 4; whnf
        simp [hsn', hsK, irow, hneg, hw, Bl, nxF]
        refine L _ (fun v' hv' => ?_)
        simp [hw]
        simpa [nxF, irow] using ih' v' hv'
      | hdr v0 ro hv0 hF46 =>
        have hKn : n ≤ K.length := by omega
        apply WPL_step
        conv => arg 4; whnf
        simp [hsn', hsK, irow, hneg, hw, nxF, hF46, hv0, Bl]
        refine L _ (fun v' hv' => ?_)
        simp [hw]
        simpa [nxF, irow] using ih' v' hv'
end Go.Gh


/- The program's search by sets: its rounds; what lies there at first. -/
namespace Go.Gh
open Go.Proofs
set_option linter.unusedSimpArgs false
set_option linter.unusedVariables false
set_option linter.unnecessarySimpa false
set_option maxRecDepth 100000
set_option maxHeartbeats 4000000
theorem sF_bd {cm : Nat → Nat} {K : List Int} {B : Nat} {M : Int} (hM : 0 ≤ M) (hcm : ∀ y, cm y ≤ 9) (hK : Bd M K) (hKl : K.length = 2 ^ B) : ∀ j s N, s + j ≤ 2 ^ B → N.length = 2 ^ B → Bd (M + 9) N → Bd (M + 9) (sF cm K B j s N)
  | 0, _, _, _, _, h => h
  | j + 1, s, N, hs, hl, h => by
    simp only [sF]
    have eK : K.getD s 0 = K[s]'(by omega) := getD_lt (by omega)
    have bK := hK _ (List.getElem_mem (show s < K.length by omega))
    rw [eK]
    refine sF_bd hM hcm hK hKl j (s + 1) _ (by omega) ?_ ?_
    · split
      · exact hl
      · rw [yF_len]; exact hl
    · split
      · exact h
      · exact yF_bd (by omega) (by omega) (fun y => by have := hcm y; omega) B 0 N (by omega) hl h
theorem Bd.mono {m m' : Int} {l : List Int} (h : Bd m l) (hm : m ≤ m') : Bd m' l := fun x hx => ⟨(h x hx).1, by have := (h x hx).2; omega⟩
/-- The copy that a round begins with. -/
theorem clone_at {H : Heap} {Fm : Fr} {K : List Int} {g9 : GV} (hg : KeptAt H.length Fm K g9) (h0 : K ≠ []) (hn : K.length ≤ 1000000) : ∃ Fm', KeptAt H.length Fm' K g9 ∧ (∀ k, k ≠ 46 → Fm'.get k = Fm.get k) ∧
    gcall KC (geval KC) 108 [g9] 64 ([] :: Fm :: H) = some (.hdr (H.length + 1, 28737) 1 K.length 0 K.length, nxF K 0 :: Fm' :: H) := by
  have k7 : newKey 64 7 = 28737 := by decide
  cases hg with
  | pure =>
    refine ⟨Fm, .pure, fun _ _ => rfl, ?_⟩
    obtain ⟨x, l', rfl⟩ := List.exists_cons_of_ne_nil h0
    rw [gcall_frz' rfl rfl rfl]
    have := clone_ok0 (c := 64) (H := [] :: Fm :: H) (x :: l') h0 hn (by simp) (by simp)
    rw [k7] at this
    simpa [nxF, frzVals, frzVal, frzCell] using this
  | hdr v ro hv hF =>
    refine ⟨Fm.ins 46 (.arr 1 (K.map irow) v true), .hdr v true hv (Fr.get_ins ..), fun k hk => Fr.get_ins_other _ hk _, ?_⟩
    rw [gcall_frz' rfl rfl rfl]
    have hr : List.take K.length (K.map irow) = K.map irow := List.take_of_length_le (by simp)
    have e : frzVals ([] :: Fm :: H) [.hdr (H.length, 46) 1 K.length 0 K.length] = ([.pure (.slice (K.map irow))], [] :: Fm.ins 46 (.arr 1 (K.map irow) v true) :: H) := by
      simp [frzVals, frzVal, frzCell, hF, hv, hr]
    rw [e]
    have := clone_ok0 (c := 64) (H := [] :: Fm.ins 46 (.arr 1 (K.map irow) v true) :: H) K h0 hn (by simp) (by simp)
    rw [k7] at this
    simpa [nxF] using this
theorem r_loop {H : Heap} {a b : List Int} {A B : Nat} {com : Nat → Nat → Nat} {tab : List Nat} (htl : tab.length = 81) (hA : A ≤ 9) (hB : B ≤ 9) (eB : blkF b = B) (hb0 : b ≠ []) (hbn : b.length ≤ 1000000) (hbr : ∀ x ∈ b, 0 ≤ x ∧ x ≤ 1000000)
    (htab : ∀ x y, x < 9 → y < 9 → tab.getD (x * 9 + y) 0 = com x y) (hcm : ∀ x y, com x y ≤ 9) (Q : GX → GSt → Prop) :
    ∀ (j x : Nat) (Fm : Fr) (g9 : GV) (K : List Int), x + j = A → K.length = 2 ^ B → Bd (9 * x) K → KeptAt H.length Fm K g9 → Fm.get 7 = some (.box (cellsT tab)) →
      (∀ Fm' g', (g' = .pure (.slice ((rF com B j x K).map irow)) ∨ (j = 0 ∧ g' = g9)) → Q (.exit 4) ⟨[(0, .pure (.slice (a.map irow))), (9, g')], Fm' :: H, 112⟩) →
    WPL KC needT 69 (lp Try.f69 2) [0, 1, 7, 9, 59, 60] [0, 9] Q
      [(0, .pure (.slice (a.map irow))), (1, .pure (.slice (b.map irow))), (7, .bptr (H.length, 7) 0), (9, g9), (59, .pure (.int .i64 (A : Nat))), (60, .pure (.int .i64 (x : Nat)))] (Fm :: H) 112 := by
  have hp9 : (2 : Nat) ^ B ≤ 512 := Nat.pow_le_pow_right (n := 2) (by decide) hB
  have hp0 : 0 < (2 : Nat) ^ B := Nat.pow_pos (by decide)
  intro j
  induction j with
  | zero =>
    intro x Fm g9 K hx hKl hK hg hF h1
    have g0 := fun H' => hg.clean (H := H') (l0 := H.length) (by omega)
    have : ¬ x < A := by omega
    apply WPL_step
    conv => arg 4; whnf
    simp [this, g0]
    exact h1 Fm g9 (.inr ⟨rfl, rfl⟩)
  | succ j ih =>
    intro x Fm g9 K hx hKl hK hg hF h1
    have hxA : x < A := by omega
    have hw := w64 (x := (x : Int) + 1) (by omega) (by omega)
    have hK0 : K ≠ [] := fun e => by rw [e] at hKl; simp at hKl; omega
    obtain ⟨Fm', hg', hFo, eC⟩ := clone_at hg hK0 (by omega)
    have hF' : Fm'.get 7 = some (.box (cellsT tab)) := (hFo 7 (by decide)).trans hF
    have L := fun Q => s_loop (a := a) (A := A) (x := x) (cm := com x) hg' hF' htl (by omega) hB eB hb0 hbn hbr (fun y hy => htab x y (by omega) hy) (hcm x) (M := 9 * x) (by omega) hK hKl Q (2 ^ B) 0 K 0 (by omega) hKl (Nat.zero_le _) (hK.mono (by omega))
    have hbd := sF_bd (cm := com x) (M := 9 * x) (by omega) (hcm x) hK hKl (2 ^ B) 0 K (by omega) hKl (hK.mono (by omega))
    simp only [rF] at h1
    obtain ⟨K', hK'⟩ : ∃ K', sF (com x) K B (2 ^ B) 0 K = K' := ⟨_, rfl⟩
    have hKl' : K'.length = 2 ^ B := by rw [← hK', sF_len]; exact hKl
    rw [hK'] at hbd h1 L
    have ih' := ih (x + 1) Fm' (.pure (.slice (K'.map irow))) K' (by omega) hKl' (by
      have e : (9 * ((x + 1 : Nat) : Int)) = 9 * x + 9 := by omega
      rw [e]; exact hbd) .pure hF' (fun Fm'' g'' hg'' => h1 Fm'' g'' (.inl (by
        rcases hg'' with e | ⟨e0, e⟩
        · exact e
        · rw [e, e0]; rfl)))
    rw [hKl] at eC
    obtain ⟨n, hn⟩ : ∃ n : Nat, 2 ^ B = n := ⟨_, rfl⟩
    simp only [hn] at hKl hKl' eC L
    have hr : List.take n (K'.map irow) = K'.map irow := List.take_of_length_le (by simp [hKl'])
    have hlen : ∀ (H' : Heap), lenD (some (.slice 3)) H' g9 = some (n : Int) := fun H' => by
      cases hg with
      | pure => simp [hKl]
      | hdr => simp [hKl]
    simp at L
    apply WPL_step
    conv => arg 4; whnf
    simp [hxA, eC, hlen]
    refine L _ (fun v' hv' => ?_)
    have hkn : n ≤ K'.length := by omega
    have hnl : ¬ H.length + 1 ≤ H.length := by omega
    simp [hw, nxF, hv', hkn, hr, hnl]
    simpa using ih'
end Go.Gh


/- The program's search by sets: the whole. -/
namespace Go.Gh
open Go.Proofs
set_option linter.unusedSimpArgs false
set_option linter.unusedVariables false
set_option linter.unnecessarySimpa false
set_option maxRecDepth 100000
set_option maxHeartbeats 4000000
def comTab (a b : List Int) : List Nat := (List.range 81).map fun j => comL ((j / 9 : Nat) : Int) ((j % 9 : Nat) : Int) a b
theorem comTab_len {a b : List Int} : (comTab a b).length = 81 := by simp [comTab]
theorem comTab_get {a b : List Int} {x y : Nat} (hx : x < 9) (hy : y < 9) : (comTab a b).getD (x * 9 + y) 0 = comL x y a b := by
  have h : x * 9 + y < 81 := by omega
  have e1 : (x * 9 + y) / 9 = x := by omega
  have e2 : (x * 9 + y) % 9 = y := by omega
  rw [getD_lt (by rw [comTab_len]; exact h)]
  simp only [comTab, List.getElem_map, List.getElem_range, e1, e2]
theorem comL_snoc (x y p q : Int) : ∀ a b : List Int, a.length = b.length → comL x y (a ++ [p]) (b ++ [q]) = comL x y a b + if p = x ∧ q = y then 1 else 0
  | [], [], _ => by simp [comL]
  | [], _ :: _, h => by simp at h
  | _ :: _, [], h => by simp at h
  | u :: a, v :: b, h => by
    have := comL_snoc x y p q a b (by simpa using h)
    simp only [List.cons_append, comL, this]
    omega
theorem comTab_snoc {a b : List Int} {p q : Nat} (h : a.length = b.length) (hp : p < 9) (hq : q < 9) : comTab (a ++ [(p : Int)]) (b ++ [(q : Int)]) = (comTab a b).set (p * 9 + q) (comL p q a b + 1) := by
  refine List.ext_getElem (by simp [comTab]) fun j h1 h2 => ?_
  have hj : j < 81 := by simpa [comTab] using h1
  rw [List.getElem_set]
  by_cases e : p * 9 + q = j
  · subst e
    have e1 : (p * 9 + q) / 9 = p := by omega
    have e2 : (p * 9 + q) % 9 = q := by omega
    rw [if_pos rfl]
    simp only [comTab, List.getElem_map, List.getElem_range, e1, e2]
    rw [comL_snoc _ _ _ _ _ _ h, if_pos ⟨rfl, rfl⟩]
  · rw [if_neg e]
    simp only [comTab, List.getElem_map, List.getElem_range]
    rw [comL_snoc _ _ _ _ _ _ h, if_neg (by rintro ⟨h3, h4⟩; omega)]
    rfl
theorem com_loop {H : Heap} {a b : List Int} (hl : a.length = b.length) (hn : a.length ≤ 9) (ha : ∀ x ∈ a, 0 ≤ x ∧ x ≤ 8) (hb : ∀ x ∈ b, 0 ≤ x ∧ x ≤ 8) (Q : GX → GSt → Prop)
    (h1 : Q (.exit 0) ⟨[(0, .pure (.slice (a.map irow))), (1, .pure (.slice (b.map irow))), (7, .bptr (H.length, 7) 0)], [(7, .box (cellsT (comTab a b)))] :: H, 112⟩) : ∀ k i : Nat, i + k = a.length →
    WPL KC needT 69 (lp Try.f69 0) [0, 1, 7, 24, 25] [0, 1, 7] Q [(0, .pure (.slice (a.map irow))), (1, .pure (.slice (b.map irow))), (7, .bptr (H.length, 7) 0), (24, .pure (.int .i64 a.length)), (25, .pure (.int .i64 (i : Nat)))] ([(7, .box (cellsT (comTab (a.take i) (b.take i))))] :: H) 112 := by
  intro k
  induction k with
  | zero =>
    intro i hi
    have e1 : a.take i = a := List.take_of_length_le (by omega)
    have e2 : b.take i = b := List.take_of_length_le (by omega)
    rw [e1, e2]
    apply WPL_step
    conv => arg 4; whnf
    have : ¬ i < a.length := by omega
    simp [this]
    exact h1
  | succ k ih =>
    intro i hi
    have hia : i < a.length := by omega
    have hib : i < b.length := by omega
    have hw := w64 (x := (i : Int) + 1) (by omega) (by omega)
    have ra := ha _ (List.getElem_mem hia)
    have rb := hb _ (List.getElem_mem hib)
    obtain ⟨p, hp⟩ := Int.eq_ofNat_of_zero_le ra.1
    obtain ⟨q, hq⟩ := Int.eq_ofNat_of_zero_le rb.1
    have hp9 : p < 9 := by omega
    have hq9 : q < 9 := by omega
    have ih' := ih (i + 1) (by omega)
    have et : comTab (a.take (i + 1)) (b.take (i + 1)) = (comTab (a.take i) (b.take i)).set (p * 9 + q) (comL p q (a.take i) (b.take i) + 1) := by
      rw [List.take_succ_eq_append_getElem hia, List.take_succ_eq_append_getElem hib, hp, hq]
      exact comTab_snoc (by simp; omega) hp9 hq9
    rw [et] at ih'
    have ho : p * 9 + q < (comTab (a.take i) (b.take i)).length := by rw [comTab_len]; omega
    have ht := cellsT_get ho
    have ht2 : (comTab (a.take i) (b.take i))[p * 9 + q] = comL p q (a.take i) (b.take i) := by rw [← comTab_get hp9 hq9, getD_lt ho]
    rw [ht2] at ht
    have cle := comL_le (p : Int) (q : Int) (a.take i) (b.take i)
    have cle2 : (a.take i).length ≤ 9 := by simp; omega
    have hw2 := w64 (x := (comL p q (a.take i) (b.take i) : Nat) + (1 : Int)) (by omega) (by omega)
    have hs := cellsT_set (n := comL p q (a.take i) (b.take i) + 1) ho
    have hpn : ¬ (9 : Int) ≤ p := by omega
    have hqn : ¬ (9 : Int) ≤ q := by omega
    have tl := comTab_len (a := a.take i) (b := b.take i)
    simp at hs
    apply WPL_step
    conv => arg 4; whnf
    have ho80 : p * 9 + q ≤ 80 := by omega
    simp [hia, hib, irow, hp, hq, hpn, hqn, tl, ho, ho80, ht, hw, hw2, hs]
    simpa [irow] using ih'
def K0 (n : Nat) : List Int := 0 :: List.replicate (n - 1) (-1)
theorem fill_loop {H : Heap} {a b : List Int} {x : Blk} {n : Nat} (hn : n ≤ 512) (Q : GX → GSt → Prop)
    (h1 : ∀ v, v ≤ n → Q (.exit 2) ⟨[(0, .pure (.slice (a.map irow))), (1, .pure (.slice (b.map irow))), (7, .bptr (H.length, 7) 0), (9, .hdr (H.length, 46) 1 n 0 n)], [(7, x), (46, .arr 1 ((List.replicate n (-1)).map irow) v false)] :: H, 112⟩) : ∀ (k i v : Nat), i + k = n → v ≤ n →
    WPL KC needT 69 (lp Try.f69 1) [0, 1, 7, 9, 48, 49] [0, 1, 7, 9] Q [(0, .pure (.slice (a.map irow))), (1, .pure (.slice (b.map irow))), (7, .bptr (H.length, 7) 0), (9, .hdr (H.length, 46) 1 n 0 n), (48, .pure (.int .i64 (n : Nat))), (49, .pure (.int .i64 (i : Nat)))] ([(7, x), (46, .arr 1 ((List.replicate i (-1) ++ List.replicate (n - i) 0).map irow) v false)] :: H) 112 := by
  intro k
  induction k with
  | zero =>
    intro i v hi hv
    have e : i = n := by omega
    subst e
    apply WPL_step
    conv => arg 4; whnf
    simp
    simpa using h1 v hv
  | succ k ih =>
    intro i v hi hv
    have hin : i < n := by omega
    have hw := w64 (x := (i : Int) + 1) (by omega) (by omega)
    have ih' := ih (i + 1) n (by omega) (Nat.le_refl _)
    obtain ⟨rows, hr⟩ : ∃ rows, (List.replicate i (-1 : Int) ++ List.replicate (n - i) 0).map irow = rows := ⟨_, rfl⟩
    have hrl : rows.length = n := by rw [← hr]; simp; omega
    have hset : rows.set i [.int .i64 (-1)] = (List.replicate (i + 1) (-1 : Int) ++ List.replicate (n - (i + 1)) 0).map irow := by
      rw [← hr, show ([PV.int .i64 (-1)] : List PV) = irow (-1) from rfl, ← List.map_set]
      congr 1
      obtain ⟨m, hm⟩ : ∃ m, n - i = m + 1 := ⟨n - i - 1, by omega⟩
      have e3 : List.replicate (i + 1) (-1 : Int) = List.replicate i (-1) ++ [-1] := List.replicate_succ'
      rw [hm, show n - (i + 1) = m by omega, List.set_append_right _ _ (by simp), e3, List.append_assoc]
      simp [List.replicate_succ]
    have hget : rows[i]? = some (irow 0) := by
      rw [← hr, List.getElem?_map]
      simp [show ¬ n - i = 0 by omega, List.getElem?_append, List.getElem?_replicate]
    have hgi : ∀ h : i < rows.length, rows[i]'h = irow 0 := fun h => by
      rw [List.getElem?_eq_getElem h] at hget
      exact Option.some.inj hget
    rw [hr]
    rw [← hset] at ih'
    apply WPL_step
    conv => arg 4; whnf
    simp [hin, hw, hget, hgi, hrl, irow, splice]
    simpa using ih'
end Go.Gh


/- Both searches find the same number. -/
namespace Go.Gh
open Go.Proofs
set_option linter.unusedSimpArgs false
set_option linter.unusedVariables false
set_option linter.unnecessarySimpa false
set_option maxRecDepth 100000
section
variable {com : Nat → Nat} {rec : List Bool → Nat} {T : List Bool}
theorem stepY_best : ∀ j y best, best ≤ stepY com rec T j y best
  | 0, _, _ => Nat.le_refl _
  | j + 1, y, best => by
    simp only [stepY]
    refine Nat.le_trans ?_ (stepY_best j (y + 1) _)
    split <;> omega
theorem stepY_ge : ∀ j y best y', y ≤ y' → y' < y + j → T.getD y' false = false → 0 < com y' → com y' + rec (T.set y' true) ≤ stepY com rec T j y best
  | 0, y, _, y', h1, h2, _, _ => by omega
  | j + 1, y, best, y', h1, h2, h3, h4 => by
    simp only [stepY]
    by_cases e : y' = y
    · subst e
      rw [if_pos ⟨h4, h3⟩]
      exact Nat.le_trans (Nat.le_max_right _ _) (stepY_best j (y' + 1) _)
    · exact stepY_ge j (y + 1) _ y' (by omega) (by omega) h3 h4
theorem stepY_at : ∀ j y best, stepY com rec T j y best = best ∨ ∃ y', y ≤ y' ∧ y' < y + j ∧ T.getD y' false = false ∧ stepY com rec T j y best = com y' + rec (T.set y' true)
  | 0, _, _ => .inl rfl
  | j + 1, y, best => by
    simp only [stepY]
    by_cases h : 0 < com y ∧ T.getD y false = false
    · rw [if_pos h]
      rcases stepY_at j (y + 1) (max best (com y + rec (T.set y true))) with e | ⟨y', a, b, d, e⟩
      · rcases Nat.le_total best (com y + rec (T.set y true)) with hm | hm
        · exact .inr ⟨y, by omega, by omega, h.2, by rw [e, Nat.max_eq_right hm]⟩
        · exact .inl (by rw [e, Nat.max_eq_left hm])
      · exact .inr ⟨y', by omega, by omega, d, e⟩
    · rw [if_neg h]
      rcases stepY_at j (y + 1) best with e | ⟨y', a, b, d, e⟩
      · exact .inl e
      · exact .inr ⟨y', by omega, by omega, d, e⟩
end
/-- Every block that is free in one list is free in the other. -/
def Freer (T T' : List Bool) : Prop := T.length = T'.length ∧ ∀ y, y < T.length → T'.getD y false = false → T.getD y false = false
theorem getD_setL {α : Type} (l : List α) (i j : Nat) (x d : α) (h : i < l.length) : (l.set i x).getD j d = if i = j then x else l.getD j d := by
  rw [List.getD_eq_getElem?_getD, List.getElem?_set, List.getD_eq_getElem?_getD]
  by_cases e : i = j
  · subst e; simp [h]
  · simp [e]
theorem Freer.set {T T' : List Bool} (h : Freer T T') (y : Nat) : Freer (T.set y true) (T'.set y true) := by
  refine ⟨by simp [h.1], fun z hz hf => ?_⟩
  rw [List.length_set] at hz
  by_cases hy : y < T.length
  · rw [getD_setL _ _ _ _ _ hy]
    rw [getD_setL _ _ _ _ _ (by rw [← h.1]; exact hy)] at hf
    split at hf
    · cases hf
    · rename_i e; rw [if_neg e]; exact h.2 z hz hf
  · rw [List.set_eq_of_length_le (by omega)]
    rw [List.set_eq_of_length_le (by rw [← h.1]; omega)] at hf
    exact h.2 z hz hf
theorem stG_free {com : Nat → Nat → Nat} {A : Nat} : ∀ (k : Nat) {T T' : List Bool}, Freer T T' → stG com A k T' ≤ stG com A k T
  | 0, _, _, _ => Nat.le_refl _
  | k + 1, T, T', h => by
    simp only [stG]
    rcases stepY_at (com := com (A - (k + 1))) (rec := stG com A k) (T := T') T'.length 0 (stG com A k T') with e | ⟨y, _, hy, hf, e⟩
    · rw [e]
      exact Nat.le_trans (stG_free k h) (stepY_best _ _ _)
    · rw [e]
      have hyT : y < T.length := by rw [h.1]; omega
      have hf' := h.2 y hyT hf
      have h2 := stG_free (com := com) (A := A) k (h.set y)
      by_cases h0 : 0 < com (A - (k + 1)) y
      · have := stepY_ge (com := com (A - (k + 1))) (rec := stG com A k) (T := T) T.length 0 (stG com A k T) y (by omega) (by omega) hf' h0
        omega
      · have h3 : stG com A k (T'.set y true) ≤ stG com A k T' := stG_free k ⟨by simp, fun z hz hzf => by
          rw [List.getD_eq_getElem?_getD, List.getElem?_set] at hzf
          split at hzf
          · rename_i e1; subst e1
            split at hzf
            · simp at hzf
            · rename_i h5; exact absurd hz (by omega)
          · rw [List.getD_eq_getElem?_getD]; exact hzf⟩
        have h4 := stG_free (com := com) (A := A) k h
        have := stepY_best (com := com (A - (k + 1))) (rec := stG com A k) (T := T) T.length 0 (stG com A k T)
        omega
def tm (B m : Nat) : List Bool := (List.range B).map fun y => m.testBit y
theorem tm_len {B m : Nat} : (tm B m).length = B := by simp [tm]
theorem tm_get {B m y : Nat} (h : y < B) : (tm B m).getD y false = m.testBit y := by
  rw [getD_lt (by rw [tm_len]; exact h)]
  simp [tm]
theorem tm_set {B m y : Nat} (h : y < B) : (tm B m).set y true = tm B (m ||| 2 ^ y) := by
  refine List.ext_getElem (by simp [tm]) fun j h1 h2 => ?_
  have hj : j < B := by simpa [tm] using h2
  rw [List.getElem_set]
  simp only [tm, List.getElem_map, List.getElem_range, Nat.testBit_or, Nat.testBit_two_pow]
  by_cases e : y = j
  · simp [e]
  · simp [e]
theorem tm_zero {B : Nat} : tm B 0 = List.replicate B false := by
  refine List.ext_getElem (by simp [tm]) fun j h1 h2 => ?_
  simp [tm]
section
variable {com : Nat → Nat → Nat} {A B : Nat}
def stM (com : Nat → Nat → Nat) (A B k m : Nat) : Nat := stG com A k (tm B m)
theorem stM_mono (k m : Nat) : stM com A B k m ≤ stM com A B (k + 1) m := by
  unfold stM
  simp only [stG]
  exact stepY_best _ _ _
theorem stM_ge (k m y : Nat) (hy : y < B) (hf : m.testBit y = false) : com (A - (k + 1)) y + stM com A B k (m ||| 2 ^ y) ≤ stM com A B (k + 1) m := by
  have hm := stM_mono (com := com) (A := A) (B := B) k m
  by_cases h0 : 0 < com (A - (k + 1)) y
  · unfold stM
    simp only [stG]
    have := stepY_ge (com := com (A - (k + 1))) (rec := stG com A k) (T := tm B m) (tm B m).length 0 (stG com A k (tm B m)) y (by omega) (by rw [tm_len]; omega) (by rw [tm_get hy]; exact hf) h0
    rwa [tm_set hy] at this
  · have h3 : stM com A B k (m ||| 2 ^ y) ≤ stM com A B k m := stG_free k ⟨by rw [tm_len, tm_len], fun z hz hzf => by
      rw [tm_len] at hz
      rw [tm_get hz, Nat.testBit_or] at hzf
      rw [tm_get hz]
      simp at hzf
      exact hzf.1⟩
    omega
theorem stM_at (k m : Nat) : stM com A B (k + 1) m = stM com A B k m ∨ ∃ y, y < B ∧ m.testBit y = false ∧ stM com A B (k + 1) m = com (A - (k + 1)) y + stM com A B k (m ||| 2 ^ y) := by
  unfold stM
  simp only [stG]
  rcases stepY_at (com := com (A - (k + 1))) (rec := stG com A k) (T := tm B m) (tm B m).length 0 (stG com A k (tm B m)) with e | ⟨y, _, hy, hf, e⟩
  · exact .inl e
  · rw [tm_len] at hy
    have hy' : y < B := by omega
    rw [tm_get hy'] at hf
    refine .inr ⟨y, hy', hf, ?_⟩
    rw [e, tm_set hy']
end
section
variable {cm : Nat → Nat} {B : Nat}
theorem yF_mono {kv : Int} {set : Nat} (hs : set < 2 ^ B) : ∀ j y N m, y + j ≤ B → N.length = 2 ^ B → N.getD m 0 ≤ (yF cm kv set j y N).getD m 0
  | 0, _, _, _, _, _ => Int.le_refl _
  | j + 1, y, N, m, hy, hl => by
    simp only [yF]
    have hp := or_lt hs (show y < B by omega)
    refine Int.le_trans ?_ (yF_mono hs j (y + 1) _ m (by omega) (by split <;> simp [hl]))
    split
    · rw [getD_setL _ _ _ _ _ (by omega)]
      split
      · rename_i e; subst e; unfold mx2; split <;> omega
      · exact Int.le_refl _
    · exact Int.le_refl _
theorem yF_hit {kv : Int} {set : Nat} (hs : set < 2 ^ B) : ∀ j y N y', y + j ≤ B → N.length = 2 ^ B → y ≤ y' → y' < y + j → set.testBit y' = false → kv + cm y' ≤ (yF cm kv set j y N).getD (set ||| 2 ^ y') 0
  | 0, y, _, y', _, _, h1, h2, _ => by omega
  | j + 1, y, N, y', hy, hl, h1, h2, hf => by
    simp only [yF]
    have hp := or_lt hs (show y < B by omega)
    by_cases e : y' = y
    · subst e
      rw [if_pos hf]
      refine Int.le_trans ?_ (yF_mono hs j (y' + 1) _ _ (by omega) (by simp [hl]))
      rw [getD_setL _ _ _ _ _ (by omega), if_pos rfl]
      unfold mx2; split <;> omega
    · exact yF_hit hs j (y + 1) _ y' (by omega) (by split <;> simp [hl]) (by omega) (by omega) hf
theorem yF_src {kv : Int} {set : Nat} (hs : set < 2 ^ B) : ∀ j y N m, y + j ≤ B → N.length = 2 ^ B → (yF cm kv set j y N).getD m 0 = N.getD m 0 ∨ ∃ y', y' < B ∧ set.testBit y' = false ∧ m = set ||| 2 ^ y' ∧ (yF cm kv set j y N).getD m 0 = kv + cm y'
  | 0, _, _, _, _, _ => .inl rfl
  | j + 1, y, N, m, hy, hl => by
    simp only [yF]
    have hp := or_lt hs (show y < B by omega)
    rcases yF_src hs j (y + 1) (if set.testBit y = false then N.set (set ||| 2 ^ y) (mx2 (N.getD (set ||| 2 ^ y) 0) (kv + cm y)) else N) m (by omega) (by split <;> simp [hl]) with e | ⟨y', a, b, d, e⟩
    · rw [e]
      by_cases hf : set.testBit y = false
      · rw [if_pos hf, getD_setL _ _ _ _ _ (by omega)]
        by_cases em : set ||| 2 ^ y = m
        · rw [if_pos em]
          unfold mx2
          split
          · exact .inr ⟨y, by omega, hf, em.symm, rfl⟩
          · rw [em]; exact .inl rfl
        · rw [if_neg em]; exact .inl rfl
      · rw [if_neg hf]; exact .inl rfl
    · exact .inr ⟨y', a, b, d, e⟩
theorem sF_mono {K : List Int} : ∀ j s N m, s + j ≤ 2 ^ B → N.length = 2 ^ B → N.getD m 0 ≤ (sF cm K B j s N).getD m 0
  | 0, _, _, _, _, _ => Int.le_refl _
  | j + 1, s, N, m, hs, hl => by
    simp only [sF]
    refine Int.le_trans ?_ (sF_mono j (s + 1) _ m (by omega) (by split <;> simp [hl, yF_len]))
    split
    · exact Int.le_refl _
    · exact yF_mono (by omega) B 0 N m (by omega) hl
theorem sF_hit {K : List Int} : ∀ j s N s' y, s + j ≤ 2 ^ B → N.length = 2 ^ B → s ≤ s' → s' < s + j → 0 ≤ K.getD s' 0 → y < B → s'.testBit y = false → K.getD s' 0 + cm y ≤ (sF cm K B j s N).getD (s' ||| 2 ^ y) 0
  | 0, s, _, s', _, _, _, h1, h2, _, _, _ => by omega
  | j + 1, s, N, s', y, hs, hl, h1, h2, hk, hy, hf => by
    simp only [sF]
    by_cases e : s' = s
    · subst e
      rw [if_neg (by omega)]
      refine Int.le_trans ?_ (sF_mono j (s' + 1) _ _ (by omega) (by simp [hl, yF_len]))
      exact yF_hit (by omega) B 0 N y (by omega) hl (by omega) (by omega) hf
    · exact sF_hit j (s + 1) _ s' y (by omega) (by split <;> simp [hl, yF_len]) (by omega) (by omega) hk hy hf
theorem sF_src {K : List Int} : ∀ j s N m, s + j ≤ 2 ^ B → N.length = 2 ^ B → (sF cm K B j s N).getD m 0 = N.getD m 0 ∨ ∃ s' y, s' < 2 ^ B ∧ y < B ∧ 0 ≤ K.getD s' 0 ∧ s'.testBit y = false ∧ m = s' ||| 2 ^ y ∧ (sF cm K B j s N).getD m 0 = K.getD s' 0 + cm y
  | 0, _, _, _, _, _ => .inl rfl
  | j + 1, s, N, m, hs, hl => by
    simp only [sF]
    rcases sF_src (K := K) j (s + 1) (if K.getD s 0 < 0 then N else yF cm (K.getD s 0) s B 0 N) m (by omega) (by split <;> simp [hl, yF_len]) with e | h
    · rw [e]
      by_cases hn : K.getD s 0 < 0
      · rw [if_pos hn]; exact .inl rfl
      · rw [if_neg hn]
        rcases yF_src (cm := cm) (kv := K.getD s 0) (set := s) (B := B) (by omega) B 0 N m (by omega) hl with e2 | ⟨y', a, b, d, e2⟩
        · exact .inl e2
        · exact .inr ⟨s, y', by omega, a, by omega, b, d, e2⟩
    · exact .inr h
end
section
variable {com : Nat → Nat → Nat} {A B : Nat}
structure KInv (com : Nat → Nat → Nat) (A B S x : Nat) (K : List Int) : Prop where
  len : K.length = 2 ^ B
  le : ∀ m, m < 2 ^ B → 0 ≤ K.getD m 0 → K.getD m 0 + stM com A B (A - x) m ≤ S
  at' : ∃ m, m < 2 ^ B ∧ 0 ≤ K.getD m 0 ∧ K.getD m 0 + stM com A B (A - x) m = S
theorem KInv.step {S x : Nat} {K : List Int} (h : KInv com A B S x K) (hx : x < A) : KInv com A B S (x + 1) (sF (com x) K B (2 ^ B) 0 K) := by
  obtain ⟨k, hk⟩ : ∃ k, A - x = k + 1 := ⟨A - x - 1, by omega⟩
  have hk' : A - (x + 1) = k := by omega
  have hxk : A - (k + 1) = x := by omega
  have hle := h.le
  have hat := h.at'
  rw [hk] at hle hat
  have le' : ∀ m, m < 2 ^ B → 0 ≤ (sF (com x) K B (2 ^ B) 0 K).getD m 0 → (sF (com x) K B (2 ^ B) 0 K).getD m 0 + stM com A B k m ≤ S := fun m hm h0 => by
    rcases sF_src (cm := com x) (K := K) (B := B) (2 ^ B) 0 K m (by omega) h.len with e | ⟨s, y, hs, hy, hks, hf, em, e⟩
    · rw [e] at h0 ⊢
      have := hle m hm h0
      have := stM_mono (com := com) (A := A) (B := B) k m
      omega
    · rw [e, em]
      have a := hle s hs hks
      have b := stM_ge (com := com) (A := A) (B := B) k s y hy hf
      rw [hxk] at b
      omega
  refine ⟨by rw [sF_len]; exact h.len, by rw [hk']; exact le', ?_⟩
  rw [hk']
  obtain ⟨m, hm, h0, hs⟩ := hat
  rcases stM_at (com := com) (A := A) (B := B) k m with e | ⟨y, hy, hf, e⟩
  · have hmo := sF_mono (cm := com x) (K := K) (B := B) (2 ^ B) 0 K m (by omega) h.len
    have := le' m hm (by omega)
    exact ⟨m, hm, by omega, by omega⟩
  · rw [hxk] at e
    have hh := sF_hit (cm := com x) (K := K) (B := B) (2 ^ B) 0 K m y (by omega) h.len (by omega) (by omega) h0 hy hf
    have hp := or_lt hm hy
    have := le' _ hp (by omega)
    exact ⟨m ||| 2 ^ y, hp, by omega, by omega⟩
theorem KInv.run {S : Nat} : ∀ (j x : Nat) (K : List Int), x + j = A → KInv com A B S x K → KInv com A B S A (rF com B j x K)
  | 0, x, K, hx, h => by
    have : x = A := by omega
    subst this
    exact h
  | j + 1, x, K, hx, h => KInv.run j (x + 1) _ (by omega) (h.step (by omega))
theorem K0_inv : KInv com A B (stM com A B A 0) 0 (K0 (2 ^ B)) := by
  have hp0 : 0 < (2 : Nat) ^ B := Nat.pow_pos (by decide)
  have g0 : (K0 (2 ^ B)).getD 0 0 = 0 := rfl
  have gs : ∀ m, 0 < m → m < 2 ^ B → (K0 (2 ^ B)).getD m 0 = -1 := fun m h1 h2 => by
    obtain ⟨q, rfl⟩ : ∃ q, m = q + 1 := ⟨m - 1, by omega⟩
    have : q < 2 ^ B - 1 := by omega
    simp [K0, List.getD_eq_getElem?_getD, List.getElem?_replicate, this]
  refine ⟨by simp [K0]; omega, fun m hm h0 => ?_, ⟨0, hp0, by rw [g0]; exact Int.le_refl _, by rw [g0]; simp⟩⟩
  by_cases e : m = 0
  · subst e; rw [g0]; simp
  · rw [gs m (by omega) hm] at h0; omega
/-- What the program finds is what the reference finds. -/
theorem maxF_rF : maxF (rF com B A 0 (K0 (2 ^ B))) = stG com A A (List.replicate B false) := by
  have h := KInv.run (com := com) (A := A) (B := B) A 0 (K0 (2 ^ B)) (by omega) K0_inv
  obtain ⟨R, hR⟩ : ∃ R, rF com B A 0 (K0 (2 ^ B)) = R := ⟨_, rfl⟩
  rw [hR] at h ⊢
  have e : stG com A A (List.replicate B false) = stM com A B A 0 := by unfold stM; rw [tm_zero]
  rw [e]
  have hp0 : 0 < (2 : Nat) ^ B := Nat.pow_pos (by decide)
  have hl := h.len
  have z : ∀ m, stM com A B (A - A) m = 0 := fun m => by rw [Nat.sub_self]; rfl
  obtain ⟨m, hm, h0, hs⟩ := h.at'
  rw [z] at hs
  have ge : ∀ m, m < R.length → R.getD m 0 ≤ maxF R := fun m hm => by
    unfold maxF
    have g := maxL_ge (R.drop 1) (R.getD 0 0)
    by_cases e : m = 0
    · subst e; exact g.1
    · refine g.2 _ ?_
      rw [getD_lt hm, List.mem_iff_getElem]
      exact ⟨m - 1, by simp; omega, by rw [List.getElem_drop]; congr 1; omega⟩
  have g1 := ge m (by omega)
  have mem : ∃ m', m' < R.length ∧ maxF R = R.getD m' 0 := by
    unfold maxF
    rcases maxL_mem (R.drop 1) (R.getD 0 0) with e | e
    · exact ⟨0, by omega, e⟩
    · obtain ⟨i, hi, e⟩ := List.mem_iff_getElem.1 e
      have hi' : 1 + i < R.length := by simp at hi; omega
      exact ⟨1 + i, hi', by rw [getD_lt hi', ← e, List.getElem_drop]⟩
  obtain ⟨m', hm', em⟩ := mem
  have l1 := h.le m' (by omega) (by rw [← em]; omega)
  rw [z, ← em] at l1
  omega
end
end Go.Gh


/- How many packets have to be moved, by the program. -/
namespace Go.Gh
open Go.Proofs
set_option linter.unusedSimpArgs false
set_option linter.unusedVariables false
set_option linter.unnecessarySimpa false
set_option maxRecDepth 100000
set_option maxHeartbeats 4000000
variable {c : Nat} {H : Heap}
theorem comTab_nil : cellsT (comTab [] []) = List.replicate 81 (.pure (.int .i64 0)) := by rfl
theorem K0_bd (n : Nat) : Bd 0 (K0 n) := fun x hx => by
  unfold K0 at hx
  rcases List.mem_cons.1 hx with rfl | h
  · omega
  · rw [List.eq_of_mem_replicate h]; omega
theorem K0_set {n : Nat} (hn : 0 < n) : ((List.replicate n (-1 : Int)).map irow).set 0 [.int .i64 0] = (K0 n).map irow := by
  obtain ⟨m, rfl⟩ : ∃ m, n = m + 1 := ⟨n - 1, by omega⟩
  simp [K0, List.replicate_succ, irow]
theorem Moves_ok (a b : List Int) (ha : a.length ≤ 1000000) (hb : b.length ≤ 1000000) (hH : 0 < H.length) : gcall KC (geval KC) 69 [.pure (.slice (a.map irow)), .pure (.slice (b.map irow))] c H = some (.pure (.tuple (movT a b)), H) := by
  refine WPv_eq (call_enter KC needT Try.func69 rfl rfl good69 rfl rfl rfl (by simp) hH ?_)
  have E := fun c (H : Heap) (hH : 0 < H.length) => both_ok (c := c) (H := H) a b ha hb hH
  unfold movT
  by_cases h : bothE a b = 0
  · obtain ⟨pa, pb, hl⟩ := bothE_zero h
    obtain ⟨A, eA, a1, a9⟩ := pa.blk
    obtain ⟨B, eB, b1, b9⟩ := pb.blk
    have le9 := pa.le
    have ra : ∀ x ∈ a, 0 ≤ x ∧ x ≤ 1000000 := fun x hx => ⟨(pa.rng x hx).1, by have := (pa.rng x hx).2; omega⟩
    have rb : ∀ x ∈ b, 0 ≤ x ∧ x ≤ 1000000 := fun x hx => ⟨(pb.rng x hx).1, by have := (pb.rng x hx).2; omega⟩
    have Ba := fun c (H : Heap) (hH : 0 < H.length) => blocks_ok (c := c) (H := H) a pa.ne ha ra hH
    have Bb := fun c (H : Heap) (hH : 0 < H.length) => blocks_ok (c := c) (H := H) b pb.ne hb rb hH
    rw [eA] at Ba
    rw [eB] at Bb
    have se := shl_eq B b9
    rw [Int.one_mul] at se
    have hp9 : (2 : Nat) ^ B ≤ 512 := Nat.pow_le_pow_right (n := 2) (by decide) b9
    have hp0 : 0 < (2 : Nat) ^ B := Nat.pow_pos (by decide)
    have L0 := fun Q h1 => com_loop (H := H) hl pa.le pa.rng pb.rng Q h1 a.length 0 (by omega)
    simp only [List.take_zero, comTab_nil] at L0
    simp [List.replicate] at L0
    have k0l : (K0 (2 ^ B)).length = 2 ^ B := by simp [K0]; omega
    have L2 := fun Fm g9 Q => r_loop (H := H) (a := a) (b := b) (A := A) (B := B) (com := fun x y => comL x y a b) (tab := comTab a b) comTab_len a9 b9 eB pb.ne hb rb (fun x y hx hy => comTab_get hx hy) (fun x y => by have := comL_le x y a b; omega) Q A 0 Fm g9 (K0 (2 ^ B)) (by omega) k0l (K0_bd _)
    have rl := rF_len (com := fun x y => comL x y a b) (B := B) A 0 (K0 (2 ^ B))
    have hm := maxF_rF (com := fun x y => comL x y a b) (A := A) (B := B)
    have hmv : movV a b = (a.length : Int) - (stG (fun x y => comL x y a b) A A (List.replicate B false) : Nat) := by
      unfold movV
      rw [eA, eB]; rfl
    have hs := stG_le (com := fun x y => comL x y a b) (B := A) (n := 9) (fun x y => by have := comL_le x y a b; omega) A (List.replicate B false)
    have hk9 : A * 9 ≤ 9 * 9 := Nat.mul_le_mul a9 (Nat.le_refl _)
    have hw := w64 (x := (a.length : Int) - (stG (fun x y => comL x y a b) A A (List.replicate B false) : Nat)) (by omega) (by omega)
    obtain ⟨R, hR⟩ : ∃ R, rF (fun x y => comL x y a b) B A 0 (K0 (2 ^ B)) = R := ⟨_, rfl⟩
    rw [hR] at rl hm L2
    have hR0 : R ≠ [] := fun e => by rw [e, k0l] at rl; simp at rl; omega
    have Mx := fun c (H : Heap) (hH : 0 < H.length) => max_ok (c := c) (H := H) R hR0 (by omega) hH
    rw [hm] at Mx
    rw [h, hmv]
    simp [E, h]
    refine L0 _ ?_
    obtain ⟨n, hn⟩ : ∃ n : Nat, 2 ^ B = n := ⟨_, rfl⟩
    have L1 := fun Q h1 => fill_loop (H := H) (a := a) (b := b) (x := .box (cellsT (comTab a b))) (n := n) (by omega) Q h1 n 0 0 (by omega) (Nat.zero_le _)
    simp only [hn] at se hp0 hp9 L2 k0l
    have hn0 : ¬ (n : Int) < 0 := by omega
    have hnb : (n : Int) * 8 ≤ 1099511627776 := by omega
    have bn : ¬ (B : Int) < 0 := by omega
    simp [irow] at L1
    simp [Bb, se, hn0, hnb, bn]
    refine L1 _ (fun v hv => ?_)
    have ks := K0_set hp0
    simp [irow] at ks
    have hnl : n ≤ n := Nat.le_refl _
    simp [hp0, hv, splice, ks, Ba]
    have kh : KeptAt H.length [(7, .box (cellsT (comTab a b))), (46, .arr 1 ((K0 n).map irow) n false)] (K0 n) (.hdr (H.length, 46) 1 n 0 n) := by
      have := KeptAt.hdr (L := H.length) (Fm := [(7, .box (cellsT (comTab a b))), (46, .arr 1 ((K0 n).map irow) n false)]) (K := K0 n) n false (by rw [k0l]; exact Nat.le_refl _) (by simp)
      rwa [k0l] at this
    have L2' := fun Q => L2 _ _ Q kh (by simp)
    simp at L2'
    refine L2' _ (fun Fm' => ?_)
    simp [Mx, hw, gleave_free]
    omega
  · have e1 : (bothE a b != 0) = true := by simpa using h
    simp [E, h, e1, gleave_free]
end Go.Gh
