/- What an answer is worth, by the reference. -/
import Derived.Test.YthcpepcmnmlmeaaSd
namespace Go.Gh
open Go.Proofs
set_option linter.unusedSimpArgs false
set_option linter.unusedVariables false
set_option linter.unnecessarySimpa false
set_option maxRecDepth 100000
set_option maxHeartbeats 4000000
def rkFr (s : Scoring) (x : Score) : Fr := [(3, sbox s), (6, zx), (7, xbox x)]
def rsl (L : Nat) (t a : List Int) (wr : Nat) : Slots := [(1, .pure (.slice (t.map irow))), (2, .pure (.slice (a.map irow))), (3, .bptr (L, 3) 0), (6, .bptr (L, 6) 0), (7, .bptr (L, 7) 0), (8, .pure (.int .i64 t.length)), (9, .pure (.int .i64 (wr : Nat)))]
theorem pairsR_loop {H : Heap} (s : Scoring) (t a : List Int) (hl : a.length = t.length) (hn : t.length ≤ 9) (i : Nat) (hi : i < t.length) (x : Score) (wr P : Nat) (hP : P ≤ 100) (Q : GX → GSt → Prop)
    (h1 : Q (.exit 3) ⟨rsl H.length t a wr ++ [(10, .pure (.int .i64 (i : Nat)))], [] :: rkFr s { x with pairs := ((P + cntB (pairB t a i) i : Nat) : Int) } :: H, 149⟩) :
    ∀ k j : Nat, j + k = i →
    WPL KC needT 76 (lp Try.f76 1) [1, 2, 3, 6, 7, 8, 9, 10, 11] [1, 2, 3, 6, 7, 8, 9, 10] Q
      (rsl H.length t a wr ++ [(10, .pure (.int .i64 (i : Nat))), (11, .pure (.int .i64 (j : Nat)))]) ([] :: rkFr s { x with pairs := ((P + cntB (pairB t a i) j : Nat) : Int) } :: H) 149 := by
  have hia : i < a.length := by omega
  intro k
  induction k with
  | zero =>
    intro j hj
    have e : j = i := by omega
    subst e
    apply WPL_step
    conv => arg 4; whnf
    simp [rsl]
    simpa [rsl] using h1
  | succ k ih =>
    intro j hj
    have hji : j < i := by omega
    have hja : j < a.length := by omega
    have hjt : j < t.length := by omega
    have hw := w64 (x := (j : Int) + 1) (by omega) (by omega)
    have cle := cntB_le (pairB t a i) j
    have hw2 := w64 (x := ((P + cntB (pairB t a i) j : Nat) : Int) + 1) (by omega) (by omega)
    have R := fun c (H : Heap) (hH : 0 < H.length) => pair_ok (c := c) (H := H) t a i j hia hja hi hjt hH
    have ih' := ih (j + 1) (by omega)
    simp only [cntB] at ih'
    simp only [Int.natCast_add] at hw2 ih' ⊢
    apply WPL_step
    conv => arg 4; whnf
    by_cases hp : pairB t a i j = true
    · rw [hp] at ih'
      simp [hji, rsl, rkFr, xbox, R, hp, hw, hw2]
      simpa [rsl, rkFr, xbox, Int.add_assoc] using ih'
    · have hp' : pairB t a i j = false := by simpa using hp
      rw [hp'] at ih'
      simp [hji, rsl, rkFr, xbox, R, hp', hw]
      simpa [rsl, rkFr, xbox] using ih'
def refF (t a : List Int) (n : Nat) : Score := { bareF t a n with start := 0 }
theorem packetsR_loop {H : Heap} (s : Scoring) (t a : List Int) (hl : a.length = t.length) (hn : t.length ≤ 9) (Q : GX → GSt → Prop)
    (h1 : Q (.exit 0) ⟨rsl H.length t a (cntB (hasB a) t.length), rkFr s (refF t a t.length) :: H, 149⟩) :
    ∀ k i : Nat, i + k = t.length →
    WPL KC needT 76 (lp Try.f76 0) [1, 2, 3, 6, 7, 8, 9, 10] [1, 2, 3, 6, 7, 8, 9] Q (rsl H.length t a (cntB (hasB a) i) ++ [(10, .pure (.int .i64 (i : Nat)))]) (rkFr s (refF t a i) :: H) 149 := by
  intro k
  induction k with
  | zero =>
    intro i hi
    have e : i = t.length := by omega
    subst e
    apply WPL_step
    conv => arg 4; whnf
    simp [rsl]
    simpa [rsl] using h1
  | succ k ih =>
    intro i hi
    have hit : i < t.length := by omega
    have hia : i < a.length := by omega
    have hw := w64 (x := (i : Int) + 1) (by omega) (by omega)
    have c1 := cntB_le (rightB t a) i
    have c2 := cntB_le (fun j => hasB a j && !rightB t a j) i
    have c3 := cntB_le (heardB t a) i
    have c4 := cntB_le (hasB a) i
    have hw1 := w64 (x := (cntB (rightB t a) i : Nat) + (1 : Int)) (by omega) (by omega)
    have hw2 := w64 (x := (cntB (fun j => hasB a j && !rightB t a j) i : Nat) + (1 : Int)) (by omega) (by omega)
    have hw3 := w64 (x := (cntB (heardB t a) i : Nat) + (1 : Int)) (by omega) (by omega)
    have hw4 := w64 (x := (cntB (hasB a) i : Nat) + (1 : Int)) (by omega) (by omega)
    have Rt := fun c (H : Heap) (hH : 0 < H.length) => right_ok (c := c) (H := H) t a i hia hit (by omega) hH
    have Hd := fun c (H : Heap) (hH : 0 < H.length) => heard_ok (c := c) (H := H) t a i hl hit (by omega) hH
    have eh : hasB a i = decide (0 ≤ a[i]) := by unfold hasB; rw [getD_lt hia]
    have hr := rightB_eq t a i
    have ih' := ih (i + 1) (by omega)
    -- behind the counts of the packet itself
    have L := fun (p w nw wr : Nat) Q h1 => pairsR_loop (H := H) s t a hl hn i hit { refF t a i with packets := p, wrong := w, new := nw } wr (pairN t a i) (pairN_le100 t a (by omega)) Q h1 i 0 (by omega)
    simp only [cntB, Nat.add_zero, refF, bareF, rkFr, xbox, rsl] at L
    simp only [refF, bareF, cntB, pairN, rkFr, xbox, rsl] at ih' ⊢
    simp at L
    clear ih
    rcases Bool.eq_false_or_eq_true (rightB t a i) with h2 | h2
    · have hh : hasB a i = true := by rw [h2] at hr; simp at hr; exact hr.1
      have hp : 0 ≤ a[i] := by rw [eh] at hh; simpa using hh
      rcases Bool.eq_false_or_eq_true (heardB t a i) with h3 | h3
      · simp only [h2, hh, h3, Bool.not_true, Bool.and_false] at ih'
        apply WPL_step
        conv => arg 4; whnf
        simp [hit, hia, irow, Rt, h2, hp, Hd, h3, hw1, hw2, hw3, hw4]
        refine L (cntB (rightB t a) i + 1) (cntB (fun j => hasB a j && !rightB t a j) i) (cntB (heardB t a) i + 1) (cntB (hasB a) i + 1) _ ?_
        simp [hw]
        simpa using ih'
      · simp only [h2, hh, h3, Bool.not_true, Bool.and_false] at ih'
        apply WPL_step
        conv => arg 4; whnf
        simp [hit, hia, irow, Rt, h2, hp, Hd, h3, hw1, hw2, hw3, hw4]
        refine L (cntB (rightB t a) i + 1) (cntB (fun j => hasB a j && !rightB t a j) i) (cntB (heardB t a) i) (cntB (hasB a) i + 1) _ ?_
        simp [hw]
        simpa using ih'
    · rcases Bool.eq_false_or_eq_true (hasB a i) with hh | hh
      · have hp : 0 ≤ a[i] := by rw [eh] at hh; simpa using hh
        rcases Bool.eq_false_or_eq_true (heardB t a i) with h3 | h3
        · simp only [h2, hh, h3, Bool.not_false, Bool.and_true] at ih'
          apply WPL_step
          conv => arg 4; whnf
          simp [hit, hia, irow, Rt, h2, hp, Hd, h3, hw1, hw2, hw3, hw4]
          refine L (cntB (rightB t a) i) (cntB (fun j => hasB a j && !rightB t a j) i + 1) (cntB (heardB t a) i + 1) (cntB (hasB a) i + 1) _ ?_
          simp [hw]
          simpa using ih'
        · simp only [h2, hh, h3, Bool.not_false, Bool.and_true] at ih'
          apply WPL_step
          conv => arg 4; whnf
          simp [hit, hia, irow, Rt, h2, hp, Hd, h3, hw1, hw2, hw3, hw4]
          refine L (cntB (rightB t a) i) (cntB (fun j => hasB a j && !rightB t a j) i + 1) (cntB (heardB t a) i) (cntB (hasB a) i + 1) _ ?_
          simp [hw]
          simpa using ih'
      · have hp : ¬ 0 ≤ a[i] := by rw [eh] at hh; simpa using hh
        have h3 : heardB t a i = false := by rw [heardB_eq hl hit, hh]; rfl
        simp only [h2, hh, h3, Bool.not_false, Bool.and_true] at ih'
        apply WPL_step
        conv => arg 4; whnf
        simp [hit, hia, irow, Rt, h2, hp, Hd, h3]
        refine L (cntB (rightB t a) i) (cntB (fun j => hasB a j && !rightB t a j) i) (cntB (heardB t a) i) (cntB (hasB a) i) _ ?_
        simp [hw]
        simpa using ih'
theorem start_loop {H : Heap} (s : Scoring) (t a : List Int) (hl : a.length = t.length) (hn : t.length ≤ 9) (x : Score) (wr : Nat) (Q : GX → GSt → Prop)
    (h1 : Q (.exit 5) ⟨rsl H.length t a wr, rkFr s { x with start := (stN t a t.length : Nat) } :: H, 149⟩) :
    ∀ k i : Nat, i + k = t.length → allR t a i = true →
    WPL KC needT 76 (lp Try.f76 2) [1, 2, 3, 6, 7, 8, 9] [1, 2, 3, 6, 7, 8, 9] Q (rsl H.length t a wr) (rkFr s { x with start := (i : Nat) } :: H) 149 := by
  intro k
  induction k with
  | zero =>
    intro i hi hA
    have e : i = t.length := by omega
    subst e
    rw [stN_all t a _ hA] at h1
    apply WPL_step
    conv => arg 4; whnf
    simp [rsl, rkFr, xbox]
    simpa [rsl, rkFr, xbox] using h1
  | succ k ih =>
    intro i hi hA
    have hit : i < t.length := by omega
    have hia : i < a.length := by omega
    have hw := w64 (x := (i : Int) + 1) (by omega) (by omega)
    have Rt := fun c (H : Heap) (hH : 0 < H.length) => right_ok (c := c) (H := H) t a i hia hit (by omega) hH
    apply WPL_step
    conv => arg 4; whnf
    rcases Bool.eq_false_or_eq_true (rightB t a i) with h2 | h2
    · have ih' := ih (i + 1) (by omega) (by simp only [allR, hA, h2]; rfl)
      simp [rsl, rkFr, xbox, hit, Rt, h2, hw]
      simpa [rsl, rkFr, xbox] using ih'
    · have e := stN_stop t a hA h2 (t.length - i)
      rw [show i + (t.length - i) = t.length by omega] at e
      rw [e] at h1
      simp [rsl, rkFr, xbox, hit, Rt, h2]
      simpa [rsl, rkFr, xbox] using h1
end Go.Gh


/- What an answer is worth, by the reference: the whole; marks with errors. -/
namespace Go.Gh
open Go.Proofs
set_option linter.unusedSimpArgs false
set_option linter.unusedVariables false
set_option linter.unnecessarySimpa false
set_option maxRecDepth 100000
set_option maxHeartbeats 4000000
variable {c : Nat} {H : Heap}
theorem firstE_rng : ∀ l : List Int, firstE ansE l = 0 → ∀ x ∈ l, -1 ≤ x ∧ x ≤ 8
  | [], _, x, hx => absurd hx List.not_mem_nil
  | y :: r, h, x, hx => by
    simp only [firstE] at h
    split at h
    · rename_i h1; exact absurd h h1
    · rename_i h1
      rcases List.mem_cons.1 hx with rfl | hx
      · unfold ansE at h1
        split at h1
        · rename_i h2; exact inB_iff.1 h2
        · exact absurd (by decide) h1
      · exact firstE_rng r h x hx
theorem wrF_zero {l : List Int} {n : Nat} (h : wrF l n = 0) : l.length = n ∧ ∀ x ∈ l, -1 ≤ x ∧ x ≤ 8 := by
  unfold wrF at h
  split at h
  · cases h
  · rename_i h1
    exact ⟨by omega, firstE_rng l h⟩
theorem written_iff {a : List Int} (h : ∀ x ∈ a, -1 ≤ x ∧ x ≤ 8) : cntB (hasB a) a.length = a.length ↔ ¬ -1 ∈ a := by
  rw [cntB_full]
  constructor
  · intro h1 hm
    obtain ⟨i, hi, e⟩ := List.mem_iff_getElem.1 hm
    have := h1 i hi
    unfold hasB at this
    rw [getD_lt hi, e] at this
    simp at this
  · intro h1 j hj
    unfold hasB
    rw [getD_lt hj]
    have := h _ (List.getElem_mem hj)
    have h2 : a[j] ≠ -1 := fun e => h1 (e ▸ List.getElem_mem hj)
    simp
    omega
theorem markR_ok (s : Scoring) (t a : List Int) (hl : a.length = t.length) (h0 : t ≠ []) (hn : t.length ≤ 9) (har : ∀ x ∈ a, -1 ≤ x ∧ x ≤ 8) (hH : 0 < H.length) :
    gcall KC (geval KC) 76 [.pure (.agg s.row), .pure (.slice (t.map irow)), .pure (.slice (a.map irow))] c H = some (.pure (.agg (markF s t a).row), H) := by
  refine WPv_eq (call_enter KC needT Try.func76 rfl rfl good76 rfl rfl rfl (by simp) hH ?_)
  have L := fun Q h1 => packetsR_loop (H := H) s t a hl hn Q h1 t.length 0 (by omega)
  have L2 := fun Q h1 => start_loop (H := H) s t a hl hn (refF t a t.length) (cntB (hasB a) t.length) Q h1 t.length 0 (by omega) rfl
  have hp : 0 < t.length := List.length_pos_iff.2 h0
  have ha0 : a ≠ [] := fun e => h0 (List.length_eq_zero_iff.1 (by rw [← hl, e]; rfl))
  have Of := fun c (H : Heap) (hH : 0 < H.length) => OfR_ok (c := c) (H := H) a (by omega) hH
  have eo : ofT a = [.slice ((numL a []).map irow), .int .i64 0] := by
    unfold ofT
    rw [if_neg (by rw [hl]; exact fun e => h0 (List.length_eq_zero_iff.1 e)), if_neg (by omega)]
  rw [eo] at Of
  have M := fun c (H : Heap) (hH : 0 < H.length) => MovesR_ok (c := c) (H := H) (numL a []) t (by rw [numL_len]; omega) (by omega) hH
  rw [movT_eq] at M
  have hw := written_iff har
  rw [hl] at hw
  have hal := allR_pairs t a t.length
  rw [rowS]
  have e0 : refF t a 0 = ⟨0, 0, 0, 0, 0, 0, 0, 0⟩ := rfl
  rw [e0] at L
  simp only [rkFr, sbox, zx, xbox, rsl, cntB] at L L2
  simp [refF, bareF] at L L2
  simp
  refine L _ ?_
  clear L
  simp
  refine L2 _ ?_
  clear L2
  have pl := pairN_le100 t a hn
  have m1 := w64 (x := 2 * (pairN t a t.length : Nat)) (by omega) (by omega)
  have m2 := w64 (x := (t.length : Int) - 1) (by omega) (by omega)
  have hsq : (t.length : Int) * ((t.length : Int) - 1) = ((t.length * (t.length - 1) : Nat) : Int) := by
    rw [Int.natCast_mul]
    congr 1
    omega
  have hq : t.length * (t.length - 1) ≤ 9 * 9 := Nat.mul_le_mul hn (by omega)
  have m3 := w64 (x := (t.length : Int) * ((t.length : Int) - 1)) (by rw [hsq]; omega) (by rw [hsq]; omega)
  rw [rowX]
  unfold markF ptsW wholeF honF bareF W
  simp only
  by_cases hf : cntB (hasB a) t.length = t.length
  · have hc' := hw.1 hf
    by_cases hpr : 2 * pairN t a t.length = t.length * (t.length - 1)
    · have hA := hal.2 ⟨hf, hpr⟩
      have e1 : ((2 * (pairN t a t.length : Nat) : Int) == (t.length : Int) * ((t.length : Int) - 1)) = true := by rw [hsq]; simp; omega
      simp [hf, hc', hA, m1, m2, m3, e1, Of, M, gleave_free]
    · have hA : allR t a t.length = false := by
        rcases Bool.eq_false_or_eq_true (allR t a t.length) with h | h
        · exact absurd (hal.1 h).2 hpr
        · exact h
      have e1 : ((2 * (pairN t a t.length : Nat) : Int) == (t.length : Int) * ((t.length : Int) - 1)) = false := by rw [hsq]; simp; omega
      simp [hf, hc', hA, m1, m2, m3, e1, Of, M, gleave_free]
  · have hc' : -1 ∈ a := Classical.not_not.1 fun h => hf (hw.2 h)
    have hA : allR t a t.length = false := by
      rcases Bool.eq_false_or_eq_true (allR t a t.length) with h | h
      · exact absurd (hal.1 h).1 hf
      · exact h
    have e1 : ((cntB (hasB a) t.length : Int) == (t.length : Int)) = false := by simp; omega
    simp [e1, hc', hA, gleave_free]
end Go.Gh


/- Values with slices in blocks, told as pure ones. -/
namespace Go.Gh
open Go.Proofs
set_option linter.unusedSimpArgs false
set_option linter.unusedVariables false
set_option maxRecDepth 100000
set_option maxHeartbeats 4000000
variable {c : Nat} {H : Heap}
/-- A cell reads as a pure value. -/
def rdC (H : Heap) : GV → PV → Prop
  | .pure p, q => p = q
  | .nils, q => q = .slice []
  | .hdr nm es top lo len, q => ∃ rows v ro, H.get nm = some (.arr es rows v ro) ∧ v ≤ top ∧ rows.length = top ∧ lo = 0 ∧ len = top ∧ q = .slice rows
  | _, _ => False
def rdL (H : Heap) : List GV → List PV → Prop
  | [], [] => True
  | g :: l, q :: m => rdC H g q ∧ rdL H l m
  | _, _ => False
def rdG (H : Heap) : GV → PV → Prop
  | .agg l, .agg m => rdL H l m
  | .pure p, q => p = q
  | _, _ => False
@[simp] theorem rdC_pure {p q : PV} : rdC H (.pure p) q = (p = q) := .trans rfl rfl
@[simp] theorem rdC_nils {q : PV} : rdC H .nils q = (q = .slice []) := .trans rfl rfl
@[simp] theorem rdC_hdr {nm : Nm} {es top lo len : Nat} {q : PV} : rdC H (.hdr nm es top lo len) q = ∃ rows v ro, H.get nm = some (.arr es rows v ro) ∧ v ≤ top ∧ rows.length = top ∧ lo = 0 ∧ len = top ∧ q = .slice rows := .trans rfl rfl
@[simp] theorem rdL_nil : rdL H [] [] = True := .trans rfl rfl
@[simp] theorem rdL_cons {g : GV} {q : PV} {l : List GV} {m : List PV} : rdL H (g :: l) (q :: m) = (rdC H g q ∧ rdL H l m) := .trans rfl rfl
@[simp] theorem rdG_agg {l : List GV} {m : List PV} : rdG H (.agg l) (.agg m) = rdL H l m := .trans rfl rfl
@[simp] theorem rdG_pure {p q : PV} : rdG H (.pure p) q = (p = q) := .trans rfl rfl
/-- The same blocks, but for what is frozen. -/
def RoSim (H1 H2 : Heap) : Prop := ∀ nm es rows v ro, H1.get nm = some (.arr es rows v ro) → ∃ ro', H2.get nm = some (.arr es rows v ro')
theorem RoSim.refl (H : Heap) : RoSim H H := fun _ _ _ _ ro h => ⟨ro, h⟩
theorem rdC_sim {H1 H2 : Heap} (h : RoSim H1 H2) : ∀ {g : GV} {q : PV}, rdC H1 g q → rdC H2 g q := by
  intro g q hg
  cases g with
  | hdr nm es top lo len =>
    obtain ⟨rows, v, ro, a, b, d⟩ := hg
    obtain ⟨ro', e⟩ := h _ _ _ _ _ a
    exact ⟨rows, v, ro', e, b, d⟩
  | pure p => exact hg
  | nils => exact hg
  | _ => exact hg.elim
theorem frzCell_rd {g : GV} {q : PV} (h : rdC H g q) : canon1 (frzCell H g).1 = .pure q ∧ RoSim H (frzCell H g).2 := by
  cases g with
  | hdr nm es top lo len =>
    obtain ⟨rows, v, ro, h1, h2, h3, rfl, rfl, rfl⟩ := h
    subst h3
    have e : pureCell H (.hdr nm es rows.length 0 rows.length) = (.slice rows, H.set nm (.arr es rows v true)) := by simp [h1, h2]
    simp only [frzCell, e]
    refine ⟨rfl, fun nm' es' rows' v' ro' hg => ?_⟩
    by_cases hn : nm' = nm
    · subst hn
      rw [h1] at hg
      cases hg
      exact ⟨true, Heap.get_set _ (Heap.get_lt h1)⟩
    · exact ⟨ro', (Heap.get_set_other _ hn).trans hg⟩
  | pure p => cases h; exact ⟨rfl, RoSim.refl _⟩
  | nils => cases h; exact ⟨rfl, RoSim.refl _⟩
  | _ => exact h.elim
theorem frzVals_cons {g : GV} {r : List GV} : (frzVals H (g :: r)).1.map canon = canon (frzVal H g).1 :: (frzVals (frzVal H g).2 r).1.map canon := rfl
theorem rdC_push {f : Fr} {g : GV} {q : PV} (h : rdC H g q) : rdC (f :: H) g q := by
  cases g with
  | hdr nm es top lo len =>
    obtain ⟨rows, v, ro, a, b⟩ := h
    have := Heap.get_lt a
    exact ⟨rows, v, ro, by rw [Heap.get_cons', if_neg (by omega)]; exact a, b⟩
  | pure p => exact h
  | nils => exact h
  | _ => exact h.elim
theorem rdC_apS' {nm : Nm} {es : Nat} {rows : List (List PV)} (h : rows ≠ [] → ∃ v ro, v ≤ rows.length ∧ H.get nm = some (.arr es rows v ro)) : rdC H (apS nm es rows) (.slice rows) := by
  unfold apS
  by_cases hr : rows = []
  · subst hr; rw [if_pos rfl]; simp
  · rw [if_neg hr]
    obtain ⟨v, ro, a, b⟩ := h hr
    exact ⟨rows, v, ro, b, a, rfl, rfl, rfl, rfl⟩
theorem gcall0_canon {K : Ctx} {rec : Rec} {f : FuncId} {a b : List GV} (h : a.map canon = b.map canon) : gcall0 K rec f a c H = gcall0 K rec f b c H := by
  have hl : a.length = b.length := by have := congrArg List.length h; simpa using this
  unfold gcall0
  rw [h, hl]
theorem canon_frzC {H : Heap} {g : GV} {q : PV} (h : rdC H g q) : canon (frzVal H g).1 = .pure q ∧ RoSim H (frzVal H g).2 := by
  cases g with
  | hdr nm es top lo len =>
    obtain ⟨a, b⟩ := frzCell_rd h
    refine ⟨?_, b⟩
    show canon (frzCell H (.hdr nm es top lo len)).1 = _
    have e : ∀ x : GV, canon1 x = .pure q → x = .pure q ∨ (x = .nils ∧ q = .slice []) := fun x hx => by
      cases x <;> simp [canon1] at hx <;> simp_all
    rcases e _ a with e | ⟨e, e2⟩
    · rw [e]; rfl
    · rw [e, e2]; rfl
  | pure p => cases h; exact ⟨rfl, RoSim.refl _⟩
  | nils => cases h; exact ⟨rfl, RoSim.refl _⟩
  | _ => exact h.elim
end Go.Gh


/- Marks, with their errors. -/
namespace Go.Gh
open Go.Proofs
set_option linter.unusedSimpArgs false
set_option linter.unusedVariables false
set_option linter.unnecessarySimpa false
set_option maxRecDepth 100000
set_option maxHeartbeats 4000000
variable {c : Nat} {H : Heap}
theorem awake_run (fr : Fr) (c : Nat) : gcall KC (gexec KC 4000) 23 [] c [fr, []] = some (.pure (.bool true), [fr, []]) := by
  kernel_rfl
theorem awake_ok (fr : Fr) (c : Nat) : gcall KC (geval KC) 23 [] c [fr, []] = some (.pure (.bool true), [fr, []]) := gcall_geval (awake_run fr c)
end Go.Gh
