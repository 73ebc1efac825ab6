/- HearthWarmth. -/
import Derived.Test.YtldhcphijclmdaaFg
import Derived.Test.YtldhcphijclmdaaGl
import Derived.Test.YtldhcphijclmdaaGm
namespace Go.Gh
open Go.Proofs
set_option linter.unusedSimpArgs false
set_option linter.unusedVariables false
set_option maxRecDepth 100000
set_option maxHeartbeats 4000000

def f8r (k : Kettle) (cs : List Coal) (ts : List Touch) (ca bu : List Int) (w : Int) : Fr :=
  [(4, .box [.pure (.slice (cs.map Coal.row)), .pure (.slice (ts.map Touch.row))]), (5, .box (k.row.map .pure)), (8, .box [.pure (.slice (ca.map irow)), .pure (.slice (bu.map irow))]), (90118, wbox w)]
def s8 (l : List Pour) (mi : Int) (he at_ : List Int) (x : List Span) (v : List Int) (t L i m : Int) : Slots :=
  [(3, .bptr (1, 90118) 0), (5, .bptr (1, 5) 0), (6, .pure (.slice (l.map Pour.row))), (7, .pure (.int .i64 mi)), (8, .bptr (1, 8) 0), (9, .pure (.slice (he.map irow))), (10, .pure (.slice (at_.map irow))), (11, .pure (.slice (x.map Span.row))), (13, .pure (.slice (v.map irow))), (15, .pure (.int .i64 t)), (16, .pure (.int .i64 L)), (17, .pure (.int .i64 i)), (18, .pure (.int .i64 m))]

theorem pouredR_in {W : Water} (hW : WOk W) {p : Pour} (hp : POk p) (hL : 1 ≤ W.ladles + p.ladles) {t : Int} (ht : W.lo ≤ t ∧ t ≤ W.hi) :
    (pouredW W p).lo ≤ (pouredR p t W.ladles).lo ∧ (pouredR p t W.ladles).lo ≤ (pouredR p t W.ladles).hi ∧ (pouredR p t W.ladles).hi ≤ (pouredW W p).hi := by
  rw [pouredW_def, pouredR_def]
  have hl := hp.l
  by_cases hneg : p.ladles < 0
  · rw [if_pos hneg, if_neg (by omega)]
    simp only; omega
  · rw [if_neg hneg, if_pos (by omega)]
    have hd : 0 < W.ladles + p.ladles := by omega
    have h1 := dn_mono hd (pourV_mono (p := p) (p' := p) ⟨rfl, rfl, Int.le_refl _⟩ (by omega) hW.l.1 ht.1)
    have h2 := upn_mono hd (pourV_mono (p := p) (p' := p) ⟨rfl, rfl, Int.le_refl _⟩ (by omega) hW.l.1 ht.2)
    have h3 := dn_le_upn (n := pourV p t W.ladles) hd
    simp only; omega

theorem warmth_loop1 (k : Kettle) (cs : List Coal) (ts : List Touch) (ca bu : List Int) (l : List Pour) (hl : l.length ≤ 1000) (mi : Int) (he at_ : List Int) (x : List Span) (v : List Int) (m : Nat) (Q : GX → GSt → Prop) : ∀ (j i : Nat) (t : Int) (W : Water) (w : Int), i + j = l.length → WOk W → PsOk W.ladles (l.drop i) → W.lo ≤ t ∧ t ≤ W.hi →
    (∀ (t' : Int) (W' : Water) (i' : Nat) (w' : Int), i' ≤ l.length → poursAt m W (l.drop i) = (W', l.drop i') → W'.lo ≤ t' ∧ t' ≤ W'.hi → Q (.exit 2) ⟨s8 l mi he at_ x v t' W'.ladles i' m, [[], f8r k cs ts ca bu w', []], 171⟩) →
    WPL (KC kp0) needT 8 (lp Try.f8 1) [3, 5, 6, 7, 8, 9, 10, 11, 13, 15, 16, 17, 18] [3, 5, 6, 7, 8, 9, 10, 11, 13, 15, 16, 17, 18] Q (s8 l mi he at_ x v t W.ladles i m) [[], f8r k cs ts ca bu w, []] 171 := by
  intro j
  induction j with
  | zero =>
    intro i t W w hi hW hp ht h1
    have e : l.drop i = [] := List.drop_of_length_le (by omega)
    have h2 := h1 t W i w (by omega) (by rw [e]; rfl) ht
    have hni : ¬ i < l.length := by omega
    apply WPL_step
    conv => arg 4; whnf
    simp [hni, f8r, s8, Kettle.row]
    simpa [f8r, s8, Kettle.row] using h2
  | succ j ih =>
    intro i t W w hi hW hp ht h1
    have hia : i < l.length := by omega
    rw [List.drop_eq_getElem_cons hia] at hp
    obtain ⟨p1, p2, p3, p4⟩ := hp.cons
    have wl := hW.l
    have hlo := hW.lo
    have hhi := hW.hi
    have hpl := p1.l
    have hwi := w64 (x := (i : Int) + 1) (by omega) (by omega)
    have hwl := w64 (x := W.ladles + l[i].ladles) (by omega) (by omega)
    rw [poursAt_drop m W l i hia] at h1
    have T0 := fun (H : Heap) (c : Nat) hH => pouredR_ok (keep := kp0) (H := H) (c := c) (p := l[i]) (t := t) (L := W.ladles) kp0_ok p1 (by omega) hW.l ⟨p2, p3⟩ hH
    have hpo := pouredW_ok hW p1 ⟨p2, p3⟩
    have hpl2 := pouredW_ladles W l[i]
    by_cases hm : l[i].minute = m
    · rw [if_pos hm] at h1
      have hin := pouredR_in hW p1 p2 ht
      have hplo := hpo.lo
      have hphi := hpo.hi
      generalize hpr : pouredR l[i] t W.ladles = z at *
      have hB : isBox [[], [], f8r k cs ts ca bu w, []] (1, 90118) := ⟨w, by simp [f8r], by simp [f8r]⟩
      have hwd : wordAt [[], [], f8r k cs ts ca bu w, []] (1, 90118) = w := by simp [wordAt, f8r, wbox]
      have I := fun (c : Nat) => in_ok (keep := kp0) (c := c) (x1 := z.lo) (x2 := z.hi) kp0_ok hB
      rw [hwd] at I
      have hir := inR_rng w ⟨z.lo, z.hi⟩ (by simp only; omega) (by simp only; omega) (by simp only; omega)
      generalize inR w ⟨z.lo, z.hi⟩ = tw at *
      simp only at hir
      have ih' := ih (i + 1) tw.1 (pouredW W l[i]) tw.2 (by omega) hpo (by rw [hpl2]; exact p4) (by omega) h1
      rw [hpl2] at ih'
      simp [f8r, Kettle.row] at I
      simp only [Pour.row, Span.row, hm] at T0
      apply WPL_step
      conv => arg 4; whnf
      simp [hia, f8r, s8, Kettle.row, Pour.row, hm, T0, I, hwi, hwl]
      simp [f8r, s8, Kettle.row] at ih'
      exact ih'
    · rw [if_neg hm] at h1
      have h2 := h1 t W i w (by omega) rfl ht
      have hm' : (l[i].minute == (m : Int)) = false := by simpa using hm
      apply WPL_step
      conv => arg 4; whnf
      simp [hia, f8r, s8, Kettle.row, Pour.row, hm, hm']
      simpa [f8r, s8, Kettle.row] using h2

theorem warmth_loop0 (k : Kettle) (hko : KOk k) (cs : List Coal) (ts : List Touch) (hf : FireOk cs ts) (ca bu : List Int) (l : List Pour) (hl : l.length ≤ 1000) (mi : Nat) (hmi : mi ≤ 300) (he at_ : List Int) {N : Nat} (hN : N ≤ 1000) (a1 : bu.length = N) (a2 : at_.length = N) (a3 : he.length = N)
    (hb : ∀ x ∈ bu, 0 ≤ x ∧ x ≤ 1000) (ha : ∀ x ∈ at_, 0 ≤ x ∧ x ≤ 1000000) (hhe : ∀ x ∈ he, 0 ≤ x ∧ x ≤ 1000) (bs : List Span)
    (hh : ∀ m : Int, (heatL cs bs m).lo ≤ hotF m 0 at_ bu he ∧ hotF m 0 at_ bu he ≤ (heatL cs bs m).hi) (x : List Span) (hx : x.length = mi + 1) (Q : GX → GSt → Prop) (hq : ∀ w', Q (.exit 0) ⟨[(2, gdead)], [f8r k cs ts ca bu w', []], 171⟩) :
    ∀ (j m i : Nat) (t : Int) (W : Water) (w : Int), m + j = mi + 1 → i ≤ l.length → WOk W → PsOk W.ladles (l.drop i) → W.lo ≤ t ∧ t ≤ W.hi → x.drop m = runL k (fun m => heatL cs bs m) j m W (l.drop i) →
    WPL (KC kp0) needT 8 (lp Try.f8 0) [3, 5, 6, 7, 8, 9, 10, 11, 13, 15, 16, 17, 18] [2] Q (s8 l mi he at_ x (x.map (verd k)) t W.ladles i m) [f8r k cs ts ca bu w, []] 171 := by
  have hhs : HsOk (fun m => heatL cs bs m) := ⟨fun m => by have := heatL_bnd hf bs m; omega, fun m => by have := heatL_bnd hf bs m; omega⟩
  intro j
  induction j with
  | zero =>
    intro m i t W w hm hi hW hp ht hxd
    have hni : ¬ (m : Int) ≤ mi := by omega
    have h2 := hq w
    apply WPL_step
    conv => arg 4; whnf
    simp [hni, f8r, s8, Kettle.row]
    simpa [f8r, s8, Kettle.row] using h2
  | succ j ih =>
    intro m i t W w hm hi hW hp ht hxd
    have hml : (m : Int) ≤ mi := by omega
    have hwm := w64 (x := (m : Int) + 1) (by omega) (by omega)
    have hwm1 := w64 (x := (m : Int) - 1) (by omega) (by omega)
    have hmx : m < x.length := by omega
    obtain ⟨s1, s2⟩ := stepW_ok m hko hhs hW
    have q1 := poursAt_ok m (l.drop i) _ s1 (by rw [s2]; exact hp)
    simp only [runL] at hxd
    rw [List.drop_eq_getElem_cons hmx, List.cons.injEq] at hxd
    obtain ⟨hx0, hxr⟩ := hxd
    have L := fun (t : Int) (w : Int) ht Q hq => warmth_loop1 k cs ts ca bu l hl mi he at_ x (x.map (verd k)) m Q (l.length - i) i t (stepW k (fun m => heatL cs bs m) m W) w (by omega) s1 (by rw [s2]; exact hp) ht hq
    rw [s2] at L
    -- what stands behind the pours
    have fin : ∀ (t' : Int) (W' : Water) (i' : Nat) (w' : Int), i' ≤ l.length → poursAt m (stepW k (fun m => heatL cs bs m) m W) (l.drop i) = (W', l.drop i') → W'.lo ≤ t' ∧ t' ≤ W'.hi →
        x[m] = ⟨W'.lo, W'.hi⟩ ∧ WPL (KC kp0) needT 8 (lp Try.f8 0) [3, 5, 6, 7, 8, 9, 10, 11, 13, 15, 16, 17, 18] [2] Q (s8 l mi he at_ x (x.map (verd k)) t' W'.ladles i' ((m + 1 : Nat) : Int)) [f8r k cs ts ca bu w', []] 171 := by
      intro t' W' i' w' h1 h2 h3
      rw [h2] at hx0 hxr q1
      exact ⟨hx0, ih (m + 1) i' t' W' w' (by omega) h1 q1.1 q1.2 h3 hxr⟩
    clear ih hxr hx0
    have w1o : IntKind.i64.wrap 1 = 1 := rfl
    by_cases hm0 : m = 0
    · subst hm0
      have e0 : stepW k (fun m => heatL cs bs m) 0 W = W := rfl
      rw [e0] at L fin
      have L' := L t w ht
      simp [f8r, s8, Kettle.row] at L'
      apply WPL_step
      conv => arg 4; whnf
      simp [hml, f8r, s8, Kettle.row]
      refine L' _ (fun t' W' i' w' h1 h2 h3a h3b => ?_)
      have h3 : W'.lo ≤ t' ∧ t' ≤ W'.hi := ⟨h3a, h3b⟩
      obtain ⟨hx0, f2⟩ := fin t' W' i' w' h1 h2 h3
      have hvv : ((verd k ⟨W'.lo, W'.hi⟩ = 1 → k.sing ≤ t' ∧ t' ≤ k.boil) ∧ (verd k ⟨W'.lo, W'.hi⟩ = 2 → ¬ (k.sing ≤ t' ∧ t' ≤ k.boil))) := by
        unfold verd
        rw [singsF_def]
        by_cases c1 : k.sing ≤ W'.lo ∧ W'.hi ≤ k.boil
        · rw [if_pos c1]; omega
        · rw [if_neg c1]
          by_cases c2 : W'.hi < k.sing ∨ k.boil < W'.lo
          · rw [if_pos c2]; omega
          · rw [if_neg c2]; omega
      generalize hvd : verd k ⟨W'.lo, W'.hi⟩ = vv at *
      by_cases c1 : k.sing ≤ t'
      · by_cases c2 : t' ≤ k.boil
        · have d2 : ¬ vv = 2 := fun e => hvv.2 e ⟨c1, c2⟩
          by_cases d1 : vv = 1
          · simp [hmx, hx0, hvd, holds_ok kp0_ok, inB, h3, hwm, w1o, Span.row, irow, d1, c1, c2]
            simpa [f8r, s8, Kettle.row] using f2
          · have d1' : (vv == 1) = false := by simpa using d1
            have d2' : (vv == 2) = false := by simpa using d2
            simp [hmx, hx0, hvd, holds_ok kp0_ok, inB, h3, hwm, w1o, Span.row, irow, d1, d1', d2, d2', c1, c2]
            simpa [f8r, s8, Kettle.row] using f2
        · have d1 : ¬ vv = 1 := fun e => c2 (hvv.1 e).2
          have d1' : (vv == 1) = false := by simpa using d1
          by_cases d2 : vv = 2
          · simp [hmx, hx0, hvd, holds_ok kp0_ok, inB, h3, hwm, w1o, Span.row, irow, d1, d1', d2, c1, c2]
            simpa [f8r, s8, Kettle.row] using f2
          · have d2' : (vv == 2) = false := by simpa using d2
            simp [hmx, hx0, hvd, holds_ok kp0_ok, inB, h3, hwm, w1o, Span.row, irow, d1, d1', d2, d2', c1, c2]
            simpa [f8r, s8, Kettle.row] using f2
      · have d1 : ¬ vv = 1 := fun e => c1 (hvv.1 e).1
        have d1' : (vv == 1) = false := by simpa using d1
        by_cases d2 : vv = 2
        · simp [hmx, hx0, hvd, holds_ok kp0_ok, inB, h3, hwm, w1o, Span.row, irow, d1, d1', d2, c1]
          simpa [f8r, s8, Kettle.row] using f2
        · have d2' : (vv == 2) = false := by simpa using d2
          simp [hmx, hx0, hvd, holds_ok kp0_ok, inB, h3, hwm, w1o, Span.row, irow, d1, d1', d2, d2', c1]
          simpa [f8r, s8, Kettle.row] using f2
    · have e0 : stepW k (fun m => heatL cs bs m) m W = heatedW k W (heatL cs bs ((m : Int) - 1)) := by unfold stepW; rw [if_neg hm0]
      have hmp : (0 : Int) < m := by omega
      have hmp' : 0 < m := by omega
      have hho := hh ((m : Int) - 1)
      have hbd := heatL_bnd hf bs ((m : Int) - 1)
      have hlo := hW.lo
      have hhi := hW.hi
      have T := fun (H : Heap) (c : Nat) hH => hot_ok (keep := kp0) (H := H) (c := c) kp0_ok ca bu at_ he ((m : Int) - 1) hN a1 a2 a3 hb ha hhe hH
      have U := fun (H : Heap) (c : Nat) hH => heatedR_ok (keep := kp0) (H := H) (c := c) (k := k) (t := t) (L := W.ladles) (h := hotF ((m : Int) - 1) 0 at_ bu he) kp0_ok hko (by omega) hW.l (by omega) hH
      have hd : 0 < W.ladles * 1000000 := by have := hW.l; omega
      have mm1 := dn_mono hd (heatV_mono (k' := k) hko ⟨rfl, rfl, rfl⟩ hW.l.1 ht.1 hho.1)
      have mm2 := upn_mono hd (heatV_mono (k' := k) hko ⟨rfl, rfl, rfl⟩ hW.l.1 ht.2 hho.2)
      have mm3 := dn_le_upn (n := heatV k t W.ladles (hotF ((m : Int) - 1) 0 at_ bu he)) hd
      have mm4 := dn_nonneg hd (heatV_bnd hko (t := t) (L := W.ladles) (h := hotF ((m : Int) - 1) 0 at_ bu he) (by omega) hW.l (by omega)).1
      have el : (stepW k (fun m => heatL cs bs m) m W).lo = min 1000 (dn (heatV k W.lo W.ladles (heatL cs bs ((m : Int) - 1)).lo) (W.ladles * 1000000)) := by rw [e0, heatedW_def]
      have eh : (stepW k (fun m => heatL cs bs m) m W).hi = min 1000 (upn (heatV k W.hi W.ladles (heatL cs bs ((m : Int) - 1)).hi) (W.ladles * 1000000)) := by rw [e0, heatedW_def]
      generalize hotF ((m : Int) - 1) 0 at_ bu he = hv at *
      generalize dn (heatV k t W.ladles hv) (W.ladles * 1000000) = z0 at *
      generalize upn (heatV k t W.ladles hv) (W.ladles * 1000000) = z1 at *
      have hB : isBox [[], f8r k cs ts ca bu w, []] (1, 90118) := ⟨w, by simp [f8r], by simp [f8r]⟩
      have hwd : wordAt [[], f8r k cs ts ca bu w, []] (1, 90118) = w := by simp [wordAt, f8r, wbox]
      have I := fun (c : Nat) => in_ok (keep := kp0) (c := c) (x1 := min 1000 z0) (x2 := min 1000 z1) kp0_ok hB
      rw [hwd] at I
      have hir := inR_rng w ⟨min 1000 z0, min 1000 z1⟩ (by simp only; omega) (by simp only; omega) (by simp only; omega)
      generalize hz0 : min 1000 z0 = y0 at *
      generalize hz1 : min 1000 z1 = y1 at *
      generalize inR w ⟨y0, y1⟩ = tw at *
      simp only at hir
      have L' := L tw.1 tw.2 (by rw [el, eh]; omega)
      simp [f8r, s8, Kettle.row] at L' I
      simp only [Kettle.row] at U
      apply WPL_step
      conv => arg 4; whnf
      simp [hml, hmp, hmp', f8r, s8, Kettle.row, T, U, I, hwm1]
      refine L' _ (fun t' W' i' w' h1 h2 h3a h3b => ?_)
      have h3 : W'.lo ≤ t' ∧ t' ≤ W'.hi := ⟨h3a, h3b⟩
      obtain ⟨hx0, f2⟩ := fin t' W' i' w' h1 h2 h3
      have hvv : ((verd k ⟨W'.lo, W'.hi⟩ = 1 → k.sing ≤ t' ∧ t' ≤ k.boil) ∧ (verd k ⟨W'.lo, W'.hi⟩ = 2 → ¬ (k.sing ≤ t' ∧ t' ≤ k.boil))) := by
        unfold verd
        rw [singsF_def]
        by_cases c1 : k.sing ≤ W'.lo ∧ W'.hi ≤ k.boil
        · rw [if_pos c1]; omega
        · rw [if_neg c1]
          by_cases c2 : W'.hi < k.sing ∨ k.boil < W'.lo
          · rw [if_pos c2]; omega
          · rw [if_neg c2]; omega
      generalize hvd : verd k ⟨W'.lo, W'.hi⟩ = vv at *
      by_cases c1 : k.sing ≤ t'
      · by_cases c2 : t' ≤ k.boil
        · have d2 : ¬ vv = 2 := fun e => hvv.2 e ⟨c1, c2⟩
          by_cases d1 : vv = 1
          · simp [hmx, hx0, hvd, holds_ok kp0_ok, inB, h3, hwm, w1o, Span.row, irow, d1, c1, c2]
            simpa [f8r, s8, Kettle.row] using f2
          · have d1' : (vv == 1) = false := by simpa using d1
            have d2' : (vv == 2) = false := by simpa using d2
            simp [hmx, hx0, hvd, holds_ok kp0_ok, inB, h3, hwm, w1o, Span.row, irow, d1, d1', d2, d2', c1, c2]
            simpa [f8r, s8, Kettle.row] using f2
        · have d1 : ¬ vv = 1 := fun e => c2 (hvv.1 e).2
          have d1' : (vv == 1) = false := by simpa using d1
          by_cases d2 : vv = 2
          · simp [hmx, hx0, hvd, holds_ok kp0_ok, inB, h3, hwm, w1o, Span.row, irow, d1, d1', d2, c1, c2]
            simpa [f8r, s8, Kettle.row] using f2
          · have d2' : (vv == 2) = false := by simpa using d2
            simp [hmx, hx0, hvd, holds_ok kp0_ok, inB, h3, hwm, w1o, Span.row, irow, d1, d1', d2, d2', c1, c2]
            simpa [f8r, s8, Kettle.row] using f2
      · have d1 : ¬ vv = 1 := fun e => c1 (hvv.1 e).1
        have d1' : (vv == 1) = false := by simpa using d1
        by_cases d2 : vv = 2
        · simp [hmx, hx0, hvd, holds_ok kp0_ok, inB, h3, hwm, w1o, Span.row, irow, d1, d1', d2, c1]
          simpa [f8r, s8, Kettle.row] using f2
        · have d2' : (vv == 2) = false := by simpa using d2
          simp [hmx, hx0, hvd, holds_ok kp0_ok, inB, h3, hwm, w1o, Span.row, irow, d1, d1', d2, d2', c1]
          simpa [f8r, s8, Kettle.row] using f2

theorem law8 (nums : List Int) (hn : nums.length ≤ 9223372036854775807) : ∃ H', gcall (KC kp0) (geval (KC kp0)) 8 [.pure (.slice (nums.map irow))] 0 [[]] = some (.pure (.bool true), H') := by
  have key : WPv (gcall (KC kp0) (geval (KC kp0)) 8 [.pure (.slice (nums.map irow))] 0 [[]]) (fun x => x.1 = .pure (.bool true)) := by
    refine call_enter (KC kp0) needT Try.func8 rfl rfl good8 rfl (by simp) (by simp) ?_
    have A := fun (fr : Fr) (c : Nat) => awake_ok fr c
    have nk : newKey 21 6 = 90118 := rfl
    obtain ⟨w, hw⟩ := BoxOf_ok (keep := kp0) kp0_ok rfl (c := 21) (H := [[], []]) nums hn (by simp) (by simp)
    simp [nk] at hw
    have hB0 : isBox [[(90118, wbox w)], []] (1, 90118) := ⟨w, by simp, by simp⟩
    have hwd0 : wordAt [[(90118, wbox w)], []] (1, 90118) = w := by simp [wordAt, wbox]
    have hF := fun (c : Nat) => fireOf_ok (keep := kp0) (c := c) kp0_ok (m := 6) (by omega) hB0 rfl
    rw [hwd0] at hF
    have hm := fireR_made 6 w (by omega)
    generalize fireR 6 w = fw at *
    obtain ⟨⟨cs, ts⟩, w1⟩ := fw
    simp only at hm
    have hB1 : isBox [[(90118, wbox w1)], []] (1, 90118) := ⟨w1, by simp, by simp⟩
    have hwd1 : wordAt [[(90118, wbox w1)], []] (1, 90118) = w1 := by simp [wordAt, wbox]
    have hK := fun (c : Nat) => kettleOf_ok (keep := kp0) (c := c) kp0_ok hB1
    rw [hwd1] at hK
    have hko := kettleR_kok w1
    generalize kettleR w1 = kw at *
    obtain ⟨k, w2⟩ := kw
    simp only at hko
    have hB2 : isBox [[(4, .box [.pure (.slice (cs.map Coal.row)), .pure (.slice (ts.map Touch.row))]), (5, .box (k.row.map .pure)), (90118, wbox w2)], []] (1, 90118) := ⟨w2, by simp, by simp⟩
    have hwd2 : wordAt [[(4, .box [.pure (.slice (cs.map Coal.row)), .pure (.slice (ts.map Touch.row))]), (5, .box (k.row.map .pure)), (90118, wbox w2)], []] (1, 90118) = w2 := by simp [wordAt, wbox]
    have hP := fun (c : Nat) => poursOf_ok (keep := kp0) (c := c) (most := 5) (mins := 20) kp0_ok rfl (by omega) (by omega) hko.water hB2
    rw [hwd2] at hP
    obtain ⟨hps, hpl⟩ := poursOfR_ok k hko 5 20 w2 (by omega) (by omega)
    generalize poursOfR k 5 20 w2 = pw at *
    obtain ⟨l, w3⟩ := pw
    simp only at hps hpl
    have hB3 : isBox [[(4, .box [.pure (.slice (cs.map Coal.row)), .pure (.slice (ts.map Touch.row))]), (5, .box (k.row.map .pure)), (90118, wbox w3)], []] (1, 90118) := ⟨w3, by simp, by simp⟩
    have hwd3 : wordAt [[(4, .box [.pure (.slice (cs.map Coal.row)), .pure (.slice (ts.map Touch.row))]), (5, .box (k.row.map .pure)), (90118, wbox w3)], []] (1, 90118) = w3 := by simp [wordAt, wbox]
    have hU := fun (c : Nat) => up_ok (keep := kp0) (c := c) (n := 31) kp0_ok hB3 (by omega)
    rw [hwd3] at hU
    have hur := upR_rng w3 31 (by omega)
    generalize upR w3 31 = uw at *
    obtain ⟨mi0, w4⟩ := uw
    simp only at hur
    obtain ⟨mi, rfl⟩ : ∃ m : Nat, mi0 = m := ⟨mi0.toNat, by omega⟩
    have hn6 := hm.n
    have hcm := hm.coal
    simp only at hn6 hcm
    have hB4 : isBox [[(4, .box [.pure (.slice (cs.map Coal.row)), .pure (.slice (ts.map Touch.row))]), (5, .box (k.row.map .pure)), (90118, wbox w4)], []] (1, 90118) := ⟨w4, by simp, by simp⟩
    have hwd4 : wordAt [[(4, .box [.pure (.slice (cs.map Coal.row)), .pure (.slice (ts.map Touch.row))]), (5, .box (k.row.map .pure)), (90118, wbox w4)], []] (1, 90118) = w4 := by simp [wordAt, wbox]
    have hBu := fun (c : Nat) => burning_ok (keep := kp0) (c := c) kp0_ok cs ts (by omega) hB4
    rw [hwd4] at hBu
    have hd := burningR_drawn w4 hcm
    generalize burningR w4 cs = bw at *
    obtain ⟨ca, bu, w5⟩ := bw
    simp only at hd hBu
    have hB5 : isBox [[(4, .box [.pure (.slice (cs.map Coal.row)), .pure (.slice (ts.map Touch.row))]), (5, .box (k.row.map .pure)), (90118, wbox w5)], []] (1, 90118) := ⟨w5, by simp, by simp⟩
    have hwd5 : wordAt [[(4, .box [.pure (.slice (cs.map Coal.row)), .pure (.slice (ts.map Touch.row))]), (5, .box (k.row.map .pure)), (90118, wbox w5)], []] (1, 90118) = w5 := by simp [wordAt, wbox]
    have hHe := fun (c : Nat) => heats_ok (keep := kp0) (c := c) kp0_ok cs ts (by omega) hB5
    rw [hwd5] at hHe
    have hhi := heatsR_in cs w5 hcm
    generalize heatsR w5 cs = hw3 at *
    obtain ⟨he, w6⟩ := hw3
    simp only at hhi hHe
    have hch := made_check hm (by omega)
    simp only at hch
    have hfo := fireOk_of hch
    have hca : ∀ i, i < cs.length → 0 ≤ ca.getD i 0 ∧ ca.getD i 0 ≤ 300 := fun i hi => by have := hd.c i hi; have := (hcm cs[i] (List.getElem_mem hi)).k; omega
    have hT := fun (H : Heap) (c : Nat) hH => truly_ok (keep := kp0) (c := c) (H := H) kp0_ok cs ts ca bu (by omega) hd.l1 hd.l2 hca hfo.touch (by have := hfo.m; omega) hH
    obtain ⟨q1, q2⟩ := fire_holds (by omega) hcm hfo hd
    have hg := truly_g2 (ca := ca) (bu := bu) (ts := ts) cs
    have bok := beginsL_bok hfo
    have hsum : ∀ m : Int, (heatL cs (beginsL cs ts) m).lo ≤ hotF m 0 (trulyL ca bu ts cs) bu he ∧ hotF m 0 (trulyL ca bu ts cs) bu he ≤ (heatL cs (beginsL cs ts) m).hi := fun m =>
      hot_sums m cs (beginsL cs ts) (trulyL ca bu ts cs) bu he 0 ⟨0, 0⟩ q1 hg.len hd.l2 hhi.1 (fun i hi hb => by
        have a1 := q2 i hb
        have a2 := hd.b i hi
        have a3 := hhi.2 i hi
        have a4 := (hcm cs[i] (List.getElem_mem hi)).h
        have a5 := bok.val _ (List.getElem_mem hb)
        omega) (by simp) (by simp)
    have mem_of : ∀ (l : List Int) (lo hi : Int), l.length = cs.length → (∀ i, i < cs.length → lo ≤ l.getD i 0 ∧ l.getD i 0 ≤ hi) → ∀ x ∈ l, lo ≤ x ∧ x ≤ hi := by
      intro l lo hi hl h x hx
      obtain ⟨i, hi', e⟩ := List.getElem_of_mem hx
      have := h i (by omega)
      rw [getD_eq hi', e] at this
      exact this
    have m1 := mem_of bu 0 1000 hd.l2 (fun i hi => by have := hd.b i hi; have := (hcm cs[i] (List.getElem_mem hi)).b; omega)
    have m2 := mem_of _ 0 1000000 hg.len (fun i hi => hg.val i hi)
    have m3 := mem_of he 0 1000 hhi.1 (fun i hi => by have := hhi.2 i hi; have := (hcm cs[i] (List.getElem_mem hi)).h; omega)
    have hgl := hg.len
    have ha := asked_ok0 (f := ⟨cs, ts⟩) (n := mi) hko hch (by omega) hps (by omega)
    have hR := fun (H : Heap) (c : Nat) hH => Run_ok (keep := kp0) (H := H) (c := c) kp0_ok rfl rfl k ⟨cs, ts⟩ l mi hH
    have hS := fun (H : Heap) (c : Nat) hH => Sings_ok (keep := kp0) (H := H) (c := c) kp0_ok rfl rfl k ⟨cs, ts⟩ l mi hH
    have eR : runA k ⟨cs, ts⟩ l mi = (runL k (fun m => heatL cs (beginsL cs ts) m) (mi + 1) 0 ⟨k.water, k.warm.lo, k.warm.hi⟩ l, 0) := by rw [runA_def, if_pos ha, Int.toNat_natCast]
    rw [eR] at hR hS
    simp only at hR hS
    have hlx := runL_len k (fun m => heatL cs (beginsL cs ts) m) (mi + 1) 0 ⟨k.water, k.warm.lo, k.warm.hi⟩ l
    have hF8 : [(4, .box [.pure (.slice (cs.map Coal.row)), .pure (.slice (ts.map Touch.row))]), (5, .box (k.row.map .pure)), (8, .box [.pure (.slice (ca.map irow)), .pure (.slice (bu.map irow))]), (90118, wbox w6)] = f8r k cs ts ca bu w6 := rfl
    have hB6 : isBox [f8r k cs ts ca bu w6, []] (1, 90118) := ⟨w6, by simp [f8r], by simp [f8r]⟩
    have hwd6 : wordAt [f8r k cs ts ca bu w6, []] (1, 90118) = w6 := by simp [wordAt, f8r, wbox]
    have hI := fun (c : Nat) => in_ok (keep := kp0) (c := c) (x1 := k.warm.lo) (x2 := k.warm.hi) kp0_ok hB6
    rw [hwd6] at hI
    have hkw := hko.warm
    have hir := inR_rng w6 ⟨k.warm.lo, k.warm.hi⟩ (by simp only; omega) (by simp only; omega) (by simp only; omega)
    generalize inR w6 ⟨k.warm.lo, k.warm.hi⟩ = tw at *
    obtain ⟨t, w7⟩ := tw
    simp only at hir hI
    have h0 := fun Q hq => warmth_loop0 k hko cs ts hfo ca bu l (by omega) mi (by omega) he (trulyL ca bu ts cs) (N := cs.length) (by omega) hd.l2 hg.len hhi.1 m1 m2 m3 (beginsL cs ts) hsum
      (runL k (fun m => heatL cs (beginsL cs ts) m) (mi + 1) 0 ⟨k.water, k.warm.lo, k.warm.hi⟩ l) hlx Q hq (mi + 1) 0 0 t ⟨k.water, k.warm.lo, k.warm.hi⟩ w7 (by omega) (by omega) (kwok hko) ⟨0, by simpa using hps⟩ hir (by simp)
    generalize trulyL ca bu ts cs = at_ at *
    generalize runL k (fun m => heatL cs (beginsL cs ts) m) (mi + 1) 0 ⟨k.water, k.warm.lo, k.warm.hi⟩ l = x at *
    simp [s8, f8r, Kettle.row] at h0 hI
    simp [Kettle.row, Fire.row, Span.row] at hF hK hP hU hBu hHe hT hR hS
    have hwm := w64 (x := (mi : Int) + 1) (by omega) (by omega)
    simp [hw, hF, hK, hP, hU, hBu, hHe, hT, hR, hS, Kettle.row, Fire.row, Span.row, hlx, hwm, hI]
    refine h0 _ (fun w' => ?_)
    simp [A, gleave_free, kp0_ok, kept]
  obtain ⟨⟨r, H'⟩, e1, e2⟩ := key
  simp only at e2
  exact ⟨H', by rw [e1, e2]⟩
end Go.Gh


/-
  Proved here: for every list of numbers HearthWarmth returns true and leaves its argument as it was. No condition.
-/
namespace Go.Proofs.Ytldhcphijclmdaa
open Go.Gh Go.RowKit
set_option maxRecDepth 100000

theorem hearthWarmth_lifted (os : Os) (started : os.Started) (H : Type) (enc : TypeId × Value → H) :
    ReturnsInHanded {} Try.checked os 8 .any (Rows.hearthWarmthSpec.pre6 enc Try.prog Try.f8 Rows.hearthWarmthRow.domain false) (Rows.hearthWarmthSpec.post enc Try.prog Try.f8 false true false false) := by
  refine law_lifted (C := Try.checked) (ctxOk kp0) rfl 4 own started (by kernel_rfl) laidOut Try.func8 rfl (fun ds hds => ?_) (tb := 4) rfl Try.underlying4 (by kernel_rfl)
    (ChangeSpec.witness6 (enc := enc) (C := Try.checked) false ⟨#[], #[.slice none 0 0], []⟩ 8 (by kernel_rfl) (by kernel_rfl) (by kernel_rfl) (by kernel_rfl)) ?_
  · match ds, hds with
    | [d], _ => rfl
  · intro pvs h
    match pvs, h with
    | [p], h =>
      obtain ⟨l, hl, rfl⟩ := shp_ints h.1
      exact law8 l hl

theorem hearthWarmth_holds : Rows.HearthWarmthSaid :=
  OpenClaim.holds_of_wide 8 Try.f8 rfl rfl rfl rfl rfl rfl rfl ⟨rfl, rfl, rfl, rfl, rfl⟩ rfl rfl rfl rfl rfl (by kernel_rfl) Try.func8 (by kernel_rfl)
    (of_decide_eq_true (by kernel_rfl)) (by unfold Func.isWrapper; first | (rw [if_pos (by decide +kernel)]; kernel_rfl) | (rw [if_neg (by decide +kernel)]; exact ⟨rfl, rfl⟩))
    (fun os started H enc _ => hearthWarmth_lifted os started H enc)
#print axioms hearthWarmth_holds
end Go.Proofs.Ytldhcphijclmdaa
