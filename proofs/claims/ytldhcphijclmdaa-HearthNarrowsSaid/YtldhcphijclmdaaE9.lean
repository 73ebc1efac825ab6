/- HearthNarrows. -/
import Derived.Test.YtldhcphijclmdaaFg
import Derived.Test.YtldhcphijclmdaaGl
import Derived.Test.YtldhcphijclmdaaGm
namespace Go.Gh
open Go.Proofs
set_option linter.unusedSimpArgs false
set_option linter.unusedVariables false
set_option maxRecDepth 100000
set_option maxHeartbeats 4000000

theorem narrows_loop0 (x y p q : List Span) (v w : List Int) (n : Nat) (hn : n ≤ 1000) (l1 : x.length = n) (l2 : y.length = n) (l3 : v.length = n) (l4 : w.length = n)
    (hxy : ∀ i (h : i < x.length) (h' : i < y.length), x[i].lo ≤ y[i].lo ∧ y[i].hi ≤ x[i].hi) (hvw : ∀ i (h : i < v.length) (h' : i < w.length), v[i] = 3 ∨ w[i] = v[i]) (F : Fr) (Q : GX → GSt → Prop) : ∀ j i : Nat, i + j = n →
    Q (.exit 0) ⟨[(2, gdead), (18, .pure (.slice (p.map Span.row))), (20, .pure (.slice (q.map Span.row)))], [F, []], 187⟩ →
    WPL (KC kp0) needT 9 (lp Try.f9 0) [10, 12, 14, 16, 18, 20, 22] [2, 18, 20] Q [(10, .pure (.slice (x.map Span.row))), (12, .pure (.slice (y.map Span.row))), (14, .pure (.slice (v.map irow))), (16, .pure (.slice (w.map irow))), (18, .pure (.slice (p.map Span.row))), (20, .pure (.slice (q.map Span.row))), (22, .pure (.int .i64 i))] [F, []] 187 := by
  intro j
  induction j with
  | zero =>
    intro i hi h1
    have : ¬ i < x.length := by omega
    apply WPL_step
    conv => arg 4; whnf
    simp [this]
    exact h1
  | succ j ih =>
    intro i hi h1
    have i1 : i < x.length := by omega
    have i2 : i < y.length := by omega
    have i3 : i < v.length := by omega
    have i4 : i < w.length := by omega
    have hw := w64 (x := (i : Int) + 1) (by omega) (by omega)
    have ih' := ih (i + 1) (by omega) h1
    have a := hxy i i1 i2
    have b := hvw i i3 i4
    apply WPL_step
    conv => arg 4; whnf
    by_cases c : v[i] = 3
    · simp [i1, i2, i3, i4, hw, irow, Span.row, within2_ok kp0_ok, a, c]
      simpa [irow] using ih'
    · have c' : (v[i] != 3) = true := by simpa using c
      have d : w[i] = v[i] := by rcases b with b | b; exact absurd b c; exact b
      simp [i1, i2, i3, i4, hw, irow, Span.row, within2_ok kp0_ok, a, c, c', d]
      simpa [irow] using ih'
theorem narrows_loop1 (p q : List Span) (n : Nat) (hn : n ≤ 1000) (l1 : p.length = n) (l2 : q.length = n)
    (hpq : ∀ i (h : i < p.length) (h' : i < q.length), p[i].lo ≤ q[i].lo ∧ q[i].hi ≤ p[i].hi) (F : Fr) (Q : GX → GSt → Prop) : ∀ j i : Nat, i + j = n →
    Q (.exit 2) ⟨[(2, gdead)], [F, []], 187⟩ →
    WPL (KC kp0) needT 9 (lp Try.f9 1) [18, 20, 23] [2] Q [(18, .pure (.slice (p.map Span.row))), (20, .pure (.slice (q.map Span.row))), (23, .pure (.int .i64 i))] [F, []] 187 := by
  intro j
  induction j with
  | zero =>
    intro i hi h1
    have : ¬ i < p.length := by omega
    apply WPL_step
    conv => arg 4; whnf
    simp [this]
    exact h1
  | succ j ih =>
    intro i hi h1
    have i1 : i < p.length := by omega
    have i2 : i < q.length := by omega
    have hw := w64 (x := (i : Int) + 1) (by omega) (by omega)
    have ih' := ih (i + 1) (by omega) h1
    have a := hpq i i1 i2
    apply WPL_step
    conv => arg 4; whnf
    simp [i1, i2, hw, Span.row, within2_ok kp0_ok, a]
    exact ih'

theorem law9 (nums : List Int) (hn : nums.length ≤ 9223372036854775807) : ∃ H', gcall (KC kp0) (geval (KC kp0)) 9 [.pure (.slice (nums.map irow))] 0 [[]] = some (.pure (.bool true), H') := by
  have key : WPv (gcall (KC kp0) (geval (KC kp0)) 9 [.pure (.slice (nums.map irow))] 0 [[]]) (fun x => x.1 = .pure (.bool true)) := by
    refine call_enter (KC kp0) needT Try.func9 rfl rfl good9 rfl (by simp) (by simp) ?_
    have A := fun (fr : Fr) (c : Nat) => awake_ok fr c
    have nk : newKey 25 6 = 106502 := rfl
    obtain ⟨w, hw⟩ := BoxOf_ok (keep := kp0) kp0_ok rfl (c := 25) (H := [[], []]) nums hn (by simp) (by simp)
    simp [nk] at hw
    have hB : isBox [[(106502, wbox w)], []] (1, 106502) := ⟨w, by simp, by simp⟩
    have hwd : wordAt [[(106502, wbox w)], []] (1, 106502) = w := by simp [wordAt, wbox]
    have hF := fun (c : Nat) => fireOf_ok (keep := kp0) (c := c) kp0_ok (m := 6) (by omega) hB rfl
    rw [hwd] at hF
    have hm := fireR_made 6 w (by omega)
    generalize fireR 6 w = fw at *
    obtain ⟨⟨cs, ts⟩, w1⟩ := fw
    simp only at hm
    have hB1 : isBox [[(106502, wbox w1)], []] (1, 106502) := ⟨w1, by simp, by simp⟩
    have hwd1 : wordAt [[(106502, wbox w1)], []] (1, 106502) = w1 := by simp [wordAt, wbox]
    have hK := fun (c : Nat) => kettleOf_ok (keep := kp0) (c := c) kp0_ok hB1
    rw [hwd1] at hK
    have hko := kettleR_kok w1
    generalize kettleR w1 = kw at *
    obtain ⟨k, w2⟩ := kw
    simp only at hko
    have hB2 : isBox [[(4, .box [.pure (.slice (cs.map Coal.row)), .pure (.slice (ts.map Touch.row))]), (5, .box (k.row.map .pure)), (106502, wbox w2)], []] (1, 106502) := ⟨w2, by simp, by simp⟩
    have hwd2 : wordAt [[(4, .box [.pure (.slice (cs.map Coal.row)), .pure (.slice (ts.map Touch.row))]), (5, .box (k.row.map .pure)), (106502, wbox w2)], []] (1, 106502) = w2 := by simp [wordAt, wbox]
    have hP := fun (c : Nat) => poursOf_ok (keep := kp0) (c := c) (most := 4) (mins := 20) kp0_ok rfl (by omega) (by omega) hko.water hB2
    rw [hwd2] at hP
    obtain ⟨hps, hpl⟩ := poursOfR_ok k hko 4 20 w2 (by omega) (by omega)
    generalize poursOfR k 4 20 w2 = pw at *
    obtain ⟨l, w3⟩ := pw
    simp only at hps hpl
    have hB3 : isBox [[(4, .box [.pure (.slice (cs.map Coal.row)), .pure (.slice (ts.map Touch.row))]), (5, .box (k.row.map .pure)), (106502, wbox w3)], []] (1, 106502) := ⟨w3, by simp, by simp⟩
    have hwd3 : wordAt [[(4, .box [.pure (.slice (cs.map Coal.row)), .pure (.slice (ts.map Touch.row))]), (5, .box (k.row.map .pure)), (106502, wbox w3)], []] (1, 106502) = w3 := by simp [wordAt, wbox]
    have hU := fun (c : Nat) => up_ok (keep := kp0) (c := c) (n := 25) kp0_ok hB3 (by omega)
    rw [hwd3] at hU
    have hur := upR_rng w3 25 (by omega)
    generalize upR w3 25 = uw at *
    obtain ⟨mi, w4⟩ := uw
    simp only at hur
    have hB4 : isBox [[(4, .box [.pure (.slice (cs.map Coal.row)), .pure (.slice (ts.map Touch.row))]), (5, .box (k.row.map .pure)), (106502, wbox w4)], []] (1, 106502) := ⟨w4, by simp, by simp⟩
    have hwd4 : wordAt [[(4, .box [.pure (.slice (cs.map Coal.row)), .pure (.slice (ts.map Touch.row))]), (5, .box (k.row.map .pure)), (106502, wbox w4)], []] (1, 106502) = w4 := by simp [wordAt, wbox]
    have hn6 := hm.n
    simp only at hn6
    have hI := fun (c : Nat) => inner_ok (keep := kp0) (c := c) kp0_ok cs ts (by omega) hB4
    rw [hwd4] at hI
    have hin := innerR_in cs w4 hm.coal
    generalize innerR w4 cs = iw at *
    obtain ⟨cs', w5⟩ := iw
    simp only at hin
    have hB5 : isBox [[(4, .box [.pure (.slice (cs.map Coal.row)), .pure (.slice (ts.map Touch.row))]), (5, .box (k.row.map .pure)), (8, .box [.pure (.slice (cs'.map Coal.row)), .pure (.slice (ts.map Touch.row))]), (9, .box (k.row.map .pure)), (106502, wbox w5)], []] (1, 106502) := ⟨w5, by simp, by simp⟩
    have hwd5 : wordAt [[(4, .box [.pure (.slice (cs.map Coal.row)), .pure (.slice (ts.map Touch.row))]), (5, .box (k.row.map .pure)), (8, .box [.pure (.slice (cs'.map Coal.row)), .pure (.slice (ts.map Touch.row))]), (9, .box (k.row.map .pure)), (106502, wbox w5)], []] (1, 106502) = w5 := by simp [wordAt, wbox]
    have hPa := fun (c : Nat) => part_ok (keep := kp0) (c := c) (x1 := k.warm.lo) (x2 := k.warm.hi) kp0_ok hB5
    rw [hwd5] at hPa
    have hpi := partR_in w5 ⟨k.warm.lo, k.warm.hi⟩ (by have := hko.warm; simp only; omega) (by have := hko.warm; simp only; omega) (by have := hko.warm; simp only; omega)
    generalize partR w5 ⟨k.warm.lo, k.warm.hi⟩ = paw at *
    obtain ⟨pw, w6⟩ := paw
    simp only at hpi
    have hm' := hin.made hm
    have hch := made_check hm (by omega)
    have hch' := made_check hm' (by omega)
    simp only at hch hch'
    have hf := fireOk_of hch
    have hf' := fireOk_of hch'
    obtain ⟨pan, hpan⟩ : ∃ pan : Kettle, pan = ⟨k.water, pw, k.room, k.gain, k.lose, k.sing, k.boil⟩ := ⟨_, rfl⟩
    have hko' : KOk pan := by
      have h1 := hpi.lo; have h2 := hpi.hi; have h3 := hpi.ok
      have := hko.warm
      simp only at h1 h2
      rw [hpan]
      exact ⟨hko.water, by simp only; omega, hko.room, hko.gain, hko.lose, hko.sing⟩
    have ha := asked_ok0 (f := ⟨cs, ts⟩) (n := mi) hko hch (by omega) hps (by omega)
    have ha' := asked_ok0 (k := pan) (f := ⟨cs', ts⟩) (l := l) (n := mi) hko' hch' (by omega) (by rw [hpan]; exact hps) (by omega)
    have hR := fun (H : Heap) (c : Nat) hH => Run_ok (keep := kp0) (H := H) (c := c) kp0_ok rfl rfl k ⟨cs, ts⟩ l mi hH
    have hR' := fun (H : Heap) (c : Nat) hH => Run_ok (keep := kp0) (H := H) (c := c) kp0_ok rfl rfl pan ⟨cs', ts⟩ l mi hH
    have hS := fun (H : Heap) (c : Nat) hH => Sings_ok (keep := kp0) (H := H) (c := c) kp0_ok rfl rfl k ⟨cs, ts⟩ l mi hH
    have hS' := fun (H : Heap) (c : Nat) hH => Sings_ok (keep := kp0) (H := H) (c := c) kp0_ok rfl rfl pan ⟨cs', ts⟩ l mi hH
    have hBe := fun (H : Heap) (c : Nat) hH => Begins_ok (keep := kp0) (H := H) (c := c) kp0_ok rfl cs ts hH
    have hBe' := fun (H : Heap) (c : Nat) hH => Begins_ok (keep := kp0) (H := H) (c := c) kp0_ok rfl cs' ts hH
    rw [hch] at hBe
    rw [hch'] at hBe'
    have eR : runA k ⟨cs, ts⟩ l mi = (runL k (fun m => heatL cs (beginsL cs ts) m) (mi.toNat + 1) 0 ⟨k.water, k.warm.lo, k.warm.hi⟩ l, 0) := by rw [runA_def, if_pos ha]
    have eR' : runA pan ⟨cs', ts⟩ l mi = (runL pan (fun m => heatL cs' (beginsL cs' ts) m) (mi.toNat + 1) 0 ⟨pan.water, pan.warm.lo, pan.warm.hi⟩ l, 0) := by rw [runA_def, if_pos ha']
    have hkk : KLe k pan := by rw [hpan]; exact ⟨rfl, rfl, rfl⟩
    have hri := run_in hin hf hf' hko hko' hkk (by rw [hpan]) (by rw [hpan]; exact hpi) (l := l) ⟨0, hps⟩ (mi.toNat + 1)
    have hro := runL_ord hko' (hsok hf') (heat_ord (by have := hm'.n; simp only at this; omega) hm'.coal hf') (mi.toNat + 1) 0 ⟨pan.water, pan.warm.lo, pan.warm.hi⟩ l (kwok hko') ⟨0, by rw [hpan]; exact hps⟩ (by have := hko'.warm; simp only; omega)
    have hlx := runL_len k (fun m => heatL cs (beginsL cs ts) m) (mi.toNat + 1) 0 ⟨k.water, k.warm.lo, k.warm.hi⟩ l
    have hly := runL_len pan (fun m => heatL cs' (beginsL cs' ts) m) (mi.toNat + 1) 0 ⟨pan.water, pan.warm.lo, pan.warm.hi⟩ l
    rw [eR] at hR hS
    rw [eR'] at hR' hS'
    obtain ⟨g1, g2, g3⟩ := begins_in hin hf hf'
    simp only [if_true] at hBe hBe' hR hR' hS hS'
    generalize runL k (fun m => heatL cs (beginsL cs ts) m) (mi.toNat + 1) 0 ⟨k.water, k.warm.lo, k.warm.hi⟩ l = x at *
    generalize runL pan (fun m => heatL cs' (beginsL cs' ts) m) (mi.toNat + 1) 0 ⟨pan.water, pan.warm.lo, pan.warm.hi⟩ l = y at *
    generalize beginsL cs ts = p at *
    generalize beginsL cs' ts = q at *
    have hvv : ∀ i (h : i < (x.map (verd k)).length) (h' : i < (y.map (verd pan)).length), (x.map (verd k))[i] = 3 ∨ (y.map (verd pan))[i] = (x.map (verd k))[i] := by
      intro i h1 h2
      simp only [List.length_map] at h1 h2
      simp only [List.getElem_map]
      by_cases c : verd k x[i] = 3
      · exact .inl c
      · exact .inr (verd_in (by rw [hpan]) (by rw [hpan]) (hro _ (List.getElem_mem h2)) (hri i h1 h2).1 (hri i h1 h2).2 c)
    have h0 := fun F Q hq => narrows_loop0 x y p q (x.map (verd k)) (y.map (verd pan)) (mi.toNat + 1) (by omega) hlx hly (by simp [hlx]) (by simp [hly]) hri hvv F Q (mi.toNat + 1) 0 (by omega) hq
    have h1 := fun F Q hq => narrows_loop1 p q cs.length (by omega) g2 g1 g3 F Q cs.length 0 (by omega) hq
    have hvx : (x.map (verd k)).length = mi.toNat + 1 := by simp [hlx]
    have hvy : (y.map (verd pan)).length = mi.toNat + 1 := by simp [hly]
    generalize x.map (verd k) = v at *
    generalize y.map (verd pan) = u at *
    have epan : pan.row = [.int .i64 k.water, .int .i64 pw.lo, .int .i64 pw.hi, .int .i64 k.room, .int .i64 k.gain, .int .i64 k.lose, .int .i64 k.sing, .int .i64 k.boil] := by rw [hpan]; rfl
    rw [epan] at hR' hS'
    simp [Kettle.row, Fire.row, Span.row] at hF hK hP hU hI hPa hR hR' hS hS'
    simp at h0 h1
    simp [hw, hF, hK, hP, hU, hI, hPa, Kettle.row, Fire.row, Span.row, hR, hR', hS, hS', hBe, hBe', hlx, hly, g1, g2, hvx, hvy]
    refine h0 _ _ ?_
    simp
    refine h1 _ _ ?_
    simp [A, gleave_free, kp0_ok, kept]
  obtain ⟨⟨r, H'⟩, e1, e2⟩ := key
  simp only at e2
  exact ⟨H', by rw [e1, e2]⟩
end Go.Gh


/-
  Proved here: for every list of numbers HearthNarrows returns true and leaves its argument as it was. No condition.
-/
namespace Go.Proofs.Ytldhcphijclmdaa
open Go.Gh Go.RowKit
set_option maxRecDepth 100000

theorem hearthNarrows_lifted (os : Os) (started : os.Started) (H : Type) (enc : TypeId × Value → H) :
    ReturnsInHanded {} Try.checked os 9 .any (Rows.hearthNarrowsSpec.pre6 enc Try.prog Try.f9 Rows.hearthNarrowsRow.domain false) (Rows.hearthNarrowsSpec.post enc Try.prog Try.f9 false true false false) := by
  refine law_lifted (C := Try.checked) (ctxOk kp0) rfl 4 own started (by kernel_rfl) laidOut Try.func9 rfl (fun ds hds => ?_) (tb := 4) rfl Try.underlying4 (by kernel_rfl)
    (ChangeSpec.witness6 (enc := enc) (C := Try.checked) false ⟨#[], #[.slice none 0 0], []⟩ 8 (by kernel_rfl) (by kernel_rfl) (by kernel_rfl) (by kernel_rfl)) ?_
  · match ds, hds with
    | [d], _ => rfl
  · intro pvs h
    match pvs, h with
    | [p], h =>
      obtain ⟨l, hl, rfl⟩ := shp_ints h.1
      exact law9 l hl

theorem hearthNarrows_holds : Rows.HearthNarrowsSaid :=
  OpenClaim.holds_of_wide 9 Try.f9 rfl rfl rfl rfl rfl rfl rfl ⟨rfl, rfl, rfl, rfl, rfl⟩ rfl rfl rfl rfl rfl (by kernel_rfl) Try.func9 (by kernel_rfl)
    (of_decide_eq_true (by kernel_rfl)) (by unfold Func.isWrapper; first | (rw [if_pos (by decide +kernel)]; kernel_rfl) | (rw [if_neg (by decide +kernel)]; exact ⟨rfl, rfl⟩))
    (fun os started H enc _ => hearthNarrows_lifted os started H enc)
#print axioms hearthNarrows_holds
end Go.Proofs.Ytldhcphijclmdaa
