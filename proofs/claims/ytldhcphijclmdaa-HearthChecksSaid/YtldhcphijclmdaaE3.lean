/- HearthChecks. -/
import Derived.Test.YtldhcphijclmdaaFk
import Derived.Test.YtldhcphijclmdaaGm
namespace Go.Gh
open Go.Proofs
set_option linter.unusedSimpArgs false
set_option linter.unusedVariables false
set_option maxRecDepth 100000
set_option maxHeartbeats 4000000

theorem rkK (k : Kettle) (l : List Pour) (hl : l.length ≤ 1000) : RK k l (kettleF k) (poursF k l) where
  own := fun H c hH => ownPoursP_ok (keep := kp3) (H := H) (c := c) rfl hl hH
  ke := fun H c hH => kettle_ok (keep := kp3) (H := H) (c := c) kp3_ok hH
  ker := fun H c hH => kettleR_ok (keep := kp3) (H := H) (c := c) kp3_ok hH
  po := fun H c hH => pours_ok (keep := kp3) (H := H) (c := c) kp3_ok l hH
  por := fun H c hH => poursR_ok (keep := kp3) (H := H) (c := c) kp3_ok l hH
  eq := fun H c hH => by
    have a := eqPours_ok (keep := kp3) (H := H) (c := c) kp3_ok l l hH (by omega)
    simpa using a
noncomputable def BL (cs : List Coal) (ts : List Touch) : List Span := if checkF cs ts = 0 then beginsL cs ts else []
theorem BL_len (cs : List Coal) (ts : List Touch) (hc : cs.length ≤ 1000) : (BL cs ts).length ≤ 1000 := by
  unfold BL
  split
  · rename_i h
    have := (beginsL_bok (fireOk_of h)).len
    omega
  · simp
theorem BL_row (cs : List Coal) (ts : List Touch) : (if checkF cs ts = 0 then (beginsL cs ts).map Span.row else []) = (BL cs ts).map Span.row := by
  unfold BL
  split <;> rfl
theorem rfG {cs : List Coal} {ts : List Touch} {g c1 : GV} {F F' : Fr} (hc : cs.length ≤ 1000) (ht : ts.length ≤ 1000) (z1 : ∀ fr, frzVal [fr, F, []] g = (c1, [fr, F', []])) (z2 : ∀ fr, frzVal [fr, F', []] g = (c1, [fr, F', []])) (cn : canon c1 = canon (.pure (.agg [.slice (cs.map Coal.row), .slice (ts.map Touch.row)]))) :
    RF cs ts g F F' (BL cs ts) (checkF cs ts) (heatA cs ts) (checkF cs ts) where
  bl := BL_len cs ts hc
  own := fun fr c => (gcall_g1 rfl (z1 fr) cn).trans (ownFireP_ok (keep := kp3) rfl hc ht (by simp))
  be := fun H c hH => by rw [Begins_ok (keep := kp3) kp3_ok rfl cs ts hH, BL_row]
  ber := fun fr c => by rw [gcall_g1 rfl (z2 fr) cn, BeginsR_ok (keep := kp3) kp3_ok cs ts (by simp), BL_row]
  he := fun H c m hH => Heat_ok (keep := kp3) kp3_ok rfl cs ts m hH
  her := fun fr c m => (gcall_g2 rfl (z2 fr) cn).trans (HeatR_ok (keep := kp3) kp3_ok cs ts m (by simp))
  ch := fun H c hH => check_ok (keep := kp3) kp3_ok cs ts hH
  chr := fun fr c => (gcall_g1 rfl (z2 fr) cn).trans (checkR_ok (keep := kp3) kp3_ok cs ts (by simp))
  eqf := fun fr c => (gcall_g3 rfl (z2 fr) cn).trans (by
    have a := eqFires_ok (keep := kp3) (c := c) (H := [fr, F', []]) kp3_ok cs cs ts ts (by simp) (by omega) (by omega)
    simpa using a)
theorem rfP {cs : List Coal} {ts : List Touch} (hc : cs.length ≤ 1000) (ht : ts.length ≤ 1000) (F : Fr) : RF cs ts (.pure (.agg [.slice (cs.map Coal.row), .slice (ts.map Touch.row)])) F F (BL cs ts) (checkF cs ts) (heatA cs ts) (checkF cs ts) :=
  rfG hc ht (fun fr => frzVal_pure) (fun fr => frzVal_pure) rfl

theorem checks_loop {cs0 cs1 : List Coal} {ts0 ts1 : List Touch} {a1 a2 c1 : GV} {k0 k1 : Kettle} {l0 l1 : List Pour} {m0 m1 : Int} {F F' : Fr} (hc0 : cs0.length ≤ 1000) (ht0 : ts0.length ≤ 1000) (hc1 : cs1.length ≤ 1000) (ht1 : ts1.length ≤ 1000) (hl0 : l0.length ≤ 1000) (hl1 : l1.length ≤ 1000)
    (z1 : ∀ fr, frzVal [fr, F, []] (.agg [a1, a2]) = (c1, [fr, F', []])) (z2 : ∀ fr, frzVal [fr, F', []] (.agg [a1, a2]) = (c1, [fr, F', []])) (cn : canon c1 = canon (.pure (.agg [.slice (cs1.map Coal.row), .slice (ts1.map Touch.row)])))
    (hle : allLe 1 [a1, a2] = true) (ha : allPure [a1, a2] = none) {Q : GX → GSt → Prop} {S : Slots} {H : Heap} (hS : S = sl3 cs0 ts0 a1 a2 k0 k1 l0 l1 m0 m1 0) (hH : H = [F, []]) (h : Q (.exit 0) ⟨[(12, gdead)], [F', []], 204⟩) :
    WPL (KC kp3) needT 3 (lp Try.f3 0) [16, 17, 18, 19, 20] [12] Q S H 204 := by
  subst hS
  subst hH
  exact checks_round0 hle (rfP hc0 ht0 F) (rkK k0 l0 hl0) (checks_round1 hle ha (rfG hc1 ht1 z1 z2 cn) (rkK k1 l1 hl1) (checks_round2 hle ha (rfG hc1 ht1 z2 z2 cn) (rkK k1 l0 hl0) h))

theorem checks_loopP {cs0 cs1 : List Coal} {ts0 ts1 : List Touch} {k0 k1 : Kettle} {l0 l1 : List Pour} {m0 m1 : Int} {F : Fr} (hc0 : cs0.length ≤ 1000) (ht0 : ts0.length ≤ 1000) (hc1 : cs1.length ≤ 1000) (ht1 : ts1.length ≤ 1000) (hl0 : l0.length ≤ 1000) (hl1 : l1.length ≤ 1000)
    {Q : GX → GSt → Prop} {S : Slots} {H : Heap} (hS : S = sl3p cs0 ts0 cs1 ts1 k0 k1 l0 l1 m0 m1 0) (hH : H = [F, []]) (h : Q (.exit 0) ⟨[(12, gdead)], [F, []], 204⟩) :
    WPL (KC kp3) needT 3 (lp Try.f3 0) [16, 17, 18, 19, 20] [12] Q S H 204 := by
  subst hS
  subst hH
  exact checks_roundP0 (rfP hc0 ht0 F) (rkK k0 l0 hl0) (checks_roundP1 (rfP hc1 ht1 F) (rkK k1 l1 hl1) (checks_roundP2 (rfP hc1 ht1 F) (rkK k1 l0 hl0) h))

def f3g (p : Fire) (k : Kettle) (x : Coal) (a1 a2 : GV) (k1 : Kettle) (T : Fr) (w : Int) : Fr := (6, .box [.pure (.slice (p.coals.map Coal.row)), .pure (.slice (p.touches.map Touch.row))]) :: (7, .box (k.row.map .pure)) :: (10, .box (x.row.map .pure)) :: (14, .box [a1, a2]) :: (15, .box (k1.row.map .pure)) :: (151558, wbox w) :: T
section
variable (p : Fire) (k : Kettle) (x : Coal) (k1 : Kettle) (w : Int)
theorem zA (fr : Fr) : frzVal [fr, f3g p k x .nils .nils k1 [] w, []] (.agg [.nils, .nils]) = (mkAgg [frzS [], frzS []], [fr, f3g p k x .nils .nils k1 [] w, []]) := by
  have a := frzVal_fire (H := [fr, f3g p k x .nils .nils k1 [] w, []]) (n1 := (1, 0)) (n2 := (1, 0)) (v1 := 0) (v2 := 0) (o1 := true) (o2 := true) (r1 := []) (r2 := []) (fun h => absurd rfl h) (fun h => absurd rfl h) (by simp) (by simp)
  simpa [apS, frzH] using a
theorem zB (n v : Nat) (rows : List (List PV)) (hn : rows.length = n) (h0 : rows ≠ []) (hv : v ≤ n) (r : Bool) (fr : Fr) : frzVal [fr, f3g p k x (.hdr (1, 159777) 7 n 0 n) .nils k1 [(159777, .arr 7 rows v r)] w, []] (.agg [.hdr (1, 159777) 7 n 0 n, .nils]) = (mkAgg [frzS rows, frzS []], [fr, f3g p k x (.hdr (1, 159777) 7 n 0 n) .nils k1 [(159777, .arr 7 rows v true)] w, []]) := by
  subst hn
  have a := frzVal_fire (H := [fr, f3g p k x (.hdr (1, 159777) 7 rows.length 0 rows.length) .nils k1 [(159777, .arr 7 rows v r)] w, []]) (n1 := (1, 159777)) (n2 := (1, 0)) (v1 := v) (v2 := 0) (o1 := r) (o2 := r) (r1 := rows) (r2 := []) (fun _ => by simp [f3g]) (fun h => absurd rfl h) hv (by simp)
  simpa [apS, frzH, f3g, h0] using a
theorem zC (n m v : Nat) (rows trows : List (List PV)) (hn : rows.length = n) (hm : trows.length = m) (h0 : rows ≠ []) (h1 : trows ≠ []) (hv : v ≤ n) (r : Bool) (fr : Fr) :
    frzVal [fr, f3g p k x (.hdr (1, 159777) 7 n 0 n) (.hdr (1, 159811) 2 m 0 m) k1 [(159777, .arr 7 rows v r), (159811, .arr 2 trows 0 r)] w, []] (.agg [.hdr (1, 159777) 7 n 0 n, .hdr (1, 159811) 2 m 0 m]) =
      (mkAgg [frzS rows, frzS trows], [fr, f3g p k x (.hdr (1, 159777) 7 n 0 n) (.hdr (1, 159811) 2 m 0 m) k1 [(159777, .arr 7 rows v true), (159811, .arr 2 trows 0 true)] w, []]) := by
  subst hn
  subst hm
  have a := frzVal_fire (H := [fr, f3g p k x (.hdr (1, 159777) 7 rows.length 0 rows.length) (.hdr (1, 159811) 2 trows.length 0 trows.length) k1 [(159777, .arr 7 rows v r), (159811, .arr 2 trows 0 r)] w, []]) (n1 := (1, 159777)) (n2 := (1, 159811)) (v1 := v) (v2 := 0) (o1 := r) (o2 := r) (r1 := rows) (r2 := trows) (fun _ => by simp [f3g]) (fun h => by simp [frzH, h0, f3g]) hv (by simp)
  simpa [apS, frzH, f3g, h0, h1] using a
end

theorem law3 (p : Fire) (k : Kettle) (l : List Pour) (mi : Int) (x : Coal) (nums : List Int) (hn : nums.length ≤ 9223372036854775807) :
    ∃ H', gcall (KC kp3) (geval (KC kp3)) 3 [.pure (.agg p.row), .pure (.agg k.row), .pure (.slice (l.map Pour.row)), .pure (.int .i64 mi), .pure (.agg x.row), .pure (.slice (nums.map irow))] 0 [[]] = some (.pure (.bool true), H') := by
  have key : WPv (gcall (KC kp3) (geval (KC kp3)) 3 [.pure (.agg p.row), .pure (.agg k.row), .pure (.slice (l.map Pour.row)), .pure (.int .i64 mi), .pure (.agg x.row), .pure (.slice (nums.map irow))] 0 [[]]) (fun x => x.1 = .pure (.bool true)) := by
    refine call_enter (KC kp3) needT Try.func3 rfl rfl good3 rfl (by simp) (by simp) ?_
    have A := fun (fr : Fr) (c : Nat) => awake3_ok fr c
    have hM := fun (H : Heap) (c : Nat) hH => much_ok (keep := kp3) (H := H) (c := c) kp3_ok p.coals p.touches l hH
    by_cases hmu : 30 < p.coals.length ∨ 60 < p.touches.length ∨ 40 < l.length
    · simp only [hmu, decide_true] at hM
      simp [Fire.row, Kettle.row, Coal.row, hM, A, gleave_free, kp3_ok, kept]
    · simp only [hmu, decide_false] at hM
      have nk : newKey 36 6 = 151558 := rfl
      have nk2 : newKey 38 33 = 159777 := rfl
      have nk3 : newKey 38 67 = 159811 := rfl
      obtain ⟨G0, hG0⟩ : ∃ G0 : Int → Fr → Fr, G0 = fun w T => (6, .box [.pure (.slice (p.coals.map Coal.row)), .pure (.slice (p.touches.map Touch.row))]) :: (7, .box (k.row.map .pure)) :: (10, .box (x.row.map .pure)) :: (151558, wbox w) :: T := ⟨_, rfl⟩
      obtain ⟨w, hw⟩ := BoxOf_ok (keep := kp3) kp3_ok rfl (c := 36) (H := [[(6, .box [.pure (.slice (p.coals.map Coal.row)), .pure (.slice (p.touches.map Touch.row))]), (7, .box (k.row.map .pure)), (10, .box (x.row.map .pure))], []]) nums hn (by simp) (by simp [nk])
      simp [nk] at hw
      have hB : ∀ w T, isBox [G0 w T, []] (1, 151558) := fun w T => ⟨w, by simp [hG0], by simp [hG0]⟩
      have hwd : ∀ w T, wordAt [G0 w T, []] (1, 151558) = w := fun w T => by simp [hG0, wordAt, wbox]
      have hF := fireOfK_ok (keep := kp3) (c := 38) (H := [G0 w [], []]) kp3_ok (m := 10) (by omega) (hB w []) rfl (by simp [nk2, hG0]) (by simp [nk3, hG0])
      simp only [List.length_cons, List.length_nil, Nat.add_sub_cancel, Nat.zero_add, nk2, nk3, hwd] at hF
      have hm := fireR_made 10 w (by omega)
      generalize fireR 10 w = fw at *
      obtain ⟨⟨cs, ts⟩, w1⟩ := fw
      simp only at hm hF
      have hK := fun (c : Nat) T => kettleOf_ok (keep := kp3) (c := c) kp3_ok (hB w1 T)
      simp only [hwd] at hK
      have hko := kettleR_kok w1
      generalize kettleR w1 = kw at *
      obtain ⟨k1, w2⟩ := kw
      simp only at hko
      have hBg : ∀ a1 a2 T w, isBox [f3g p k x a1 a2 k1 T w, []] (1, 151558) := fun a1 a2 T w => ⟨w, by simp [f3g], by simp [f3g]⟩
      have hwg : ∀ a1 a2 T w, wordAt [f3g p k x a1 a2 k1 T w, []] (1, 151558) = w := fun a1 a2 T w => by simp [f3g, wordAt, wbox]
      have hn6 := hm.n
      have htn := hm.tn
      simp only at hn6 htn
      -- the coin and the coal
      have hS1 := fun a1 a2 T (c : Nat) => one_ok (keep := kp3) (c := c) (n := 3) kp3_ok (hBg a1 a2 T w2) (by omega)
      simp only [hwg] at hS1
      generalize oneR w2 3 = s1 at *
      obtain ⟨b1, w3⟩ := s1
      have hS2 := fun a1 a2 T (c : Nat) => up_ok (keep := kp3) (c := c) (n := cs.length) kp3_ok (hBg a1 a2 T w3) (by omega)
      simp only [hwg] at hS2
      have hur := upR_rng w3 cs.length (by omega)
      generalize upR w3 cs.length = s2 at *
      obtain ⟨j0, w4⟩ := s2
      simp only at hur
      have hP := fun w a1 a2 T (c : Nat) => poursOf_ok (keep := kp3) (c := c) (most := 6) (mins := 30) kp3_ok rfl (by omega) (by omega) hko.water (hBg a1 a2 T w)
      have hU := fun w a1 a2 T (c : Nat) => up_ok (keep := kp3) (c := c) (n := 40) kp3_ok (hBg a1 a2 T w) (by omega)
      simp only [hwg] at hP hU
      have hpl := fun w => (poursOfR_ok k1 hko 6 30 w (by omega) (by omega)).2
      generalize poursOfR k1 6 30 = PO at *
      have hi : p.coals.length ≤ 1000 := by omega
      have hi2 : p.touches.length ≤ 1000 := by omega
      have hi3 : l.length ≤ 1000 := by omega
      have hi4 : ∀ w, (PO w).1.length ≤ 1000 := fun w => by have := hpl w; omega
      have hi5 : cs.length ≤ 1000 := by omega
      have hi6 : ts.length ≤ 1000 := by omega
      simp [Fire.row, Kettle.row, Coal.row] at hw hM
      simp [hG0, Kettle.row, Coal.row] at hK
      simp [f3g, Kettle.row, Coal.row] at hS1 hS2 hP hU
      by_cases ht : ts = []
      · subst ht
        by_cases hc : cs = []
        · subst hc
          simp [hG0, apS_nil, Kettle.row, Coal.row] at hF
          simp [Fire.row, Kettle.row, Coal.row, hM, hw, hF, hK, hP, hU]
          refine checks_loopP (cs0 := p.coals) (ts0 := p.touches) (cs1 := []) (ts1 := []) (k0 := k) (k1 := k1) (l0 := l) (l1 := (PO w2).1) (m0 := mi) (m1 := (upR (PO w2).2 40).1) (F := f3g p k x .nils .nils k1 [] (upR (PO w2).2 40).2) hi hi2 (by simp) (by simp) hi3 (hi4 w2) (by simp [sl3p, Kettle.row, irow]) (by simp [f3g, Kettle.row, Coal.row]) ?_
          simp [A, gleave_free, kp3_ok, kept]
        · have hcr : cs.map Coal.row ≠ [] := by simpa using hc
          have hcl : 0 < cs.length := by have : cs.length ≠ 0 := fun e => hc (List.length_eq_zero_iff.1 e); omega
          have hcl' : (0 : Int) < cs.length := by omega
          simp [hG0, apS, hc, Kettle.row, Coal.row] at hF
          cases b1 with
          | false =>
            simp (config := { maxSteps := 200000 }) [Fire.row, Kettle.row, Coal.row, hM, hw, hF, hK, hP, hU, hS1, hcl', hcl]
            refine checks_loop (cs0 := p.coals) (ts0 := p.touches) (cs1 := cs) (ts1 := []) (a1 := .hdr (1, 159777) 7 cs.length 0 cs.length) (a2 := .nils) (k0 := k) (k1 := k1) (l0 := l) (l1 := (PO w3).1) (m0 := mi) (m1 := (upR (PO w3).2 40).1) (F := f3g p k x (.hdr (1, 159777) 7 cs.length 0 cs.length) .nils k1 [(159777, .arr 7 (cs.map Coal.row) 0 false)] (upR (PO w3).2 40).2)
              hi hi2 (by first | omega | (simp; omega)) (by first | omega | simp) hi3 (hi4 w3) (zB p k x k1 _ cs.length 0 (cs.map Coal.row) (by simp) hcr (by omega) false) (zB p k x k1 _ cs.length 0 (cs.map Coal.row) (by simp) hcr (by omega) true) (canon_fire _ _) rfl rfl (by simp [sl3, Kettle.row, irow]) (by simp [f3g, Kettle.row, Coal.row]) ?_
            simp [A, gleave_free, kp3_ok, kept]
          | true =>
            obtain ⟨j, hj⟩ : ∃ j : Nat, j0 = j := ⟨j0.toNat, by omega⟩
            have hjl : j < cs.length := by omega
            rw [hj] at hS2
            simp (config := { maxSteps := 200000 }) [Fire.row, Kettle.row, Coal.row, hM, hw, hF, hK, hP, hU, hS1, hS2, hcl', hcl, hjl]
            refine checks_loop (cs0 := p.coals) (ts0 := p.touches) (cs1 := cs.set j x) (ts1 := []) (a1 := .hdr (1, 159777) 7 cs.length 0 cs.length) (a2 := .nils) (k0 := k) (k1 := k1) (l0 := l) (l1 := (PO w4).1) (m0 := mi) (m1 := (upR (PO w4).2 40).1) (F := f3g p k x (.hdr (1, 159777) 7 cs.length 0 cs.length) .nils k1 [(159777, .arr 7 ((cs.map Coal.row).set j x.row) cs.length false)] (upR (PO w4).2 40).2)
              hi hi2 (by first | omega | (simp; omega)) (by first | omega | simp) hi3 (hi4 w4) (zB p k x k1 _ cs.length cs.length ((cs.map Coal.row).set j x.row) (by simp) (by simpa using hc) (Nat.le_refl _) false) (zB p k x k1 _ cs.length cs.length ((cs.map Coal.row).set j x.row) (by simp) (by simpa using hc) (Nat.le_refl _) true) (by rw [canon_fire, List.map_set] <;> rfl) rfl rfl (by simp [sl3, Kettle.row, irow]) (by simp [f3g, Kettle.row, Coal.row]) ?_
            simp [A, gleave_free, kp3_ok, kept]
      · have hc : cs ≠ [] := by
          intro e
          rw [e] at htn
          have : ts.length = 0 := by simpa using htn
          exact ht (List.length_eq_zero_iff.1 this)
        have htr : ts.map Touch.row ≠ [] := by simpa using ht
        have hcr : cs.map Coal.row ≠ [] := by simpa using hc
        have hcl : 0 < cs.length := by have : cs.length ≠ 0 := fun e => hc (List.length_eq_zero_iff.1 e); omega
        have hcl' : (0 : Int) < cs.length := by omega
        simp [hG0, apS, hc, ht, Kettle.row, Coal.row] at hF
        cases b1 with
        | false =>
          simp (config := { maxSteps := 200000 }) [Fire.row, Kettle.row, Coal.row, hM, hw, hF, hK, hP, hU, hS1, hcl', hcl]
          refine checks_loop (cs0 := p.coals) (ts0 := p.touches) (cs1 := cs) (ts1 := ts) (a1 := .hdr (1, 159777) 7 cs.length 0 cs.length) (a2 := (.hdr (1, 159811) 2 ts.length 0 ts.length)) (k0 := k) (k1 := k1) (l0 := l) (l1 := (PO w3).1) (m0 := mi) (m1 := (upR (PO w3).2 40).1) (F := f3g p k x (.hdr (1, 159777) 7 cs.length 0 cs.length) (.hdr (1, 159811) 2 ts.length 0 ts.length) k1 [(159777, .arr 7 (cs.map Coal.row) 0 false), (159811, .arr 2 (ts.map Touch.row) 0 false)] (upR (PO w3).2 40).2)
            hi hi2 (by first | omega | (simp; omega)) (by first | omega | simp) hi3 (hi4 w3) (zC p k x k1 _ cs.length ts.length 0 (cs.map Coal.row) (ts.map Touch.row) (by simp) (by simp) hcr htr (by omega) false) (zC p k x k1 _ cs.length ts.length 0 (cs.map Coal.row) (ts.map Touch.row) (by simp) (by simp) hcr htr (by omega) true) (canon_fire _ _) rfl rfl (by simp [sl3, Kettle.row, irow]) (by simp [f3g, Kettle.row, Coal.row]) ?_
          simp [A, gleave_free, kp3_ok, kept]
        | true =>
          obtain ⟨j, hj⟩ : ∃ j : Nat, j0 = j := ⟨j0.toNat, by omega⟩
          have hjl : j < cs.length := by omega
          rw [hj] at hS2
          simp (config := { maxSteps := 200000 }) [Fire.row, Kettle.row, Coal.row, hM, hw, hF, hK, hP, hU, hS1, hS2, hcl', hcl, hjl]
          refine checks_loop (cs0 := p.coals) (ts0 := p.touches) (cs1 := cs.set j x) (ts1 := ts) (a1 := .hdr (1, 159777) 7 cs.length 0 cs.length) (a2 := (.hdr (1, 159811) 2 ts.length 0 ts.length)) (k0 := k) (k1 := k1) (l0 := l) (l1 := (PO w4).1) (m0 := mi) (m1 := (upR (PO w4).2 40).1) (F := f3g p k x (.hdr (1, 159777) 7 cs.length 0 cs.length) (.hdr (1, 159811) 2 ts.length 0 ts.length) k1 [(159777, .arr 7 ((cs.map Coal.row).set j x.row) cs.length false), (159811, .arr 2 (ts.map Touch.row) 0 false)] (upR (PO w4).2 40).2)
            hi hi2 (by first | omega | (simp; omega)) (by first | omega | simp) hi3 (hi4 w4) (zC p k x k1 _ cs.length ts.length cs.length ((cs.map Coal.row).set j x.row) (ts.map Touch.row) (by simp) (by simp) (by simpa using hc) htr (Nat.le_refl _) false) (zC p k x k1 _ cs.length ts.length cs.length ((cs.map Coal.row).set j x.row) (ts.map Touch.row) (by simp) (by simp) (by simpa using hc) htr (Nat.le_refl _) true) (by rw [canon_fire, List.map_set] <;> rfl) rfl rfl (by simp [sl3, Kettle.row, irow]) (by simp [f3g, Kettle.row, Coal.row]) ?_
          simp [A, gleave_free, kp3_ok, kept]
  obtain ⟨⟨r, H'⟩, e1, e2⟩ := key
  simp only at e2
  exact ⟨H', by rw [e1, e2]⟩
end Go.Gh


/-
  Proved here: for every fire, kettle, pours, number, coal and list of numbers HearthChecks returns true and leaves its arguments as they were. No condition.
-/
namespace Go.Proofs.Ytldhcphijclmdaa
open Go.Gh Go.RowKit
set_option maxRecDepth 100000

theorem hearthChecks_lifted (os : Os) (started : os.Started) (H : Type) (enc : TypeId × Value → H) :
    ReturnsInHanded {} Try.checked os 3 .any (Rows.hearthChecksSpec.pre6 enc Try.prog Try.f3 Rows.hearthChecksRow.domain false) (Rows.hearthChecksSpec.post enc Try.prog Try.f3 false true false false) := by
  refine law_lifted (C := Try.checked) (ctxOk kp3) rfl 6 own started (by kernel_rfl) laidOut Try.func3 rfl (fun ds hds => ?_) (tb := 4) rfl Try.underlying4 (by kernel_rfl)
    (ChangeSpec.witness6 (enc := enc) (C := Try.checked) false ⟨#[], #[.agg #[.slice none 0 0, .slice none 0 0], .agg #[.int .i64 0, .int .i64 0, .int .i64 0, .int .i64 0, .int .i64 0, .int .i64 0, .int .i64 0, .int .i64 0], .slice none 0 0, .int .i64 0, .agg #[.int .i64 0, .int .i64 0, .int .i64 0, .int .i64 0, .int .i64 0, .int .i64 0, .bool false], .slice none 0 0], []⟩ 14 (by kernel_rfl) (by kernel_rfl) (by kernel_rfl) (by kernel_rfl)) ?_
  · have hds' : ds.length = 6 := hds.trans (by kernel_rfl)
    clear hds
    match ds, hds' with
    | [d1, d2, d3, d4, d5, d6], _ => rfl
  · intro pvs h
    have e : Try.f3.params.toList = [25, 29, 30, 3, 32, 33] := by kernel_rfl
    rw [e] at h
    obtain ⟨p1, pvs, rfl, h1, h⟩ := argsP_cons h
    obtain ⟨p2, pvs, rfl, h2, h⟩ := argsP_cons h
    obtain ⟨p3, pvs, rfl, h3, h⟩ := argsP_cons h
    obtain ⟨p4, pvs, rfl, h4, h⟩ := argsP_cons h
    obtain ⟨p5, pvs, rfl, h5, h⟩ := argsP_cons h
    obtain ⟨p6, pvs, rfl, h6, h⟩ := argsP_cons h
    obtain rfl := argsP_nil h
    obtain ⟨f, rfl⟩ := arg_fire h1
    obtain ⟨k, rfl⟩ := arg_kettle h2
    obtain ⟨l, rfl⟩ := arg_pours h3
    obtain ⟨n, rfl⟩ := arg_int h4
    obtain ⟨x, rfl⟩ := arg_coal h5
    obtain ⟨nums, hl, rfl⟩ := shp_ints h6
    exact law3 f k l n x nums hl

theorem hearthChecks_holds : Rows.HearthChecksSaid :=
  OpenClaim.holds_of_wide 3 Try.f3 rfl rfl rfl rfl rfl rfl rfl ⟨rfl, rfl, rfl, rfl, rfl⟩ rfl rfl rfl rfl rfl (by kernel_rfl) Try.func3 (by kernel_rfl)
    (of_decide_eq_true (by kernel_rfl)) (by unfold Func.isWrapper; first | (rw [if_pos (by decide +kernel)]; kernel_rfl) | (rw [if_neg (by decide +kernel)]; exact ⟨rfl, rfl⟩))
    (fun os started H enc _ => hearthChecks_lifted os started H enc)
#print axioms hearthChecks_holds
end Go.Proofs.Ytldhcphijclmdaa
