/- ScoreRuns. -/
import Derived.Test.YthcpepcmnmlmeaaSi
import Derived.Test.YthcpepcmnmlmeaaGn
namespace Go.Gh
open Go.Proofs
set_option linter.unusedSimpArgs false
set_option linter.unusedVariables false
set_option linter.unnecessarySimpa false
set_option maxRecDepth 100000
set_option maxHeartbeats 4000000
theorem res13_loop {f0 F : Fr} {g15 g16 : GV} (h15 : ∀ (H : Heap) (l0 : Nat), 1 ≤ l0 → clean H l0 g15 = g15) (h16 : ∀ (H : Heap) (l0 : Nat), 1 ≤ l0 → clean H l0 g16 = g16) (S : List Scoring) (P : List (List Int)) (U : List Tab) (i : Nat) (hiS : i < S.length) (hiP : i < P.length)
    (bS : ∀ s ∈ S, s.keys.length ≤ 1000000) (bP : ∀ s ∈ P, s.length ≤ 1000000) (bU : ∀ s ∈ U, Sm s) (hU : U.length ≤ 10) (Q : GX → GSt → Prop)
    (hQ : Q (.exit 2) ⟨[(10, gdead), (15, g15), (16, g16), (17, .pure (.slice (S.map Scoring.row))), (18, .pure (.slice (P.map arow))), (19, .pure (.int .i64 (i : Nat)))], f0 :: F :: [[]], 213⟩) : ∀ k j : Nat, j + k = U.length →
    WPL KC needT 13 (lp Try.f13 1) [15, 16, 17, 18, 19, 27, 28] [10, 15, 16, 17, 18, 19] Q [(15, g15), (16, g16), (17, .pure (.slice (S.map Scoring.row))), (18, .pure (.slice (P.map arow))), (19, .pure (.int .i64 (i : Nat))), (27, .pure (.slice (U.map Tab.row))), (28, .pure (.int .i64 (j : Nat)))] (f0 :: F :: [[]]) 213 := by
  intro k
  induction k with
  | zero =>
    intro j hj
    apply WPL_step
    conv => arg 4; whnf
    have : ¬ j < U.length := by omega
    simp [this, h15, h16]
    exact hQ
  | succ k ih =>
    intro j hj
    have hja : j < U.length := by omega
    have hw := w64 (x := (j : Int) + 1) (by omega) (by omega)
    have ih' := ih (j + 1) (by omega)
    have b1 := bS _ (List.getElem_mem hiS)
    have b2 := bP _ (List.getElem_mem hiP)
    have b3 := bU _ (List.getElem_mem hja)
    obtain ⟨s, es⟩ : ∃ s, S[i] = s := ⟨_, rfl⟩
    obtain ⟨p, ep⟩ : ∃ p, P[i] = p := ⟨_, rfl⟩
    obtain ⟨t, et⟩ : ∃ t, U[j] = t := ⟨_, rfl⟩
    rw [es] at b1
    rw [ep] at b2
    rw [et] at b3
    have R1 := fun c (H : Heap) (hH : 0 < H.length) => Res_ok (c := c) (H := H) s b1 p b2 t b3 hH
    have R2 := fun c (H : Heap) (hH : 0 < H.length) => ResR_ok (c := c) (H := H) s b1 p b2 t b3 hH
    obtain ⟨L, N, e, hL, hN, hr⟩ := resT_three s p t b3.1
    rw [hr] at R1 R2
    have E1 := fun c (H : Heap) (hH : 0 < H.length) => eqSc_ok (c := c) (H := H) L hL hH
    have E2 := fun c (H : Heap) (hH : 0 < H.length) => eqI_ok (c := c) (H := H) N hN hH
    simp only [Tab.row] at R1 R2
    rw [rowS] at *
    apply WPL_step
    conv => arg 4; whnf
    simp [hiS, hiP, hja, es, ep, et, arow, Tab.row, rowS, h15, h16, R1, R2, E1, E2, hw]
    simpa [Tab.row, arow] using ih'
theorem runV_sm {t : Tab} (h : Sm t) (ds : List Deed) : Sm (runV t ds).1 := by
  have hz : Sm zeroT := ⟨by simp [zeroT], by simp [zeroT]⟩
  unfold runV
  split
  · exact hz
  · split
    · exact hz
    · rename_i h1 _
      exact (runT_tok ds (chkT_tok (by simpa using h1))).sm
theorem runV_len (t : Tab) (ds : List Deed) : (runV t ds).2.1.length ≤ ds.length := by
  unfold runV
  split
  · simp
  · split
    · simp
    · simp [runE_len]
theorem round13 {F F' : Fr} {g16 g q : GV} (T : List Tab) (S : List Scoring) (P : List (List Int)) (i : Nat) (hiT : i < T.length) (hT : T.length = 3) (hiS : i < S.length) (hiP : i < P.length) (h16 : ∀ (H : Heap) (l0 : Nat), 1 ≤ l0 → clean H l0 g16 = g16)
    (bT : ∀ s ∈ T, Sm s) (bS : ∀ s ∈ S, s.keys.length ≤ 1000000) (bP : ∀ s ∈ P, s.length ≤ 1000000) (ds : List Deed) (hds : ds.length ≤ 1000)
    (hIA : iaS (some (some 1)) g16 (i : Int) = some q) (hLD : ∀ H, gload Try.prog 68 H q = some g)
    (R1 : ∀ f0, gcall KC (geval KC) 48 [.pure (.agg T[i].row), g] 110 (f0 :: F :: [[]]) = some (runTup T[i] ds, f0 :: F' :: [[]]))
    (R2 : ∀ f0, gcall KC (geval KC) 50 [.pure (.agg T[i].row), g] 123 (f0 :: F' :: [[]]) = some (runTup T[i] ds, f0 :: F' :: [[]])) (Q : GX → GSt → Prop)
    (hQ : WPL KC needT 13 (lp Try.f13 0) [15, 16, 17, 18, 19] [10] Q [(15, .pure (.slice (T.map Tab.row))), (16, g16), (17, .pure (.slice (S.map Scoring.row))), (18, .pure (.slice (P.map arow))), (19, .pure (.int .i64 ((i + 1 : Nat) : Int)))] (F' :: [[]]) 213) :
    WPL KC needT 13 (lp Try.f13 0) [15, 16, 17, 18, 19] [10] Q [(15, .pure (.slice (T.map Tab.row))), (16, g16), (17, .pure (.slice (S.map Scoring.row))), (18, .pure (.slice (P.map arow))), (19, .pure (.int .i64 (i : Nat)))] (F :: [[]]) 213 := by
  have hw := w64 (x := (i : Int) + 1) (by omega) (by omega)
  have b1 := bT _ (List.getElem_mem hiT)
  obtain ⟨t, et⟩ : ∃ t, T[i] = t := ⟨_, rfl⟩
  rw [et] at b1 R1 R2
  have O := fun c (H : Heap) (hH : 0 < H.length) => own_ok (c := c) (H := H) t b1 hH
  have E1 := fun c (H : Heap) (hH : 0 < H.length) => eqT_ok (c := c) (H := H) t b1 hH
  have bv := runV_sm b1 ds
  have bl := runV_len t ds
  unfold runTup at R1 R2
  obtain ⟨v, es, e⟩ : ∃ v es, (runV t ds).1 = v ∧ (runV t ds).2.1 = es := ⟨_, _, rfl, rfl⟩
  obtain ⟨e1, e2⟩ := e
  generalize (runV t ds).2.2 = er at *
  rw [e1] at R1 R2 bv
  rw [e2] at R1 R2 bl
  have E2 := fun c (H : Heap) (hH : 0 < H.length) => eqT_ok (c := c) (H := H) v bv hH
  have E3 := fun c (H : Heap) (hH : 0 < H.length) => eqE_ok (c := c) (H := H) es (by omega) hH
  have L := fun f0 Q hQ => res13_loop (f0 := f0) (F := F') (g15 := .pure (.slice (T.map Tab.row))) (fun _ _ _ => rfl) h16 S P [t, v] i hiS hiP bS bP (by intro x hx; simp at hx; rcases hx with rfl | rfl; exact b1; exact bv) (by simp) Q hQ 2 0 rfl
  simp [Tab.row] at L
  simp only [Tab.row] at O E1 E2 R1 R2
  apply WPL_step
  conv => arg 4; whnf
  simp [hiT, et, hIA, hLD, O, E1, R1, R2, E2, E3, Tab.row, zb64]
  refine L _ _ ?_
  simp [hw, h16]
  simpa using hQ
/-- Run on deeds of a block, a scope below. -/
theorem Run_key {F f0 : Fr} {c key : Nat} (t : Tab) (hs : Sm t) (ds : List Deed) (hn : ds.length ≤ 1000000) {ro : Bool} (hF : F.get key = some (.arr 4 (ds.map Deed.row) 0 ro)) :
    gcall KC (geval KC) 48 [.pure (.agg t.row), .hdr (1, key) 4 ds.length 0 ds.length] c (f0 :: F :: [[]]) = some (runTup t ds, f0 :: F.ins key (.arr 4 (ds.map Deed.row) 0 true) :: [[]]) := by
  have htk : (ds.map Deed.row).take ds.length = ds.map Deed.row := List.take_of_length_le (by simp)
  have e : frzVals (f0 :: F :: [[]]) [.pure (.agg t.row), .hdr (1, key) 4 ds.length 0 ds.length] = ([.pure (.agg t.row), .pure (.slice (ds.map Deed.row))], f0 :: F.ins key (.arr 4 (ds.map Deed.row) 0 true) :: [[]]) := by
    simp [frzVals, frzVal, frzCell, hF, htk]
  rw [gcall_frz' rfl rfl rfl, e]
  exact Run_ok0 t hs ds hn (by simp)
theorem RunR_key {F f0 : Fr} {c key : Nat} (t : Tab) (hs : Sm t) (ds : List Deed) (hn : ds.length ≤ 1000000) {ro : Bool} (hF : F.get key = some (.arr 4 (ds.map Deed.row) 0 ro)) :
    gcall KC (geval KC) 50 [.pure (.agg t.row), .hdr (1, key) 4 ds.length 0 ds.length] c (f0 :: F :: [[]]) = some (runTup t ds, f0 :: F.ins key (.arr 4 (ds.map Deed.row) 0 true) :: [[]]) := by
  have htk : (ds.map Deed.row).take ds.length = ds.map Deed.row := List.take_of_length_le (by simp)
  have e : frzVals (f0 :: F :: [[]]) [.pure (.agg t.row), .hdr (1, key) 4 ds.length 0 ds.length] = ([.pure (.agg t.row), .pure (.slice (ds.map Deed.row))], f0 :: F.ins key (.arr 4 (ds.map Deed.row) 0 true) :: [[]]) := by
    simp [frzVals, frzVal, frzCell, hF, htk]
  rw [gcall_frz' rfl rfl rfl, e]
  exact RunR_ok0 t hs ds hn (by simp)
theorem law13 (sc : Scoring) (p0 : List Int) (t0 : Tab) (ht0 : t0.answers.length ≤ 9223372036854775807) (d0 : List Deed) (nums : List Int) (hnums : nums.length ≤ 9223372036854775807) :
    ∃ H', gcall KC (geval KC) 13 [.pure (.agg sc.row), .pure (.slice (p0.map irow)), .pure (.agg t0.row), .pure (.slice (d0.map Deed.row)), .pure (.slice (nums.map irow))] 0 [[]] = some (.pure (.bool true), H') := by
  suffices hs : WPv (gcall KC (geval KC) 13 [.pure (.agg sc.row), .pure (.slice (p0.map irow)), .pure (.agg t0.row), .pure (.slice (d0.map Deed.row)), .pure (.slice (nums.map irow))] 0 [[]]) (fun x => x.1 = .pure (.bool true)) by
    obtain ⟨⟨v, H'⟩, h1, rfl⟩ := hs
    exact ⟨H', h1⟩
  refine call_enter KC needT Try.func13 rfl rfl good13 rfl rfl rfl (by simp) (by simp) ?_
  have MU := fun c (H : Heap) (hH : 0 < H.length) => much_ok (c := c) (H := H) t0.answers ht0 hH
  by_cases g1 : muchB t0.answers = true
  · simp [rowS, Tab.row, MU, g1, awake_ok, gleave_free]
  have g1 : muchB t0.answers = false := by simpa using g1
  have hs0 : Sm t0 := by
    unfold muchB at g1
    simp only [Bool.or_eq_false_iff, List.any_eq_false, decide_eq_true_eq, decide_eq_false_iff_not] at g1
    exact ⟨by omega, fun a ha => by have := g1.1 a ha; omega⟩
  by_cases g2 : 30 < p0.length
  · have g2' : (30 : Int) < p0.length := by omega
    simp [rowS, Tab.row, MU, g1, g2, g2', awake_ok, gleave_free]
  have g2' : ¬ (30 : Int) < p0.length := by omega
  by_cases g3 : 20 < sc.keys.length
  · have g3' : (20 : Int) < sc.keys.length := by omega
    simp [rowS, Tab.row, MU, g1, g2, g2', g3, g3', awake_ok, gleave_free]
  have g3' : ¬ (20 : Int) < sc.keys.length := by omega
  by_cases g4 : 60 < d0.length ∧ d0.length ≤ 200
  · have g4a : (60 : Int) < d0.length := by omega
    have g4b : (d0.length : Int) ≤ 200 := by omega
    simp [rowS, Tab.row, MU, g1, g2, g2', g3, g3', g4, g4a, g4b, awake_ok, gleave_free]
  by_cases g5 : 210 < d0.length
  · have g5' : (210 : Int) < d0.length := by omega
    have g5a : (60 : Int) < d0.length := by omega
    have g5b : ¬ (d0.length : Int) ≤ 200 := by omega
    have g5c : 60 < d0.length := by omega
    have g5d : ¬ d0.length ≤ 200 := by omega
    simp [rowS, Tab.row, MU, g1, g2, g2', g3, g3', g5, g5', g5a, g5b, g5c, g5d, awake_ok, gleave_free]
  have g5' : ¬ (210 : Int) < d0.length := by omega
  obtain ⟨w, eB⟩ := BoxOf_ok (c := 66) (H := [[(5, .box (sc.row.map .pure)), (7, tb t0)], []]) nums hnums (by simp) (by simp [newKey])
  have k6 : newKey 66 6 = 24643 := by decide
  simp [k6] at eB
  obtain ⟨own, w1, hO, eT⟩ := table_ok (c := 68) (H := [[(5, .box (sc.row.map .pure)), (7, tb t0), (24643, wbox w)], []]) (nm := (1, 24643)) ⟨_, rfl, rfl⟩ 6 4 (by omega) (by omega)
  obtain ⟨s, w2, hS, eS⟩ := scoring_ok (c := 70) (H := [[(5, .box (sc.row.map .pure)), (7, tb t0), (12, tb own), (24643, wbox w1)], []]) (nm := (1, 24643)) ⟨_, rfl, rfl⟩
  have hpk := hO.pk
  obtain ⟨n, hn⟩ : ∃ n : Nat, own.packets = (n : Int) := ⟨own.packets.toNat, by omega⟩
  obtain ⟨p, w3, hP, hpl, eP⟩ := part_ok (c := 74) (H := [[(5, .box (sc.row.map .pure)), (7, tb t0), (12, tb own), (13, .box (s.row.map .pure)), (24643, wbox w2)], []]) (nm := (1, 24643)) ⟨_, rfl, rfl⟩ n (by omega) (by omega)
  rw [← hn] at eP
  have k47 : newKey 82 47 = 192595 := by decide
  obtain ⟨ds, w4, hds, eD⟩ := deeds_ok (c := 82) (H := [[(5, .box (sc.row.map .pure)), (7, tb t0), (12, tb own), (13, .box (s.row.map .pure)), (24643, wbox w3)], []]) (nm := (1, 24643)) ⟨_, rfl, rfl⟩ own hO.sm (by omega) 40 (by omega) (by simp [k47]) (by simp [k47])
  have hp9 := hP.le
  have hS4 := hS.len
  have bT : ∀ x ∈ [t0, own, own], Sm x := by intro x hx; simp at hx; rcases hx with rfl | rfl | rfl; exact hs0; exact hO.sm
  have bS : ∀ x ∈ [sc, s, s], x.keys.length ≤ 1000000 := by intro x hx; simp at hx; rcases hx with rfl | rfl | rfl <;> omega
  have bP : ∀ x ∈ [p0, p, p0], x.length ≤ 1000000 := by intro x hx; simp at hx; rcases hx with rfl | rfl | rfl <;> omega
  have fin3 : ∀ (F : Fr) (g16 : GV) (h16 : ∀ (H : Heap) (l0 : Nat), 1 ≤ l0 → clean H l0 g16 = g16) (Q : GX → GSt → Prop), Q (.exit 0) ⟨[(10, gdead)], F :: [[]], 213⟩ →
      WPL KC needT 13 (lp Try.f13 0) [15, 16, 17, 18, 19] [10] Q [(15, .pure (.slice ([t0, own, own].map Tab.row))), (16, g16), (17, .pure (.slice ([sc, s, s].map Scoring.row))), (18, .pure (.slice ([p0, p, p0].map arow))), (19, .pure (.int .i64 ((2 + 1 : Nat) : Int)))] (F :: [[]]) 213 := fun F g16 h16 Q hQ => by
    apply WPL_step
    conv => arg 4; whnf
    simp
    exact hQ
  have h60 : d0.length ≤ 1000 := by omega
  have hcase : (¬ (60 : Int) < d0.length ∧ ¬ 60 < d0.length) ∨ ((60 : Int) < d0.length ∧ 60 < d0.length ∧ ¬ (d0.length : Int) ≤ 200 ∧ ¬ d0.length ≤ 200) := by omega
  rw [rowS, rowS] at *
  simp [Tab.row, wbox, tb] at eB eT eS
  simp [Tab.row, wbox, tb, k47] at eP eD
  by_cases h0 : ds = []
  · subst h0
    have L := fun (F : Fr) (Q : GX → GSt → Prop) hQ => round13 (F := F) (F' := F) (g16 := .pure (.slice [[.slice (d0.map Deed.row)], [.slice []], [.slice (d0.map Deed.row)]])) (q := .pptr [.slice (d0.map Deed.row)]) (g := .pure (.slice (d0.map Deed.row)))
      [t0, own, own] [sc, s, s] [p0, p, p0] 0 (by simp) rfl (by simp) (by simp) (fun _ _ _ => rfl) bT bS bP d0 h60 (by simp) (fun H => by simp) (fun f0 => Run_p t0 hs0 d0 (by omega) (by simp)) (fun f0 => RunR_p t0 hs0 d0 (by omega) (by simp)) Q
      (round13 (F := F) (F' := F) (g16 := .pure (.slice [[.slice (d0.map Deed.row)], [.slice []], [.slice (d0.map Deed.row)]])) (q := .pptr [.slice []]) (g := .pure (.slice []))
        [t0, own, own] [sc, s, s] [p0, p, p0] 1 (by simp) rfl (by simp) (by simp) (fun _ _ _ => rfl) bT bS bP [] (by simp) (by simp) (fun H => by simp) (fun f0 => Run_p own hO.sm [] (by simp) (by simp)) (fun f0 => RunR_p own hO.sm [] (by simp) (by simp)) Q
        (round13 (F := F) (F' := F) (g16 := .pure (.slice [[.slice (d0.map Deed.row)], [.slice []], [.slice (d0.map Deed.row)]])) (q := .pptr [.slice (d0.map Deed.row)]) (g := .pure (.slice (d0.map Deed.row)))
          [t0, own, own] [sc, s, s] [p0, p, p0] 2 (by simp) rfl (by simp) (by simp) (fun _ _ _ => rfl) bT bS bP d0 h60 (by simp) (fun H => by simp) (fun f0 => Run_p own hO.sm d0 (by omega) (by simp)) (fun f0 => RunR_p own hO.sm d0 (by omega) (by simp)) Q
          (fin3 F _ (fun _ _ _ => rfl) Q hQ)))
    simp [Tab.row, rowS, arow] at L
    simp [setR, apS_nil] at eD
    rcases hcase with ⟨c1, c2⟩ | ⟨c1, c2, c3, c4⟩
    · simp [rowS, Tab.row, MU, g1, g2, g2', g3, g3', g5', c1, c2, eB, eT, eS, eP, eD, zb64, zsb, irow]
      refine L _ _ ?_
      simp [awake_ok, gleave_free]
    · simp [rowS, Tab.row, MU, g1, g2, g2', g3, g3', g5', c1, c2, c3, c4, eB, eT, eS, eP, eD, zb64, zsb, irow]
      refine L _ _ ?_
      simp [awake_ok, gleave_free]
  · have h0' : ds.map Deed.row ≠ [] := by simpa using h0
    have e1 : apS (1, 192595) 4 (ds.map Deed.row) = .hdr (1, 192595) 4 ds.length 0 ds.length := by unfold apS; rw [if_neg h0']; simp
    have hcl : ∀ (H : Heap) (l0 : Nat), 1 ≤ l0 → clean H l0 (.lits [[.pure (.slice (d0.map Deed.row))], [.hdr (1, 192595) 4 ds.length 0 ds.length], [.pure (.slice (d0.map Deed.row))]]) = .lits [[.pure (.slice (d0.map Deed.row))], [.hdr (1, 192595) 4 ds.length 0 ds.length], [.pure (.slice (d0.map Deed.row))]] := fun H l0 h => by
      simp [clean, clean2, clean1, h]
    have L := fun (F : Fr) (hF : F.get 192595 = some (.arr 4 (ds.map Deed.row) 0 false)) (Q : GX → GSt → Prop) hQ => round13 (F := F) (F' := F) (g16 := .lits [[.pure (.slice (d0.map Deed.row))], [.hdr (1, 192595) 4 ds.length 0 ds.length], [.pure (.slice (d0.map Deed.row))]]) (q := .lptr [.pure (.slice (d0.map Deed.row))]) (g := .pure (.slice (d0.map Deed.row)))
      [t0, own, own] [sc, s, s] [p0, p, p0] 0 (by simp) rfl (by simp) (by simp) hcl bT bS bP d0 h60 (by simp) (fun H => by simp) (fun f0 => Run_p t0 hs0 d0 (by omega) (by simp)) (fun f0 => RunR_p t0 hs0 d0 (by omega) (by simp)) Q
      (round13 (F := F) (F' := F.ins 192595 (.arr 4 (ds.map Deed.row) 0 true)) (g16 := .lits [[.pure (.slice (d0.map Deed.row))], [.hdr (1, 192595) 4 ds.length 0 ds.length], [.pure (.slice (d0.map Deed.row))]]) (q := .lptr [.hdr (1, 192595) 4 ds.length 0 ds.length]) (g := .hdr (1, 192595) 4 ds.length 0 ds.length)
        [t0, own, own] [sc, s, s] [p0, p, p0] 1 (by simp) rfl (by simp) (by simp) hcl bT bS bP ds (by omega) (by simp) (fun H => by simp) (fun f0 => Run_key own hO.sm ds (by omega) hF) (fun f0 => (RunR_key own hO.sm ds (by omega) (Fr.get_ins ..)).trans (by rw [Fr.ins_ins]; rfl)) Q
        (round13 (F := F.ins 192595 (.arr 4 (ds.map Deed.row) 0 true)) (F' := F.ins 192595 (.arr 4 (ds.map Deed.row) 0 true)) (g16 := .lits [[.pure (.slice (d0.map Deed.row))], [.hdr (1, 192595) 4 ds.length 0 ds.length], [.pure (.slice (d0.map Deed.row))]]) (q := .lptr [.pure (.slice (d0.map Deed.row))]) (g := .pure (.slice (d0.map Deed.row)))
          [t0, own, own] [sc, s, s] [p0, p, p0] 2 (by simp) rfl (by simp) (by simp) hcl bT bS bP d0 h60 (by simp) (fun H => by simp) (fun f0 => Run_p own hO.sm d0 (by omega) (by simp)) (fun f0 => RunR_p own hO.sm d0 (by omega) (by simp)) Q
          (fin3 _ _ hcl Q hQ)))
    simp [Tab.row, rowS, arow] at L
    simp [setR, h0, e1, k47] at eD
    rcases hcase with ⟨c1, c2⟩ | ⟨c1, c2, c3, c4⟩
    · simp [rowS, Tab.row, MU, g1, g2, g2', g3, g3', g5', c1, c2, eB, eT, eS, eP, eD, zb64, zsb, irow]
      refine L _ ?_ _ ?_
      · simp [Fr.get]
      simp [awake_ok, gleave_free]
    · simp [rowS, Tab.row, MU, g1, g2, g2', g3, g3', g5', c1, c2, c3, c4, eB, eT, eS, eP, eD, zb64, zsb, irow]
      refine L _ ?_ _ ?_
      · simp [Fr.get]
      simp [awake_ok, gleave_free]
end Go.Gh


/-
  Proved here: ScoreRuns returns true for every scoring, partition, table, list of deeds, list of numbers, and leaves its arguments as they were. No condition.
-/
namespace Go.Proofs.Ythcpepcmnmlmeaa
open Go.Gh Go.RowKit
set_option maxRecDepth 100000
theorem scoreRuns_lifted (os : Os) (started : os.Started) (H : Type) (enc : TypeId × Value → H) :
    ReturnsInHanded {} Try.checked os 13 .any (Rows.scoreRunsSpec.pre6 enc Try.prog Try.f13 Rows.scoreRunsRow.domain false) (Rows.scoreRunsSpec.post enc Try.prog Try.f13 false true false false) := by
  refine law_lifted (C := Try.checked) ctxOk rfl 6 own started (by kernel_rfl) laidOut Try.func13 rfl (fun ds hds => ?_) (tb := 4) rfl Try.underlying4 (by kernel_rfl)
    (ChangeSpec.witness6 (enc := enc) (C := Try.checked) false ⟨#[], #[.agg #[.int .i64 0, .int .i64 0, .int .i64 0, .int .i64 0, .int .i64 0, .slice none 0 0], .slice none 0 0, .agg #[.int .i64 0, .int .i64 0, .int .i64 0, .slice none 0 0], .slice none 0 0, .slice none 0 0], []⟩ 14 (by kernel_rfl) (by kernel_rfl) (by kernel_rfl) (by kernel_rfl)) ?_
  · have hds' : ds.length = 5 := hds.trans (by kernel_rfl)
    clear hds
    match ds, hds' with
    | [d1, d2, d3, d4, d5], _ => rfl
  · intro pvs h
    have e : Try.f13.params.toList = [31, 22, 64, 68, 22] := by kernel_rfl
    rw [e] at h
    obtain ⟨p1, pvs, rfl, h1, h⟩ := argsP_cons h
    obtain ⟨p2, pvs, rfl, h2, h⟩ := argsP_cons h
    obtain ⟨p3, pvs, rfl, h3, h⟩ := argsP_cons h
    obtain ⟨p4, pvs, rfl, h4, h⟩ := argsP_cons h
    obtain ⟨p5, pvs, rfl, h5, h⟩ := argsP_cons h
    obtain rfl := argsP_nil h
    obtain ⟨x1, rfl⟩ := arg_scoring h1
    obtain ⟨x2, l2, rfl⟩ := arg_ints h2
    obtain ⟨x3, l3, rfl⟩ := arg_table h3
    obtain ⟨x4, l4, rfl⟩ := arg_deeds h4
    obtain ⟨x5, l5, rfl⟩ := arg_ints h5
    exact law13 x1 x2 x3 l3 x4 x5 l5
theorem scoreRuns_holds : Rows.ScoreRunsSaid :=
  OpenClaim.holds_of_wide 13 Try.f13 rfl rfl rfl rfl rfl rfl rfl ⟨rfl, rfl, rfl, rfl, rfl⟩ rfl rfl rfl rfl rfl (by kernel_rfl) Try.func13 (by kernel_rfl)
    (of_decide_eq_true (by kernel_rfl)) (by unfold Func.isWrapper; first | (rw [if_pos (by decide +kernel)]; kernel_rfl) | (rw [if_neg (by decide +kernel)]; exact ⟨rfl, rfl⟩))
    (fun os started H enc _ => scoreRuns_lifted os started H enc)
#print axioms scoreRuns_holds
end Go.Proofs.Ythcpepcmnmlmeaa
