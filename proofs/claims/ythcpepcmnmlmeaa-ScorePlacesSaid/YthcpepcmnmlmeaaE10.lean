/- ScorePlaces. -/
import Derived.Test.YthcpepcmnmlmeaaSh
import Derived.Test.YthcpepcmnmlmeaaGm
namespace Go.Gh
open Go.Proofs
set_option linter.unusedSimpArgs false
set_option linter.unusedVariables false
set_option linter.unnecessarySimpa false
set_option maxRecDepth 100000
set_option maxHeartbeats 4000000
theorem law10 (nums : List Int) (hnums : nums.length ≤ 9223372036854775807) :
    ∃ H', gcall KC (geval KC) 10 [.pure (.slice (nums.map irow))] 0 [[]] = some (.pure (.bool true), H') := by
  suffices hs : WPv (gcall KC (geval KC) 10 [.pure (.slice (nums.map irow))] 0 [[]]) (fun x => x.1 = .pure (.bool true)) by
    obtain ⟨⟨v, H'⟩, h1, rfl⟩ := hs
    exact ⟨H', h1⟩
  refine call_enter KC needT Try.func10 rfl rfl good10 rfl rfl rfl (by simp) (by simp) ?_
  obtain ⟨w, eB⟩ := BoxOf_ok (c := 23) (H := [[], []]) nums hnums (by simp) (by simp [newKey])
  have k8 : newKey 23 6 = 24600 := by decide
  simp [k8] at eB
  obtain ⟨s, w1, hS, eS⟩ := scoring_ok (c := 25) (H := [[(24600, wbox w)], []]) (nm := (1, 24600)) ⟨_, rfl, rfl⟩
  have eA := any_ok (c := 28) (lo := 1) (hi := 7) (H := [[(24600, wbox w1)], []]) (nm := (1, 24600)) ⟨_, rfl, rfl⟩
  obtain ⟨n, w2, e2, hn1, hn9⟩ := anyR_get w1 7 (by omega) (by omega)
  have ew : wordAt [[(24600, wbox w1)], []] (1, 24600) = w1 := rfl
  rw [ew] at eA
  have e2' : anyR w1 1 7 = ((n : Int), w2) := e2
  rw [e2'] at eA
  obtain ⟨p, w3, hP, hpl, eP⟩ := part_ok (c := 29) (H := [[(24600, wbox w2)], []]) (nm := (1, 24600)) ⟨_, rfl, rfl⟩ n hn1 (by omega)
  have eU := up_ok (c := 31) (n := 9) (H := [[(4, .box (s.row.map .pure)), (24600, wbox w3)], []]) (nm := (1, 24600)) ⟨_, rfl, rfl⟩ (by omega)
  obtain ⟨m, w4, e4, hm⟩ := upR_get w3 9 (by omega) (by omega)
  have ew3 : wordAt [[(4, .box (s.row.map .pure)), (24600, wbox w3)], []] (1, 24600) = w3 := rfl
  rw [ew3, e4] at eU
  have L := fun Q hQ => answers10_loop p hP (.box (s.row.map .pure)) Q hQ m [] w4 (by simp; omega) (by simp)
  simp only [fr10] at L
  have hsk := hS.len
  rw [rowS] at *
  simp [apS_nil, apF_nil] at L
  simp at eS eA eP eU eB
  simp [eB, eS, eA, eP, eU]
  refine L _ (fun l w5 hl ha => ?_)
  have hp9 := hP.le
  have hbl : ∀ a ∈ l, a.length ≤ 1000000 := fun a h => by have := (ha a h).2; omega
  have AW := fun (fr : Fr) c => awake_ok fr c
  by_cases hl0 : l = []
  · subst hl0
    have R0 : ∀ (c : Nat) (H : Heap), 0 < H.length → gcall KC (geval KC) 33 [.pure (.agg s.row), .pure (.slice (p.map irow)), .nils] c H = some (.pure (.tuple (rankT s p [])), H) := fun c H hH => by
      rw [gcall_frz' rfl rfl rfl]
      exact (gcall0_canon (b := [.pure (.agg s.row), .pure (.slice (p.map irow)), .pure (.slice (([] : List (List Int)).map arow))]) rfl).trans (Rank_ok0 s (by omega) p (by omega) [] (fun a h => absurd h List.not_mem_nil) (by simp) hH)
    rw [rankT_good hS hP (by simp) ha, rowS] at R0
    simp [plL] at R0
    have HA := fun c (H : Heap) (hH : 0 < H.length) => hasA_ok (c := c) (H := H) s.keys 6 (by omega) hH
    have eO := order0_ok (c := 144) (H := [[(4, .box (s.row.map .pure)), (24600, wbox w5)], []]) (nm := (1, 24600)) ⟨_, rfl, rfl⟩
    rw [rowS] at eO
    simp at eO
    simp [apS_nil, apF_nil, R0]
    apply WPL_step
    conv => arg 4; whnf
    by_cases h6 : s.keys.contains 6 = true
    · simp only [h6] at HA
      simp [HA, awake_ok, gleave_free]
    · have h6 : s.keys.contains 6 = false := by simpa using h6
      simp only [h6] at HA
      simp [HA, eO]
      apply WPL_step
      conv => arg 4; whnf
      simp [R0]
      apply WPL_step
      conv => arg 4; whnf
      simp [awake_ok, gleave_free]
  · have hr0 : l.map arow ≠ [] := by simpa using hl0
    have ea : ∀ k, apS (1, k) 1 (l.map arow) = .hdr (1, k) 1 l.length 0 l.length := fun k => by unfold apS; rw [if_neg hr0]; simp
    rw [ea, apF_ne hr0]
    have R1 := Rank_exp (c := 46) (key := 41) (F := [(4, .box (s.row.map .pure)), (41, .arr 1 (l.map arow) 0 false), (24600, wbox w5)]) s (by omega) p (by omega) hl0 (Nat.zero_le _) rfl hbl (by omega)
    rw [rankT_good hS hP (by omega) ha, rowS] at R1
    have hLl : (l.map (markF s p)).length = l.length := by simp
    generalize hLL : l.map (markF s p) = LL at *
    have hPl := plL_len LL s.keys l.length
    have OL := fun Q hQ => all10_loop (F := [(4, .box (s.row.map .pure)), (41, .arr 1 (l.map arow) 0 true), (24600, wbox w5)]) (s := s) rfl (by omega) p l ⟨0, true, Nat.zero_le _, rfl⟩ hl0 LL (plL LL s.keys l.length) l.length rfl hLl hPl (by omega) (fun i q h1 h2 h => place_same LL s.keys hLl h1 h2 h) (fun i h => place_less LL s.keys hLl (by omega) h) Q hQ l.length 0 (by omega)
    rw [ea, rowS] at OL
    generalize hPL : plL LL s.keys l.length = PL at *
    simp at R1 OL
    simp [R1, hPl, hLl]
    refine OL _ ?_
    have HA := fun c (H : Heap) (hH : 0 < H.length) => hasA_ok (c := c) (H := H) s.keys 6 (by omega) hH
    by_cases h6 : s.keys.contains 6 = true
    · simp only [h6] at HA
      simp [HA, awake_ok, gleave_free]
    · have h6 : s.keys.contains 6 = false := by simpa using h6
      simp only [h6] at HA
      have eO := order_ok (c := 144) (H := [[(4, .box (s.row.map .pure)), (41, .arr 1 (l.map arow) 0 true), (24600, wbox w5)], []]) (nm := (1, 24600)) ⟨_, rfl, rfl⟩ (n := l.length) (by have := List.length_pos_iff.2 hl0; omega) (by omega)
      have ew6 : wordAt [[(4, .box (s.row.map .pure)), (41, .arr 1 (l.map arow) 0 true), (24600, wbox w5)], []] (1, 24600) = w5 := rfl
      obtain ⟨o, w6, eo, hperm⟩ := order_nat (n := l.length) w5 (by omega)
      rw [ew6, eo] at eO
      simp only [irow_nat] at eO
      have hol : o.length = l.length := by rw [hperm.length_eq]; simp
      have hor : ∀ x ∈ o, x < l.length := fun x hx => by simpa using hperm.mem_iff.1 hx
      have TL := fun Q hQ => turned10_loop (fr := [(4, .box (s.row.map .pure)), (41, .arr 1 (l.map arow) 0 true), (24600, wbox w6)]) p l (v := 0) (ro := true) (Nat.zero_le _) rfl rfl hl0 PL o l.length rfl hol hor (by omega) Q hQ l.length 0 (by omega) [] (by simp)
      have hal : ∀ a ∈ o.map (fun x => l.getD x []), AnsOk a ∧ a.length = p.length := fun a h => by
        obtain ⟨k, hk, rfl⟩ := List.mem_map.1 h
        have := hor k hk
        rw [getD_lt this]
        exact ha _ (List.getElem_mem this)
      have htl : (o.map (fun x => l.getD x [])).length = l.length := by simp [hol]
      have ht0 : o.map (fun x => l.getD x []) ≠ [] := fun e => hl0 (List.length_eq_zero_iff.1 (by rw [← htl, e]; rfl))
      generalize hB : o.map (fun x => l.getD x []) = B at *
      rw [ea, rowS] at TL
      rw [rowS] at eO
      simp [apS_nil, apF_nil] at eO TL
      simp [HA, eO]
      refine TL _ ?_
      have hB0 : B.map arow ≠ [] := by simpa using ht0
      have eb : apS (1, 160) 1 (B.map arow) = .hdr (1, 160) 1 B.length 0 B.length := by unfold apS; rw [if_neg hB0]; simp
      rw [eb, apF_ne hB0]
      have R2 := Rank_exp (c := 165) (key := 160) (F := [(4, .box (s.row.map .pure)), (41, .arr 1 (l.map arow) 0 true), (160, .arr 1 (B.map arow) 0 false), (24600, wbox w6)]) s (by omega) p (by omega) ht0 (Nat.zero_le _) rfl (fun a h => by have := (hal a h).2; omega) (by omega)
      rw [rankT_good hS hP (by omega) hal, rowS] at R2
      simp at R2
      have hk5 : ∀ k ∈ s.keys, 1 ≤ k ∧ k ≤ 5 := fun k hk => by
        have := hS.rng k hk
        by_cases e : k = 6
        · subst e
          have := List.contains_iff_mem.2 hk
          rw [h6] at this; cases this
        · omega
      have hMl : (B.map (markF s p)).length = l.length := by simp [htl]
      have hMg : ∀ i, i < l.length → (B.map (markF s p)).getD i x0 = LL.getD (o.getD i 0) x0 := fun i hi => by
        have hio : i < o.length := by omega
        have hx := hor _ (List.getElem_mem hio)
        subst hB hLL
        rw [getD_lt (by simpa using hio), getD_lt hio, getD_lt (by simpa using hx)]
        simp [hx]
      have hPM := plL_len (B.map (markF s p)) s.keys B.length
      have hpe : ∀ i (a : i < (plL (B.map (markF s p)) s.keys B.length).length) (b : i < o.length) (c : o[i] < PL.length), (plL (B.map (markF s p)) s.keys B.length)[i] = PL[o[i]] := fun i a b c => by
        subst hPL
        rw [plL_get, plL_get, hMl, hLl, befN_perm hk5 hperm hMg (by omega), getD_lt b]
      generalize plL (B.map (markF s p)) s.keys B.length = PM at *
      have SL := fun F Q hQ => same10_loop (F := F) PL PM o l.length hPl (by omega) hol hor (by omega) hpe Q hQ l.length 0 (by omega)
      have hPMl : PM.length = l.length := by omega
      simp at SL
      simp [R2, hPMl]
      refine SL _ _ ?_
      simp [awake_ok, gleave_free]
end Go.Gh


/-
  Proved here: for every list of numbers ScorePlaces returns true and leaves its argument as it was. No condition.
-/
namespace Go.Proofs.Ythcpepcmnmlmeaa
open Go.Gh Go.RowKit
set_option maxRecDepth 100000
theorem scorePlaces_lifted (os : Os) (started : os.Started) (H : Type) (enc : TypeId × Value → H) :
    ReturnsInHanded {} Try.checked os 10 .any (Rows.scorePlacesSpec.pre6 enc Try.prog Try.f10 Rows.scorePlacesRow.domain false) (Rows.scorePlacesSpec.post enc Try.prog Try.f10 false true false false) := by
  refine law_lifted (C := Try.checked) ctxOk rfl 6 own started (by kernel_rfl) laidOut Try.func10 rfl (fun ds hds => ?_) (tb := 4) rfl Try.underlying4 (by kernel_rfl)
    (ChangeSpec.witness6 (enc := enc) (C := Try.checked) false ⟨#[], #[.slice none 0 0], []⟩ 8 (by kernel_rfl) (by kernel_rfl) (by kernel_rfl) (by kernel_rfl)) ?_
  · match ds, hds with
    | [d], _ => rfl
  · intro pvs h
    have e : Try.f10.params.toList = [22] := by kernel_rfl
    rw [e] at h
    obtain ⟨p1, pvs, rfl, h1, h⟩ := argsP_cons h
    obtain rfl := argsP_nil h
    obtain ⟨nums, hl, rfl⟩ := arg_ints h1
    exact law10 nums hl
theorem scorePlaces_holds : Rows.ScorePlacesSaid :=
  OpenClaim.holds_of_wide 10 Try.f10 rfl rfl rfl rfl rfl rfl rfl ⟨rfl, rfl, rfl, rfl, rfl⟩ rfl rfl rfl rfl rfl (by kernel_rfl) Try.func10 (by kernel_rfl)
    (of_decide_eq_true (by kernel_rfl)) (by unfold Func.isWrapper; first | (rw [if_pos (by decide +kernel)]; kernel_rfl) | (rw [if_neg (by decide +kernel)]; exact ⟨rfl, rfl⟩))
    (fun os started H enc _ => scorePlaces_lifted os started H enc)
#print axioms scorePlaces_holds
end Go.Proofs.Ythcpepcmnmlmeaa
