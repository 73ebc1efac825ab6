/- ScoreRefused. -/
import Derived.Test.YthcpepcmnmlmeaaSi
import Derived.Test.YthcpepcmnmlmeaaGm
namespace Go.Gh
open Go.Proofs
set_option linter.unusedSimpArgs false
set_option linter.unusedVariables false
set_option linter.unnecessarySimpa false
set_option maxRecDepth 100000
set_option maxHeartbeats 4000000
theorem right11_loop {F : Fr} (t : Tab) (h0 : TOk t) (ds : List Deed) (hn : ds.length ≤ 1000) (h83 : F.get 83 = none) (hk : ds ≠ [] → F.get 192534 = some (.arr 4 (ds.map Deed.row) 0 true)) (Q : GX → GSt → Prop)
    (hQ : Q (.exit 0) ⟨[(4, .bptr (1, 4) 0), (6, .bptr (1, 6) 0), (9, apS (1, 83) 4 ((okD t ds).map Deed.row))], apF 83 4 ((okD t ds).map Deed.row) F :: [[]], 118⟩) : ∀ k i : Nat, i + k = ds.length →
    WPL KC needT 11 (lp Try.f11 0) [4, 5, 6, 7, 9, 10] [4, 6, 9] Q [(4, .bptr (1, 4) 0), (5, apS (1, 192534) 4 (ds.map Deed.row)), (6, .bptr (1, 6) 0), (7, .pure (.slice ((runE t ds).map irow))), (9, apS (1, 83) 4 ((okD t (ds.take i)).map Deed.row)), (10, .pure (.int .i64 (i : Nat)))]
      (apF 83 4 ((okD t (ds.take i)).map Deed.row) F :: [[]]) 118 := by
  intro k
  induction k with
  | zero =>
    intro i hi
    rw [List.take_of_length_le (show ds.length ≤ i by omega)]
    apply WPL_step
    conv => arg 4; whnf
    have : ¬ i < ds.length := by omega
    simp [this]
    exact hQ
  | succ k ih =>
    intro i hi
    have hia : i < ds.length := by omega
    have hw := w64 (x := (i : Int) + 1) (by omega) (by omega)
    have ih' := ih (i + 1) (by omega)
    have hne : ds ≠ [] := fun e => by rw [e] at hia; simp at hia
    have hkk := hk hne
    have he := runE_get t ds i hia
    obtain ⟨d, hd⟩ : ∃ d, ds[i] = d := ⟨_, rfl⟩
    have htk : ds.take (i + 1) = ds.take i ++ [d] := by rw [List.take_succ_eq_append_getElem hia, hd]
    rw [htk, okD_app] at ih'
    rw [hd] at he
    have hll : (okD t (ds.take i)).length ≤ 1000 := by have := okD_len t (ds.take i); simp at this; omega
    generalize hT : runT t (ds.take i) = u at *
    generalize hO : okD t (ds.take i) = os at *
    have hel : i < (runE t ds).length := by rw [runE_len]; exact hia
    generalize hE : runE t ds = es at *
    have hge : es[i] = doE u d := by rw [List.getElem?_eq_getElem hel] at he; simpa using he
    have hb : (os.length + 1) * 32 ≤ 1099511627776 := by omega
    have A := fun f0 => apK_1 (H := [[]]) (l := 1) (key := 83) (es := 4) (bytes := 32) (rows := os.map Deed.row) (r := d.row) (fr := F) (f0 := f0) rfl h83 (by simpa using hb)
    simp only [Deed.row] at A
    apply WPL_step
    conv => arg 4; whnf
    by_cases e0 : doE u d = 0
    · simp only [okD, e0, if_true] at ih'
      simp [hia, hd, hel, hge, irow, e0, hkk, Deed.row, A, hw]
      simpa [Deed.row] using ih'
    · have e0' : (doE u d == 0) = false := by simpa using e0
      simp only [okD, e0, if_false, List.append_nil] at ih'
      simp [hia, hd, hel, hge, irow, e0', hw]
      simpa [Deed.row] using ih'
theorem zeros11_loop {F : Fr} (es : List Int) (hn : es.length ≤ 1000) (hz : ∀ e ∈ es, e = 0) (Q : GX → GSt → Prop)
    (hQ : Q (.exit 2) ⟨[(2, gdead)], F :: [[]], 118⟩) : ∀ k i : Nat, i + k = es.length →
    WPL KC needT 11 (lp Try.f11 1) [12, 14] [2] Q [(12, .pure (.slice (es.map irow))), (14, .pure (.int .i64 (i : Nat)))] (F :: [[]]) 118 := by
  intro k
  induction k with
  | zero =>
    intro i hi
    apply WPL_step
    conv => arg 4; whnf
    have : ¬ i < es.length := by omega
    simp [this]
    exact hQ
  | succ k ih =>
    intro i hi
    have hia : i < es.length := by omega
    have hw := w64 (x := (i : Int) + 1) (by omega) (by omega)
    have ih' := ih (i + 1) (by omega)
    have h0 := hz _ (List.getElem_mem hia)
    apply WPL_step
    conv => arg 4; whnf
    simp [hia, irow, h0, hw]
    simpa [irow] using ih'
theorem law11 (nums : List Int) (hnums : nums.length ≤ 9223372036854775807) : ∃ H', gcall KC (geval KC) 11 [.pure (.slice (nums.map irow))] 0 [[]] = some (.pure (.bool true), H') := by
  suffices hs : WPv (gcall KC (geval KC) 11 [.pure (.slice (nums.map irow))] 0 [[]]) (fun x => x.1 = .pure (.bool true)) by
    obtain ⟨⟨v, H'⟩, h1, rfl⟩ := hs
    exact ⟨H', h1⟩
  refine call_enter KC needT Try.func11 rfl rfl good11 rfl rfl rfl (by simp) (by simp) ?_
  obtain ⟨w, eB⟩ := BoxOf_ok (c := 16) (H := [[], []]) nums hnums (by simp) (by simp [newKey])
  have k6 : newKey 16 6 = 24593 := by decide
  simp [k6] at eB
  obtain ⟨t, w1, hO, eO⟩ := table_ok (c := 18) (H := [[(24593, wbox w)], []]) (nm := (1, 24593)) ⟨_, rfl, rfl⟩ 6 4 (by omega) (by omega)
  have k47 : newKey 21 47 = 192534 := by decide
  obtain ⟨ds, w2, hds, eD⟩ := deeds_ok (c := 21) (H := [[(4, tb t), (24593, wbox w1)], []]) (nm := (1, 24593)) ⟨_, rfl, rfl⟩ t hO.sm (by have := hO.pk; omega) 30 (by omega) (by simp [k47]) (by simp [k47])
  simp [Tab.row] at eO
  simp [Tab.row, tb, k47] at eD
  have hr := runT_tok ds hO
  have hpk := runT_pk t ds
  have hel := runE_len t ds
  have rE := runE_ok t ds
  have rT := runT_ok t ds
  have rL := runE_len t (okD t ds)
  have hol := okD_len t ds
  have CK := fun c (H : Heap) (hH : 0 < H.length) => chkT_ok (c := c) (H := H) (runT t ds) hr.sm hH
  have EQ := fun c (H : Heap) (hH : 0 < H.length) => eqT_ok (c := c) (H := H) (runT t ds) hr.sm hH
  have hck := hO.chk
  have v1 : runV t ds = (runT t ds, runE t ds, 0) := by unfold runV; rw [if_neg (not_not_intro hck), if_neg (by omega)]
  have v2 : runV t (okD t ds) = (runT t ds, runE t (okD t ds), 0) := by unfold runV; rw [if_neg (not_not_intro hck), if_neg (by omega), rT]
  have hcr := hr.chk
  rw [hcr] at CK
  generalize hR : runT t ds = r at *
  obtain ⟨p1, p2, p3⟩ := hpk
  have p3' : ¬ r.passed < t.passed := by omega
  have q1 : (r.packets != t.packets) = false := by simpa using p1
  have q2 : ((r.answers.length : Int) != (t.answers.length : Int)) = false := by rw [p2]; simp
  have R1 := fun c F hF => Run_apS (c := c) (F := F) (key := 192534) t hO.sm ds (by omega) hF
  have R2 := fun c F hF => Run_apS (c := c) (F := F) (key := 83) t hO.sm (okD t ds) (by omega) hF
  unfold runTup at R1 R2
  rw [v1] at R1
  rw [v2] at R2
  simp only [Tab.row] at R1 R2 CK EQ
  have L1 := fun F h83 hk Q hQ => right11_loop (F := F) t hO ds (by omega) h83 hk Q hQ ds.length 0 (by omega)
  simp [okD, apS_nil, apF_nil] at L1
  generalize hes : runE t ds = es at *
  by_cases h0 : ds = []
  · subst h0
    simp only [runE] at hes
    subst hes
    simp [setR, apS_nil] at eD
    have R1' := fun c F => R1 c F (by simp)
    have R2' := fun c F => R2 c F (by simp [okD])
    simp [okD, runE, apS_nil, fzF] at R1' R2'
    simp [okD, apS_nil, apF_nil] at L1
    have L2 := fun F Q hQ => zeros11_loop (F := F) [] (by simp) (by simp) Q hQ 0 0 rfl
    simp at L2
    simp [eB, eO, eD, zb64, R1', tb, CK, q1, q2, p3']
    refine L1 _ (by simp [Fr.get]) _ ?_
    simp [R2', EQ]
    refine L2 _ _ ?_
    simp [awake_ok, gleave_free]
  · have h0' : ds.map Deed.row ≠ [] := by simpa using h0
    have e1 : apS (1, 192534) 4 (ds.map Deed.row) = .hdr (1, 192534) 4 ds.length 0 ds.length := by unfold apS; rw [if_neg h0']; simp
    simp [setR, h0, e1] at eD
    have R1' := R1 25 [(4, tb t), (24593, wbox w2), (192534, .arr 4 (ds.map Deed.row) 0 false)] (fun _ => ⟨false, by simp [Fr.get]⟩)
    simp [fzF, h0, e1, tb] at R1'
    rw [e1] at L1
    have q3 : ((es.length : Int) != (ds.length : Int)) = false := by rw [hel]; simp
    have q4 : (((runE t (okD t ds)).length : Int) != ((okD t ds).length : Int)) = false := by rw [rL]; simp
    have L2 := fun F Q hQ => zeros11_loop (F := F) (runE t (okD t ds)) (by omega) rE Q hQ _ 0 (Nat.zero_add _)
    simp at L2
    generalize hos : okD t ds = os at *
    generalize hes2 : runE t os = es2 at *
    have R2' := fun F => R2 87 (apF 83 4 (os.map Deed.row) F) (fun hne => ⟨false, apF_self (by simpa using hne)⟩)
    simp [eB, eO, eD, zb64, R1', tb, CK, q1, q2, q3, p3']
    refine L1 _ (by simp [Fr.get]) (fun _ => by simp [Fr.get]) _ ?_
    by_cases ho : os = []
    · subst ho
      simp only [runE] at hes2
      subst hes2
      simp at L2
      simp [apS_nil, apF_nil, fzF] at R2'
      simp only [List.map_nil, apS_nil, apF_nil]
      simp [R2', EQ, q4]
      refine L2 _ _ ?_
      simp [awake_ok, gleave_free]
    · have ho' : os.map Deed.row ≠ [] := by simpa using ho
      have e2 : apS (1, 83) 4 (os.map Deed.row) = .hdr (1, 83) 4 os.length 0 os.length := by unfold apS; rw [if_neg ho']; simp
      have e3 : ∀ F, apF 83 4 (os.map Deed.row) F = F.ins 83 (.arr 4 (os.map Deed.row) 0 false) := fun F => by unfold apF; rw [if_neg ho']
      simp only [e2, e3, fzF, if_neg ho] at R2' ⊢
      have R3 := R2' [(4, tb t), (6, tb r), (24593, wbox w2), (192534, .arr 4 (ds.map Deed.row) 0 true)]
      simp [tb] at R3
      simp [R3, EQ, q4]
      refine L2 _ _ ?_
      simp [awake_ok, gleave_free]
end Go.Gh


/-
  Proved here: for every list of numbers ScoreRefused returns true and leaves its argument as it was. No condition.
-/
namespace Go.Proofs.Ythcpepcmnmlmeaa
open Go.Gh Go.RowKit
set_option maxRecDepth 100000
theorem scoreRefused_lifted (os : Os) (started : os.Started) (H : Type) (enc : TypeId × Value → H) :
    ReturnsInHanded {} Try.checked os 11 .any (Rows.scoreRefusedSpec.pre6 enc Try.prog Try.f11 Rows.scoreRefusedRow.domain false) (Rows.scoreRefusedSpec.post enc Try.prog Try.f11 false true false false) := by
  refine law_lifted (C := Try.checked) ctxOk rfl 6 own started (by kernel_rfl) laidOut Try.func11 rfl (fun ds hds => ?_) (tb := 4) rfl Try.underlying4 (by kernel_rfl)
    (ChangeSpec.witness6 (enc := enc) (C := Try.checked) false ⟨#[], #[.slice none 0 0], []⟩ 8 (by kernel_rfl) (by kernel_rfl) (by kernel_rfl) (by kernel_rfl)) ?_
  · match ds, hds with
    | [d], _ => rfl
  · intro pvs h
    have e : Try.f11.params.toList = [22] := by kernel_rfl
    rw [e] at h
    obtain ⟨p1, pvs, rfl, h1, h⟩ := argsP_cons h
    obtain rfl := argsP_nil h
    obtain ⟨nums, hl, rfl⟩ := arg_ints h1
    exact law11 nums hl
theorem scoreRefused_holds : Rows.ScoreRefusedSaid :=
  OpenClaim.holds_of_wide 11 Try.f11 rfl rfl rfl rfl rfl rfl rfl ⟨rfl, rfl, rfl, rfl, rfl⟩ rfl rfl rfl rfl rfl (by kernel_rfl) Try.func11 (by kernel_rfl)
    (of_decide_eq_true (by kernel_rfl)) (by unfold Func.isWrapper; first | (rw [if_pos (by decide +kernel)]; kernel_rfl) | (rw [if_neg (by decide +kernel)]; exact ⟨rfl, rfl⟩))
    (fun os started H enc _ => scoreRefused_lifted os started H enc)
#print axioms scoreRefused_holds
end Go.Proofs.Ythcpepcmnmlmeaa
