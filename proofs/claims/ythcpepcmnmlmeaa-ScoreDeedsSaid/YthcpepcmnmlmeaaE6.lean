/- ScoreDeeds. -/
import Derived.Test.YthcpepcmnmlmeaaSh
import Derived.Test.YthcpepcmnmlmeaaGn
namespace Go.Gh
open Go.Proofs
set_option linter.unusedSimpArgs false
set_option linter.unusedVariables false
set_option linter.unnecessarySimpa false
set_option maxRecDepth 100000
set_option maxHeartbeats 4000000
theorem wrT_sm {t : Tab} (h : Sm t) (d : Deed) : Sm (wrT t d) := by
  refine ⟨by simpa [wrT] using h.1, fun a ha => ?_⟩
  simp only [wrT] at ha
  rcases List.mem_or_eq_of_mem_set ha with ha | rfl
  · exact h.2 a ha
  · rw [List.length_set, List.getD_eq_getElem?_getD]
    cases e : t.answers[d.guest.toNat]? with
    | none => simp
    | some x => simpa using h.2 x (List.mem_of_getElem? e)
theorem doN_sm {t : Tab} (h : Sm t) (d : Deed) : Sm (doN t d) := by
  have hw := wrT_sm h d
  unfold doN
  repeat' split
  all_goals first | exact hw | exact ⟨h.1, h.2⟩
theorem DoV_sm {t : Tab} (h : Sm t) (d : Deed) : Sm (DoV t d).1 := by
  have hz : Sm zeroT := ⟨by simp [zeroT], by simp [zeroT]⟩
  unfold DoV
  repeat' split
  · exact hz
  · exact hz
  · exact doN_sm h d
theorem deeds6_loop {F : Fr} {key : Nat} (T : List Tab) (hT : ∀ t ∈ T, Sm t) (i : Nat) (hi : i < T.length) (ds : List Deed) (hn : ds.length ≤ 1000) (hd : F.get key = some (.arr 4 (ds.map Deed.row) 0 false)) (Q : GX → GSt → Prop)
    (hQ : Q (.exit 2) ⟨[(6, gdead), (9, .hdr (1, key) 4 ds.length 0 ds.length), (10, .pure (.slice (T.map Tab.row))), (11, .pure (.int .i64 (i : Nat)))], [] :: F :: [[]], 102⟩) : ∀ k j : Nat, j + k = ds.length →
    WPL KC needT 6 (lp Try.f6 1) [9, 10, 11, 12] [6, 9, 10, 11] Q [(9, .hdr (1, key) 4 ds.length 0 ds.length), (10, .pure (.slice (T.map Tab.row))), (11, .pure (.int .i64 (i : Nat))), (12, .pure (.int .i64 (j : Nat)))] ([] :: F :: [[]]) 102 := by
  intro k
  induction k with
  | zero =>
    intro j hj
    apply WPL_step
    conv => arg 4; whnf
    have : ¬ j < ds.length := by omega
    simp [this]
    exact hQ
  | succ k ih =>
    intro j hj
    have hja : j < ds.length := by omega
    have hw := w64 (x := (j : Int) + 1) (by omega) (by omega)
    have ih' := ih (j + 1) (by omega)
    have hs := hT _ (List.getElem_mem hi)
    obtain ⟨t, ht⟩ : ∃ t, T[i] = t := ⟨_, rfl⟩
    obtain ⟨d, hde⟩ : ∃ d, ds[j] = d := ⟨_, rfl⟩
    rw [ht] at hs
    have O := fun c (H : Heap) (hH : 0 < H.length) => own_ok (c := c) (H := H) t hs hH
    have D1 := fun c (H : Heap) (hH : 0 < H.length) => Do_ok (c := c) (H := H) t d hs hH
    have D2 := fun c (H : Heap) (hH : 0 < H.length) => DoR_ok (c := c) (H := H) t d hs hH
    have C1 := fun c (H : Heap) (hH : 0 < H.length) => chkT_ok (c := c) (H := H) t hs hH
    have C2 := fun c (H : Heap) (hH : 0 < H.length) => chkTR_ok (c := c) (H := H) t hs hH
    have E1 := fun c (H : Heap) (hH : 0 < H.length) => eqT_ok (c := c) (H := H) t hs hH
    have E2 := fun c (H : Heap) (hH : 0 < H.length) => eqT_ok (c := c) (H := H) (DoV t d).1 (DoV_sm hs d) hH
    generalize hv : DoV t d = v at *
    generalize hq : chkT t = q at *
    simp only [Tab.row, Deed.row] at O D1 D2 C1 C2 E1 E2
    apply WPL_step
    conv => arg 4; whnf
    simp [hja, hi, ht, hde, hd, Tab.row, Deed.row, O, D1, D2, C1, C2, E1, E2, hw]
    simpa [Tab.row, Deed.row] using ih'
theorem tables6_loop {F : Fr} {key : Nat} (T : List Tab) (hT : ∀ t ∈ T, Sm t) (hTn : T.length ≤ 1000) (ds : List Deed) (hn : ds.length ≤ 1000) (hd : F.get key = some (.arr 4 (ds.map Deed.row) 0 false)) (Q : GX → GSt → Prop)
    (hQ : Q (.exit 0) ⟨[(6, gdead)], F :: [[]], 102⟩) : ∀ k i : Nat, i + k = T.length →
    WPL KC needT 6 (lp Try.f6 0) [9, 10, 11] [6] Q [(9, .hdr (1, key) 4 ds.length 0 ds.length), (10, .pure (.slice (T.map Tab.row))), (11, .pure (.int .i64 (i : Nat)))] (F :: [[]]) 102 := by
  intro k
  induction k with
  | zero =>
    intro i hi
    apply WPL_step
    conv => arg 4; whnf
    have : ¬ i < T.length := by omega
    simp [this]
    exact hQ
  | succ k ih =>
    intro i hi
    have hia : i < T.length := by omega
    have hw := w64 (x := (i : Int) + 1) (by omega) (by omega)
    have ih' := ih (i + 1) (by omega)
    have L := fun Q hQ => deeds6_loop (F := F) (key := key) T hT i hia ds hn hd Q hQ ds.length 0 (by omega)
    simp at L
    apply WPL_step
    conv => arg 4; whnf
    simp [hia]
    refine L _ ?_
    simp [hw]
    simpa using ih'
theorem law6 (t : Tab) (ht : t.answers.length ≤ 9223372036854775807) (d : Deed) (nums : List Int) (hnums : nums.length ≤ 9223372036854775807) :
    ∃ H', gcall KC (geval KC) 6 [.pure (.agg t.row), .pure (.agg d.row), .pure (.slice (nums.map irow))] 0 [[]] = some (.pure (.bool true), H') := by
  suffices hs : WPv (gcall KC (geval KC) 6 [.pure (.agg t.row), .pure (.agg d.row), .pure (.slice (nums.map irow))] 0 [[]]) (fun x => x.1 = .pure (.bool true)) by
    obtain ⟨⟨v, H'⟩, h1, rfl⟩ := hs
    exact ⟨H', h1⟩
  refine call_enter KC needT Try.func6 rfl rfl good6 rfl rfl rfl (by simp) (by simp) ?_
  have MU := fun c (H : Heap) (hH : 0 < H.length) => much_ok (c := c) (H := H) t.answers ht hH
  by_cases g : muchB t.answers = true
  · simp [Tab.row, Deed.row, MU, g, awake_ok, gleave_free]
  have g : muchB t.answers = false := by simpa using g
  have hs : Sm t := by
    unfold muchB at g
    simp only [Bool.or_eq_false_iff, List.any_eq_false, decide_eq_true_eq, decide_eq_false_iff_not] at g
    exact ⟨by omega, fun a ha => by have := g.1 a ha; omega⟩
  have dbox : Blk := .box [.pure (.int .i64 d.kind), .pure (.int .i64 d.guest), .pure (.int .i64 d.packet), .pure (.int .i64 d.number)]
  obtain ⟨w, eB⟩ := BoxOf_ok (c := 23) (H := [[(3, tb t), (4, .box (d.row.map .pure))], []]) nums hnums (by simp) (by simp [newKey])
  have k6 : newKey 23 6 = 24600 := by decide
  simp [k6] at eB
  obtain ⟨own, w1, hO, eO⟩ := table_ok (c := 25) (H := [[(3, tb t), (4, .box (d.row.map .pure)), (24600, wbox w)], []]) (nm := (1, 24600)) ⟨_, rfl, rfl⟩ 6 4 (by omega) (by omega)
  have k47 : newKey 28 47 = 192541 := by decide
  obtain ⟨ds, w2, hds, eD⟩ := deeds_ok (c := 28) (H := [[(3, tb t), (4, .box (d.row.map .pure)), (8, tb own), (24600, wbox w1)], []]) (nm := (1, 24600)) ⟨_, rfl, rfl⟩ own hO.sm (by have := hO.pk; omega) 6 (by omega) (by simp [k47]) (by simp [k47])
  simp [Tab.row, tb, Deed.row, wbox] at eO
  simp [Tab.row, tb, k47, wbox, Deed.row] at eD
  simp only [tb, Deed.row, wbox, List.map_cons, List.map_nil] at eB
  have bnd : ∀ t' ∈ [t, own], Sm t' := fun t' h => by
    simp at h
    rcases h with rfl | rfl
    · exact hs
    · exact hO.sm
  by_cases h0 : ds = []
  · subst h0
    simp [setR, apS_nil] at eD
    have L := fun Q F hd hQ => tables6_loop (F := F) (key := 31) [t, own] bnd (by simp) [d] (by simp) hd Q hQ 2 0 rfl
    simp [Tab.row, Deed.row] at L
    simp [Tab.row, tb, Deed.row, MU, g, eB, eO, eD, zb64, wbox]
    refine L _ _ ?_ ?_
    · simp [Fr.get]
    simp [awake_ok, gleave_free]
  · have h0' : ds.map Deed.row ≠ [] := by simpa using h0
    have e1 : apS (1, 192541) 4 (ds.map Deed.row) = .hdr (1, 192541) 4 ds.length 0 ds.length := by unfold apS; rw [if_neg h0']; simp
    simp [setR, h0, e1] at eD
    have hb : (ds.length + 1) * 32 ≤ 1099511627776 := by omega
    have L := fun Q F hd hQ => tables6_loop (F := F) (key := 192541) [t, own] bnd (by simp) (ds ++ [d]) (by simp; omega) hd Q hQ 2 0 rfl
    simp [Tab.row, Deed.row] at L
    simp [Tab.row, tb, Deed.row, MU, g, eB, eO, eD, zb64, wbox, hb]
    refine L _ _ ?_ ?_
    · simp [Fr.get]
    simp [awake_ok, gleave_free]
end Go.Gh


/-
  Proved here: ScoreDeeds returns true for every table, deed, list of numbers, and leaves its arguments as they were. No condition.
-/
namespace Go.Proofs.Ythcpepcmnmlmeaa
open Go.Gh Go.RowKit
set_option maxRecDepth 100000
theorem scoreDeeds_lifted (os : Os) (started : os.Started) (H : Type) (enc : TypeId × Value → H) :
    ReturnsInHanded {} Try.checked os 6 .any (Rows.scoreDeedsSpec.pre6 enc Try.prog Try.f6 Rows.scoreDeedsRow.domain false) (Rows.scoreDeedsSpec.post enc Try.prog Try.f6 false true false false) := by
  refine law_lifted (C := Try.checked) ctxOk rfl 6 own started (by kernel_rfl) laidOut Try.func6 rfl (fun ds hds => ?_) (tb := 4) rfl Try.underlying4 (by kernel_rfl)
    (ChangeSpec.witness6 (enc := enc) (C := Try.checked) false ⟨#[], #[.agg #[.int .i64 0, .int .i64 0, .int .i64 0, .slice none 0 0], .agg #[.int .i64 0, .int .i64 0, .int .i64 0, .int .i64 0], .slice none 0 0], []⟩ 14 (by kernel_rfl) (by kernel_rfl) (by kernel_rfl) (by kernel_rfl)) ?_
  · have hds' : ds.length = 3 := hds.trans (by kernel_rfl)
    clear hds
    match ds, hds' with
    | [d1, d2, d3], _ => rfl
  · intro pvs h
    have e : Try.f6.params.toList = [64, 66, 22] := by kernel_rfl
    rw [e] at h
    obtain ⟨p1, pvs, rfl, h1, h⟩ := argsP_cons h
    obtain ⟨p2, pvs, rfl, h2, h⟩ := argsP_cons h
    obtain ⟨p3, pvs, rfl, h3, h⟩ := argsP_cons h
    obtain rfl := argsP_nil h
    obtain ⟨x1, l1, rfl⟩ := arg_table h1
    obtain ⟨x2, rfl⟩ := arg_deed h2
    obtain ⟨x3, l3, rfl⟩ := arg_ints h3
    exact law6 x1 l1 x2 x3 l3
theorem scoreDeeds_holds : Rows.ScoreDeedsSaid :=
  OpenClaim.holds_of_wide 6 Try.f6 rfl rfl rfl rfl rfl rfl rfl ⟨rfl, rfl, rfl, rfl, rfl⟩ rfl rfl rfl rfl rfl (by kernel_rfl) Try.func6 (by kernel_rfl)
    (of_decide_eq_true (by kernel_rfl)) (by unfold Func.isWrapper; first | (rw [if_pos (by decide +kernel)]; kernel_rfl) | (rw [if_neg (by decide +kernel)]; exact ⟨rfl, rfl⟩))
    (fun os started H enc _ => scoreDeeds_lifted os started H enc)
#print axioms scoreDeeds_holds
end Go.Proofs.Ythcpepcmnmlmeaa
