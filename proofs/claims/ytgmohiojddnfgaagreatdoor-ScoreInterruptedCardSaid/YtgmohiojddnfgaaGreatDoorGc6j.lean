/- Texts joined: the evaluator over ghost values, its soundness, the walks. Spaces struck and names made short by a program, for the size. -/
import Derived.Test.YtgmohiojddnfgaaGreatDoorGc6i
import Derived.Test.YtgmohiojddnfgaaGreatDoorGc6e
import Derived.ProofKit
import Derived.OpenShut
import Derived.ChangeOld
import Derived.Below
import Derived.Carry
import Derived.Test.YtgmohiojddnfgaaGreatDoorGc6b
import Derived.ChangeKeysEq
namespace Go.Gh
open Go.Proofs
set_option linter.unusedVariables false
set_option linter.unusedSimpArgs false
set_option linter.unnecessarySimpa false
set_option maxRecDepth 100000
set_option maxHeartbeats 8000000
structure Fr6 (fr : Int → Tab → Fr) (ds : List Deed) : Prop where
 g9 : ∀ w u, (fr w u).get 9 = some (tb u)
 s9 : ∀ w u v, (fr w u).ins 9 (tb v) = fr w v
 gB : ∀ w u, (fr w u).get 24608 = some (wbox w)
 sB : ∀ w w' u, (fr w u).ins 24608 (wbox w') = fr w' u
 gD : ds ≠ [] → ∀ w u, (fr w u).get 192549 = some (.arr 4 (ds.map Deed.row) 0 true)
theorem Fr6.one {fr : Int → Tab → Fr} {ds : List Deed} (h : Fr6 fr ds) {c : Nat} (f0 : Fr) (w : Int) (u : Tab) :
  gcall KC (geval KC) 27 [.bptr (1, 24608) 0, .pure (.int .i64 2)] c (f0 :: fr w u :: [[]]) = some (.pure (.bool (oneR w 2).1), f0 :: fr (oneR w 2).2 u :: [[]]) := by
 have hB : isBox (f0 :: fr w u :: [[]]) (1, 24608) := ⟨w, by simp [h.gB], by simp [h.sB]⟩
 have := one_ok (c := c) hB (n := 2) (by omega)
 have hw : wordAt (f0 :: fr w u :: [[]]) (1, 24608) = w := by simp [wordAt, h.gB, wbox]
 rw [hw] at this
 rw [this]
 simp [h.sB]
def paused (u : Tab) : Tab := { u with state := 2 }
theorem pause_tok {u : Tab} (h : TOk u) (h1 : u.state = 1) : TOk (paused u) ∧ DoV u ⟨3, 0, 0, 0⟩ = (paused u, 0) ∧ DoV (paused u) ⟨4, 0, 0, 0⟩ = (u, 0) := by
 have e1 : doE u ⟨3, 0, 0, 0⟩ = 0 := by simp [doE, h1]
 have e2 : doN u ⟨3, 0, 0, 0⟩ = paused u := by simp [doN, paused]
 have hp : TOk (paused u) := by
  have := doT_tok h ⟨3, 0, 0, 0⟩
  unfold doT at this
  rw [if_neg (by rw [e1]; simp), e2] at this
  exact this
 have e3 : doE (paused u) ⟨4, 0, 0, 0⟩ = 0 := by simp [doE, paused]
 have e4 : doN (paused u) ⟨4, 0, 0, 0⟩ = u := by
  simp [doN, paused]
  cases u
  simp at h1
  simp [h1]
 refine ⟨hp, ?_, ?_⟩
 ·unfold DoV
  rw [if_neg (by rw [h.chk]; simp), if_neg (by rw [e1]; simp), e2]
 ·unfold DoV
  rw [if_neg (by rw [hp.chk]; simp), if_neg (by rw [e3]; simp), e4]
theorem int_round {fr : Int → Tab → Fr} (t : Tab) (ds : List Deed) (hf : Fr6 fr ds) (hn : ds.length ≤ 200) (Q : GX → GSt → Prop) (i : Nat) (w : Int) (u : Tab) (hu : TOk u) (es : List Int) (hes : es.length = ds.length) (v : GV)
  (hv : (ds = [] ∧ v = .nils) ∨ (ds ≠ [] ∧ v = .hdr (1, 192549) 4 ds.length 0 ds.length)) (hi : i ≤ ds.length)
  (hQ : i = ds.length → ∀ w, Q (.exit 0) ⟨[(2, gdead), (3, .bptr (1, 24608) 0), (4, .bptr (1, 4) 0), (6, .bptr (1, 6) 0), (9, .bptr (1, 9) 0)], fr w u :: [[]], 186⟩)
  (hN : ∀ h : i < ds.length, es[i]? = some (doE u ds[i]) ∧ ∀ w, WPL KC needT 6 (lp Tryz.f6 0) [3, 4, 5, 6, 7, 9, 10] [2, 3, 4, 6, 9] Q [(3, .bptr (1, 24608) 0), (4, .bptr (1, 4) 0), (5, v), (6, .bptr (1, 6) 0), (7, .pure (.slice (es.map irow))), (9, .bptr (1, 9) 0), (10, .pure (.int .i64 (i + 1 : Nat)))]
   (fr w (doT u ds[i]) :: [[]]) 186) :
  WPL KC needT 6 (lp Tryz.f6 0) [3, 4, 5, 6, 7, 9, 10] [2, 3, 4, 6, 9] Q [(3, .bptr (1, 24608) 0), (4, .bptr (1, 4) 0), (5, v), (6, .bptr (1, 6) 0), (7, .pure (.slice (es.map irow))), (9, .bptr (1, 9) 0), (10, .pure (.int .i64 (i : Nat)))]
   (fr w u :: [[]]) 186 := by
 have hch := hu.chk
 have hSm := hu.sm
 have S := fun c (G : Heap) (hG : 0 < G.length) => Save_ok (c := c) (H := G) u hSm hG
 unfold svS at S
 rw [if_pos hch, hch] at S
 have Ld := fun c (G : Heap) (hG : 0 < G.length) => Load_ok (c := c) (H := G) (saveS u) hG (by have := saveS_short (goodT hch); omega)
 rw [load_save hch] at Ld
 have E := fun c (G : Heap) (hG : 0 < G.length) => eqT_ok (c := c) (H := G) u hSm hG
 have P1 := fun c (G : Heap) (hG : 0 < G.length) => Do_ok (c := c) (H := G) u ⟨3, 0, 0, 0⟩ hSm hG
 unfold loadT at Ld
 simp only at Ld
 have g9 := hf.g9
 have s9 := hf.s9
 have O1 := fun c f0 => hf.one (c := c) f0 w u
 generalize oneR w 2 = o1 at *
 obtain ⟨b1, w1⟩ := o1
 simp only at O1
 have O2 := fun c f0 => hf.one (c := c) f0 w1 u
 generalize oneR w1 2 = o2 at *
 obtain ⟨b2, w2⟩ := o2
 simp only at O2
 unfold tb at g9 s9
 have hP : u.state = 1 → (∀ c (G : Heap), 0 < G.length → gcall KC (geval KC) 28 [.pure (.agg u.row), .pure (.agg (Deed.row ⟨3, 0, 0, 0⟩))] c G = some (.pure (.tuple [.agg (paused u).row, .int .i64 0]), G)) ∧
   (∀ c (G : Heap), 0 < G.length → gcall KC (geval KC) 28 [.pure (.agg (paused u).row), .pure (.agg (Deed.row ⟨4, 0, 0, 0⟩))] c G = some (.pure (.tuple [.agg u.row, .int .i64 0]), G)) := fun hst => by
  obtain ⟨q1, q2, q3⟩ := pause_tok hu hst
  refine ⟨fun c G hG => ?_, fun c G hG => ?_⟩
  ·have := P1 c G hG
   rw [q2] at this
   exact this
  ·have := Do_ok (c := c) (H := G) (paused u) ⟨4, 0, 0, 0⟩ q1.sm hG
   rw [q3] at this
   exact this
 unfold Tab.row Deed.row at hP
 have hps : (paused u).packets = u.packets ∧ (paused u).passed = u.passed ∧ (paused u).state = 2 ∧ (paused u).answers = u.answers := ⟨rfl, rfl, rfl, rfl⟩
 simp only [hps.1, hps.2.1, hps.2.2.1, hps.2.2.2] at hP
 unfold Tab.row at S Ld E
 by_cases hie : i = ds.length
 ·have hQ' := hQ hie
  subst hie
  apply WPL_step
  conv => arg 4; whnf
  rcases hv with ⟨h1, rfl⟩ | ⟨h1, rfl⟩
  ·subst h1
   cases b1
   ·by_cases hst : u.state = 1
    ·obtain ⟨p1, p2⟩ := hP hst
     have s9u := fun w => s9 w u u
     rw [hst] at p1 p2 s9u S Ld E
     cases b2
     ·simp [O1, O2, g9, hst, p1, p2, s9u]
      exact hQ' _
     ·simp [O1, O2, g9, hst, p1, p2, s9u]
      exact hQ' _
    ·have hst' : (u.state == 1) = false := by simpa using hst
     simp [O1, O2, g9, hst, hst', s9]
     exact hQ' _
   ·by_cases hst : u.state = 1
    ·obtain ⟨p1, p2⟩ := hP hst
     have s9u := fun w => s9 w u u
     rw [hst] at p1 p2 s9u S Ld E
     cases b2
     ·simp [O1, O2, g9, hst, p1, p2, s9u, S, Ld, E]
      exact hQ' _
     ·simp [O1, O2, g9, hst, p1, p2, s9u, S, Ld, E]
      exact hQ' _
    ·have hst' : (u.state == 1) = false := by simpa using hst
     simp [O1, O2, g9, hst, hst', s9, S, Ld, E]
     exact hQ' _
  ·cases b1
   ·by_cases hst : u.state = 1
    ·obtain ⟨p1, p2⟩ := hP hst
     have s9u := fun w => s9 w u u
     rw [hst] at p1 p2 s9u S Ld E
     cases b2
     ·simp [O1, O2, g9, hst, p1, p2, s9u]
      exact hQ' _
     ·simp [O1, O2, g9, hst, p1, p2, s9u]
      exact hQ' _
    ·have hst' : (u.state == 1) = false := by simpa using hst
     simp [O1, O2, g9, hst, hst', s9]
     exact hQ' _
   ·by_cases hst : u.state = 1
    ·obtain ⟨p1, p2⟩ := hP hst
     have s9u := fun w => s9 w u u
     rw [hst] at p1 p2 s9u S Ld E
     cases b2
     ·simp [O1, O2, g9, hst, p1, p2, s9u, S, Ld, E]
      exact hQ' _
     ·simp [O1, O2, g9, hst, p1, p2, s9u, S, Ld, E]
      exact hQ' _
    ·have hst' : (u.state == 1) = false := by simpa using hst
     simp [O1, O2, g9, hst, hst', s9, S, Ld, E]
     exact hQ' _
 ·have hia : i < ds.length := by omega
  obtain ⟨he, hN'⟩ := hN hia
  have hw := w64 (x := (i : Int) + 1) (by omega) (by omega)
  have hne : ds ≠ [] := fun e => by rw [e] at hia; simp at hia
  obtain rfl : v = .hdr (1, 192549) 4 ds.length 0 ds.length := by
   rcases hv with ⟨h1, _⟩ | ⟨_, h2⟩
   ·exact absurd h1 hne
   ·exact h2
  have gD := hf.gD hne
  have D1 := fun c (G : Heap) (hG : 0 < G.length) => Do_ok (c := c) (H := G) u ds[i] hSm hG
  have hia2 : i < es.length := by omega
  have hge : es[i] = doE u ds[i] := by rw [List.getElem?_eq_getElem hia2] at he; simpa using he
  have hle : (i : Int) ≤ ds.length := by omega
  have hni : ¬ (i : Int) = ds.length := by omega
  have hni2 : ((i : Int) == ds.length) = false := by simpa using hni
  unfold DoV at D1
  rw [if_neg (not_not_intro hch)] at D1
  have hdT : doT u ds[i] = if doE u ds[i] ≠ 0 then u else doN u ds[i] := rfl
  rw [hdT] at hN'
  have hdl : i < ds.length := hia
  generalize hd : ds[i] = d at *
  generalize doE u d = e at *
  apply WPL_step
  conv => arg 4; whnf
  by_cases e0 : e = 0
  ·subst e0
   simp only [ne_eq, not_true_eq_false, if_false] at D1 hN'
   unfold Tab.row Deed.row at D1
   try simp only at D1
   rw [show ((i + 1 : Nat) : Int) = (i : Int) + 1 by omega] at hN'
   cases b1
   ·by_cases hst : u.state = 1
    ·obtain ⟨p1, p2⟩ := hP hst
     have s9u := fun w => s9 w u u
     rw [hst] at p1 p2 s9u S Ld E D1
     cases b2
     ·simp [O1, O2, g9, hst, p1, p2, s9u, hia, hia2, hle, hni, hni2, hge, gD, hd, Deed.row, irow, D1, hw, s9]
      exact hN' _
     ·simp [O1, O2, g9, hst, p1, p2, s9u, hia, hia2, hle, hni, hni2, hge, gD, hd, Deed.row, irow, D1, hw, s9]
      exact hN' _
    ·have hst' : (u.state == 1) = false := by simpa using hst
     simp [O1, O2, g9, hst, hst', s9, hia, hia2, hle, hni, hni2, hge, gD, hd, Deed.row, irow, D1, hw, s9]
     exact hN' _
   ·by_cases hst : u.state = 1
    ·obtain ⟨p1, p2⟩ := hP hst
     have s9u := fun w => s9 w u u
     rw [hst] at p1 p2 s9u S Ld E D1
     cases b2
     ·simp [O1, O2, g9, hst, p1, p2, s9u, S, Ld, E, hia, hia2, hle, hni, hni2, hge, gD, hd, Deed.row, irow, D1, hw, s9]
      exact hN' _
     ·simp [O1, O2, g9, hst, p1, p2, s9u, S, Ld, E, hia, hia2, hle, hni, hni2, hge, gD, hd, Deed.row, irow, D1, hw, s9]
      exact hN' _
    ·have hst' : (u.state == 1) = false := by simpa using hst
     simp [O1, O2, g9, hst, hst', s9, S, Ld, E, hia, hia2, hle, hni, hni2, hge, gD, hd, Deed.row, irow, D1, hw, s9]
     exact hN' _
  ·have e0' : (e == 0) = false := by simpa using e0
   simp only [ne_eq, e0, not_false_eq_true, if_true] at D1 hN'
   unfold Tab.row Deed.row zeroT at D1
   try simp only at D1
   rw [show ((i + 1 : Nat) : Int) = (i : Int) + 1 by omega] at hN'
   cases b1
   ·by_cases hst : u.state = 1
    ·obtain ⟨p1, p2⟩ := hP hst
     have s9u := fun w => s9 w u u
     rw [hst] at p1 p2 s9u S Ld E D1
     cases b2
     ·simp [O1, O2, g9, hst, p1, p2, s9u, hia, hia2, hle, hni, hni2, hge, gD, hd, Deed.row, irow, D1, hw, s9, e0, e0']
      exact hN' _
     ·simp [O1, O2, g9, hst, p1, p2, s9u, hia, hia2, hle, hni, hni2, hge, gD, hd, Deed.row, irow, D1, hw, s9, e0, e0']
      exact hN' _
    ·have hst' : (u.state == 1) = false := by simpa using hst
     simp [O1, O2, g9, hst, hst', s9, hia, hia2, hle, hni, hni2, hge, gD, hd, Deed.row, irow, D1, hw, s9, e0, e0']
     exact hN' _
   ·by_cases hst : u.state = 1
    ·obtain ⟨p1, p2⟩ := hP hst
     have s9u := fun w => s9 w u u
     rw [hst] at p1 p2 s9u S Ld E D1
     cases b2
     ·simp [O1, O2, g9, hst, p1, p2, s9u, S, Ld, E, hia, hia2, hle, hni, hni2, hge, gD, hd, Deed.row, irow, D1, hw, s9, e0, e0']
      exact hN' _
     ·simp [O1, O2, g9, hst, p1, p2, s9u, S, Ld, E, hia, hia2, hle, hni, hni2, hge, gD, hd, Deed.row, irow, D1, hw, s9, e0, e0']
      exact hN' _
    ·have hst' : (u.state == 1) = false := by simpa using hst
     simp [O1, O2, g9, hst, hst', s9, S, Ld, E, hia, hia2, hle, hni, hni2, hge, gD, hd, Deed.row, irow, D1, hw, s9, e0, e0']
     exact hN' _
theorem int_loop {fr : Int → Tab → Fr} (t : Tab) (h0 : TOk t) (ds : List Deed) (hf : Fr6 fr ds) (hn : ds.length ≤ 200) (Q : GX → GSt → Prop) (v : GV)
  (hv : (ds = [] ∧ v = .nils) ∨ (ds ≠ [] ∧ v = .hdr (1, 192549) 4 ds.length 0 ds.length))
  (hQ : ∀ w, Q (.exit 0) ⟨[(2, gdead), (3, .bptr (1, 24608) 0), (4, .bptr (1, 4) 0), (6, .bptr (1, 6) 0), (9, .bptr (1, 9) 0)], fr w (runT t ds) :: [[]], 186⟩) : ∀ (k i : Nat) (w : Int), i + k = ds.length →
  WPL KC needT 6 (lp Tryz.f6 0) [3, 4, 5, 6, 7, 9, 10] [2, 3, 4, 6, 9] Q [(3, .bptr (1, 24608) 0), (4, .bptr (1, 4) 0), (5, v), (6, .bptr (1, 6) 0), (7, .pure (.slice ((runE t ds).map irow))), (9, .bptr (1, 9) 0), (10, .pure (.int .i64 (i : Nat)))]
   (fr w (runT t (ds.take i)) :: [[]]) 186 := by
 intro k
 induction k with
 | zero =>
  intro i w hi
  refine int_round t ds hf hn Q i w _ (runT_tok _ h0) _ (runE_len t ds) v hv (by omega) (fun h w => ?_) (fun h => absurd h (by omega))
  rw [List.take_of_length_le (by omega)]
  exact hQ w
 | succ k ih =>
  intro i w hi
  refine int_round t ds hf hn Q i w _ (runT_tok _ h0) _ (runE_len t ds) v hv (by omega) (fun h => absurd h (by omega)) (fun h => ⟨runE_get t ds i h, fun w => ?_⟩)
  have := ih (i + 1) w (by omega)
  rw [List.take_succ_eq_append_getElem h, runT_app] at this
  exact this
theorem law6 (nums : List Int) (hnums : nums.length ≤ 9223372036854775807) : ∃ H', gcall KC (geval KC) 6 [.pure (.slice (nums.map irow))] 0 [[]] = some (.pure (.bool true), H') := by
 suffices hs : WPv (gcall KC (geval KC) 6 [.pure (.slice (nums.map irow))] 0 [[]]) (fun x => x.1 = .pure (.bool true)) by
  obtain ⟨⟨v, H'⟩, h1, rfl⟩ := hs
  exact ⟨H', h1⟩
 refine call_enter KC needT Tryz.func6 rfl rfl good6 rfl rfl rfl (by simp) (by simp) ?_
 have hA := fun c (G : Heap) (hG : 0 < G.length) => awakeX_ok (c := c) (H := G) hG
 have k6 : newKey 31 6 = 24608 := by decide
 obtain ⟨w, eB⟩ := BoxOf_ok (c := 31) (H := [[], []]) nums hnums (by simp) (by simp) (of_decide_eq_true (by kernel_rfl))
 rw [k6] at eB
 simp at eB
 obtain ⟨t, w1, hO, eO⟩ := table_ok (c := 33) (H := [[(24608, wbox w)], []]) (nm := (1, 24608)) ⟨_, rfl, rfl⟩ 6 4 (by omega) (by omega)
 have k47 : newKey 36 47 = 192549 := by decide
 obtain ⟨ds, w2, hds, eD⟩ := deeds_ok (c := 36) (H := [[(4, tb t), (24608, wbox w1)], []]) (nm := (1, 24608)) ⟨_, rfl, rfl⟩ t hO.sm (by have := hO.pk; omega) 30 (by omega) (by simp [k47]) (by simp [k47])
 simp [Tab.row] at eO
 simp [Tab.row, tb, k47] at eD
 have hr := runT_tok ds hO
 have hel := runE_len t ds
 have hck := hO.chk
 have v1 : runV t ds = (runT t ds, runE t ds, 0) := by unfold runV; rw [if_neg (not_not_intro hck), if_neg (by omega)]
 have EQ := fun c (H : Heap) (hH : 0 < H.length) => eqT_ok (c := c) (H := H) (runT t ds) hr.sm hH
 have R1 := fun c F hF => Run_apS (c := c) (F := F) (key := 192549) t hO.sm ds (by omega) hF
 unfold runTup at R1
 rw [v1] at R1
 simp only [Tab.row] at R1 EQ
 have q3 : (((runE t ds).length : Int) != (ds.length : Int)) = false := by rw [hel]; simp
 by_cases h0 : ds = []
 ·subst h0
  simp [setR, apS_nil] at eD
  have R1' := fun c F => R1 c F (by simp)
  simp [runT, runE, apS_nil, fzF] at R1' EQ hr
  have hf : Fr6 (fun w u => [(4, tb t), (6, tb t), (9, tb u), (24608, wbox w)]) [] := ⟨fun w u => by simp [Fr.get], fun w u v => by simp [Fr.ins], fun w u => by simp [Fr.get], fun w w' u => by simp [Fr.ins], fun h => absurd rfl h⟩
  have L1 := fun Q hQ => int_loop t hO [] hf (by simp) Q .nils (.inl ⟨rfl, rfl⟩) hQ 0 0 w2 rfl
  simp [runT, runE, tb] at L1
  simp [eB, eO, eD, zb64, R1', tb]
  refine L1 _ (fun w => ?_)
  obtain ⟨s, w3, hs, eS⟩ := scoring_ok (c := 144) (H := [[(4, tb t), (6, tb t), (9, tb t), (24608, wbox w)], []]) (nm := (1, 24608)) ⟨_, rfl, rfl⟩
  obtain ⟨q, w4, hq, hql, eP⟩ := part_ok (c := 148) (H := [[(4, tb t), (6, tb t), (9, tb t), (24608, wbox w3)], []]) (nm := (1, 24608)) ⟨_, rfl, rfl⟩ t.packets.toNat (by have := hO.pk; omega) (by have := hO.pk; omega)
  rw [show ((t.packets.toNat : Nat) : Int) = t.packets by have := hO.pk; omega] at eP
  have RS := fun c (G : Heap) (hG : 0 < G.length) => Res_ok (c := c) (H := G) s (by have := hs.len; omega) q (by have := hq.le; omega) t hr.sm hG
  obtain ⟨L, P, e, hL, hP, h3⟩ := resT_three s q t (by have := hr.sm.1; omega)
  rw [h3] at RS
  have ES := fun c (G : Heap) (hG : 0 < G.length) => eqSc_ok (c := c) (H := G) L hL hG
  have EI := fun c (G : Heap) (hG : 0 < G.length) => eqI_ok (c := c) (H := G) P hP hG
  unfold Tab.row at RS
  obtain ⟨sr, hsr⟩ : ∃ sr, s.row = sr := ⟨_, rfl⟩
  have hs6 : s.row = [.int .i64 s.packet, .int .i64 s.pair, .int .i64 s.whole, .int .i64 s.new, .int .i64 s.loss, .slice (s.keys.map irow)] := rfl
  rw [hs6] at RS eS
  simp [tb] at eS eP
  simp [eS, eP, tb, RS, ES, EI, EQ, hA, Fr.get, gleave_free]
 ·have h0' : ds.map Deed.row ≠ [] := by simpa using h0
  have e1 : apS (1, 192549) 4 (ds.map Deed.row) = .hdr (1, 192549) 4 ds.length 0 ds.length := by unfold apS; rw [if_neg h0']; simp
  simp [setR, h0, e1] at eD
  have R1' := R1 40 [(4, tb t), (24608, wbox w2), (192549, .arr 4 (ds.map Deed.row) 0 false)] (fun _ => ⟨false, by simp [Fr.get]⟩)
  simp [fzF, h0, e1, tb] at R1'
  have hf : Fr6 (fun w u => [(4, tb t), (6, tb (runT t ds)), (9, tb u), (24608, wbox w), (192549, .arr 4 (ds.map Deed.row) 0 true)]) ds := ⟨fun w u => by simp [Fr.get], fun w u v => by simp [Fr.ins], fun w u => by simp [Fr.get], fun w w' u => by simp [Fr.ins], fun h w u => by simp [Fr.get]⟩
  have L1 := fun Q hQ => int_loop t hO ds hf (by omega) Q _ (.inr ⟨h0, rfl⟩) hQ ds.length 0 w2 (by omega)
  simp [runT, tb] at L1
  generalize hR : runT t ds = r at *
  generalize hES : runE t ds = es at *
  simp [eB, eO, eD, zb64, R1', tb, q3]
  refine L1 _ (fun w => ?_)
  obtain ⟨s, w3, hs, eS⟩ := scoring_ok (c := 144) (H := [[(4, tb t), (6, tb r), (9, tb r), (24608, wbox w), (192549, .arr 4 (ds.map Deed.row) 0 true)], []]) (nm := (1, 24608)) ⟨_, rfl, rfl⟩
  obtain ⟨q, w4, hq, hql, eP⟩ := part_ok (c := 148) (H := [[(4, tb t), (6, tb r), (9, tb r), (24608, wbox w3), (192549, .arr 4 (ds.map Deed.row) 0 true)], []]) (nm := (1, 24608)) ⟨_, rfl, rfl⟩ t.packets.toNat (by have := hO.pk; omega) (by have := hO.pk; omega)
  rw [show ((t.packets.toNat : Nat) : Int) = t.packets by have := hO.pk; omega] at eP
  have RS := fun c (G : Heap) (hG : 0 < G.length) => Res_ok (c := c) (H := G) s (by have := hs.len; omega) q (by have := hq.le; omega) r hr.sm hG
  obtain ⟨L, P, e, hL, hP, h3⟩ := resT_three s q r (by have := hr.sm.1; omega)
  rw [h3] at RS
  have ES := fun c (G : Heap) (hG : 0 < G.length) => eqSc_ok (c := c) (H := G) L hL hG
  have EI := fun c (G : Heap) (hG : 0 < G.length) => eqI_ok (c := c) (H := G) P hP hG
  unfold Tab.row at RS
  obtain ⟨sr, hsr⟩ : ∃ sr, s.row = sr := ⟨_, rfl⟩
  have hs6 : s.row = [.int .i64 s.packet, .int .i64 s.pair, .int .i64 s.whole, .int .i64 s.new, .int .i64 s.loss, .slice (s.keys.map irow)] := rfl
  rw [hs6] at RS eS
  simp [tb] at eS eP
  simp [eS, eP, tb, RS, ES, EI, EQ, hA, Fr.get, gleave_free]
section
open Go.ChangeShapes Go.WideShapes Go.RowKit Go.ChangeAt
def Shp (P : Program) : Nat → TypeId → List PV → Prop
 | 0, _, _ => False
 | n + 1, t, ps =>
  match P.underlying t with
  | some .bool => ∃ b, ps = [.bool b]
  | some (.int k) => ∃ m, (Lit.int k m).wf = true ∧ ps = [.int k m]
  | some .string => ∃ l : List UInt8, l.length ≤ maxLen ∧ ps = [.str l]
  | some (.slice e) => ∃ rows, rows.length ≤ maxLen ∧ (∀ r ∈ rows, r.length = P.cellsOf e ∧ Shp P n e r) ∧ ps = [.slice rows]
  | some (.struct fs) => ps.length = P.cellsOf t ∧ ∀ f ∈ fs.toList, Shp P n f.type ((ps.drop f.offset).take (P.cellsOf f.type))
  | some (.array m e) => ps.length = P.cellsOf t ∧ ∀ i, i < m → Shp P n e ((ps.drop (i * P.cellsOf e)).take (P.cellsOf e))
  | _ => False
def consec (P : Program) (tot : Nat) : Nat → List (Nat × TypeId) → Bool
 | o, [] => o == tot
 | o, (off, t) :: r => off == o && consec P tot (o + P.cellsOf t) r
def plainTy (P : Program) : Nat → TypeId → Bool
 | 0, _ => false
 | n + 1, t =>
  match P.underlying t with
  | some .bool | some (.int _) | some .string => true
  | some (.slice e) => decide (0 < P.cellsOf e) && plainTy P n e
  | some (.struct fs) => consec P (P.cellsOf t) 0 (fs.toList.map fun f => (f.offset, f.type)) && fs.toList.all fun f => plainTy P n f.type
  | some (.array m e) => consec P (P.cellsOf t) 0 ((List.range m).map fun i => (i * P.cellsOf e, e)) && plainTy P n e
  | _ => false
def S0 (w : World) : Nat → Prop := fun b => b < w.heap.size
def PRow (w : World) (cs : List Value) (ps : List PV) : Prop := ps.length = cs.length ∧ ∀ j, j < cs.length → (cs.getD j undef).oneCell' = true ∧ PRep w (S0 w) (cs.getD j undef) (ps.getD j .dead)
theorem PRow.append {w : World} {a b : List Value} {p q : List PV} (h : PRow w a p) (k : PRow w b q) : PRow w (a ++ b) (p ++ q) := by
 obtain ⟨h1, h2⟩ := h
 obtain ⟨k1, k2⟩ := k
 refine ⟨by simp [h1, k1], fun j hj => ?_⟩
 by_cases hja : j < a.length
 ·have e1 : (a ++ b).getD j undef = a.getD j undef := by simp [List.getD_eq_getElem?_getD, List.getElem?_append_left hja]
  have e2 : (p ++ q).getD j .dead = p.getD j .dead := by simp [List.getD_eq_getElem?_getD, List.getElem?_append_left (show j < p.length by omega)]
  rw [e1, e2]; exact h2 j hja
 ·have e1 : (a ++ b).getD j undef = b.getD (j - a.length) undef := by simp [List.getD_eq_getElem?_getD, List.getElem?_append_right (show a.length ≤ j by omega)]
  have e2 : (p ++ q).getD j .dead = q.getD (j - a.length) .dead := by rw [List.getD_eq_getElem?_getD, List.getElem?_append_right (show p.length ≤ j by omega), h1, List.getD_eq_getElem?_getD]
  rw [e1, e2]; exact k2 _ (by simp at hj; omega)
theorem one_row {w : World} {v : Value} {p : PV} (h1 : v.oneCell' = true) (h : PRep w (S0 w) v p) : PRow w [v] [p] :=
  ⟨rfl, fun j hj => by have : j = 0 := by simpa using hj
                       subst this; exact ⟨h1, h⟩⟩
section
variable {P : Program} {w : World}
theorem parts_open (n : Nat) {cs : List Value} : ∀ (l : List (Nat × TypeId)) (o : Nat), consec P cs.length o l = true →
    (∀ x ∈ l, ∃ ps, PRow w ((cs.drop x.1).take (P.cellsOf x.2)) ps ∧ Shp P n x.2 ps) →
    o ≤ cs.length ∧ ∃ ps, PRow w (cs.drop o) ps ∧ ∀ x ∈ l, o ≤ x.1 ∧ Shp P n x.2 ((ps.drop (x.1 - o)).take (P.cellsOf x.2))
  | [], o, hc, h => by
    simp only [consec, beq_iff_eq] at hc
    subst hc
    exact ⟨Nat.le_refl _, [], by simp [PRow], by simp⟩
  | (off, t) :: r, o, hc, h => by
    simp only [consec, Bool.and_eq_true, beq_iff_eq] at hc
    obtain ⟨rfl, hc⟩ := hc
    obtain ⟨hle, ps, h1, h2⟩ := parts_open n r _ hc (fun x hx => h x (List.mem_cons_of_mem _ hx))
    obtain ⟨p, q1, q2⟩ := h (off, t) (List.mem_cons_self ..)
    simp only at q1 q2
    have hpl : p.length = P.cellsOf t := by rw [q1.1, List.length_take, List.length_drop]; omega
    refine ⟨by omega, p ++ ps, ?_, fun x hx => ?_⟩
    · have := q1.append h1
      rw [← List.drop_drop, List.take_append_drop] at this
      exact this
    · rcases List.mem_cons.1 hx with rfl | hx
      · refine ⟨Nat.le_refl _, ?_⟩
        simp only [Nat.sub_self, List.drop_zero]
        rw [← hpl, List.take_left]
        exact q2
      · obtain ⟨g1, g2⟩ := h2 x hx
        refine ⟨by omega, ?_⟩
        have e : (p ++ ps).drop (x.1 - off) = ps.drop (x.1 - (off + P.cellsOf t)) := by
          rw [List.drop_append, List.drop_of_length_le (by omega), List.nil_append, hpl, Nat.sub_sub]
        rw [e]; exact g2
theorem open_plain {H : Type} {enc : TypeId × Value → H} : ∀ (n : Nat) (t : TypeId) (fuel : Nat) (cs : List Value) (x : DataW H × List MemPlace), plainTy P n t = true →
    DataW.trod enc P w 0 (fun _ => true) true fuel t cs = some x → ∃ ps, PRow w cs ps ∧ Shp P n t ps := by
  intro n
  induction n with
  | zero => intro t fuel cs x h; simp [plainTy] at h
  | succ n ih =>
    intro t fuel cs x h hx
    unfold plainTy at h
    unfold Shp
    split at h
    · rename_i ht
      obtain ⟨b, rfl, _⟩ := DataW.trod_bool ht hx
      exact ⟨[.bool b], one_row rfl (.bool b), b, rfl⟩
    · rename_i k ht
      obtain ⟨m, rfl, _, hw⟩ := DataW.trod_int ht hx
      exact ⟨[.int k m], one_row rfl (.int k m), m, hw, rfl⟩
    · rename_i ht
      obtain ⟨s, rfl, _, hs⟩ := DataW.trod_string ht hx
      exact ⟨[.str s.data.toList], one_row rfl (.str s), _, by simpa using hs, rfl⟩
    · rename_i e ht
      simp only [Bool.and_eq_true, decide_eq_true_eq] at h
      obtain ⟨he, hp⟩ := h
      rcases DataW.trod_slice ht hx with ⟨rfl, _⟩ | ⟨a, len, cap, elems, rest, m, _, rfl, _, hb, hl, hm, hlen, hel, _, _⟩
      · exact ⟨[.slice []], one_row rfl (.slice0 none 0), [], by simp, by simp, rfl⟩
      · by_cases h0 : len = 0
        · subst h0
          exact ⟨[.slice []], one_row rfl (.slice0 _ _), [], by simp, by simp, rfl⟩
        · have each : ∀ i, i < len → ∃ c ps, w.cells? 0 (a.add (i * P.cellsOf e)) (P.cellsOf e) = some c ∧ PRow w c ps ∧ Shp P n e ps := by
            intro i hi
            have h1 := hel i hi
            rw [List.getElem?_eq_getElem (show i < elems.length by omega), Option.bind_eq_some_iff] at h1
            obtain ⟨c, h1, h2⟩ := h1
            obtain ⟨ps, h3, h4⟩ := ih e m c _ hp h2
            exact ⟨c, ps, h1, h3, h4⟩
          have ch : ∃ fc : Nat → List Value, ∃ fp : Nat → List PV, ∀ i, i < len → w.cells? 0 (a.add (i * P.cellsOf e)) (P.cellsOf e) = some (fc i) ∧ PRow w (fc i) (fp i) ∧ Shp P n e (fp i) := by
            refine ⟨fun i => if h : i < len then Classical.choose (each i h) else [], fun i => if h : i < len then Classical.choose (Classical.choose_spec (each i h)) else [], fun i hi => ?_⟩
            simp only [hi, ↓reduceDIte]
            exact Classical.choose_spec (Classical.choose_spec (each i hi))
          obtain ⟨fc, fp, hf⟩ := ch
          have hcell : ∀ i j, i < len → j < P.cellsOf e → w.cell? (a.add (i * P.cellsOf e + j)) = some ((fc i).getD j undef) := by
            intro i j hi hj
            obtain ⟨h1, _⟩ := hf i hi
            obtain ⟨_, g1, g2⟩ := World.cells?_some h1
            have := g2 j hj
            rw [List.getElem?_eq_getElem (by omega)] at this
            have e1 : (a.add (i * P.cellsOf e)).add j = a.add (i * P.cellsOf e + j) := by
              unfold Addr.add
              by_cases c1 : i * P.cellsOf e = 0 <;> by_cases c2 : j = 0 <;> simp_all [Nat.add_assoc]
            rw [e1] at this
            rw [this, List.getD_eq_getElem?_getD, List.getElem?_eq_getElem (by omega)]; rfl
          obtain ⟨b, off, spot⟩ := a
          have hsp : spot = none := by
            have := World.cell?_spot (hcell 0 0 (by omega) he)
            simpa [Addr.add] using this
          subst hsp
          have hcell' : ∀ i j, i < len → j < P.cellsOf e → w.cell? ⟨b, off + (i * P.cellsOf e + j), none⟩ = some ((fc i).getD j undef) := by
            intro i j hi hj
            have := hcell i j hi hj
            unfold Addr.add at this
            split at this
            · rename_i c; rw [c, Nat.add_zero]; exact this
            · exact this
          have hfl : ∀ i, i < len → (fp i).length = P.cellsOf e ∧ (fc i).length = P.cellsOf e := by
            intro i hi
            obtain ⟨h1, h2, _⟩ := hf i hi
            obtain ⟨_, g1, _⟩ := World.cells?_some h1
            exact ⟨h2.1.trans g1, g1⟩
          have hrows : ((List.range len).map fp).length = len := by simp
          refine ⟨[.slice ((List.range len).map fp)], one_row rfl ?_, _, by rw [hrows]; omega, fun r hr => ?_, rfl⟩
          · have := PRep.slice (w := w) (S := S0 w) b off cap (P.cellsOf e) ((List.range len).map fp) (fun i j => (fc i).getD j undef) (by
                have := hcell' 0 0 (by omega) he
                unfold S0
                refine Classical.byContradiction fun hn => ?_
                have hz : w.heap[b]? = none := Array.getElem?_eq_none (by omega)
                simp [World.cell?, hz] at this) he
              (fun r hr => by obtain ⟨i, hi, rfl⟩ := List.mem_map.1 hr; exact (hfl i (by simpa using hi)).1)
              (fun i j hi hj => hcell' i j (by simpa using hi) hj)
              (fun i j hi hj => by
                have hi' : i < len := by simpa using hi
                exact ((hf i hi').2.1.2 j (by rw [(hfl i hi').2]; exact hj)).1)
              (fun i j hi hj => by
                have hi' : i < len := by simpa using hi
                have e1 : ((List.range len).map fp).getD i [] = fp i := by simp [List.getD_eq_getElem?_getD, hi']
                rw [e1]
                exact ((hf i hi').2.1.2 j (by rw [(hfl i hi').2]; exact hj)).2)
              (by rw [hrows]; exact hl)
            rw [hrows] at this
            exact this
          · obtain ⟨i, hi, rfl⟩ := List.mem_map.1 hr
            have hi' : i < len := by simpa using hi
            exact ⟨(hfl i hi').1, (hf i hi').2.2⟩
    · rename_i fs ht
      simp only [Bool.and_eq_true, List.all_eq_true] at h
      obtain ⟨hc, hp⟩ := h
      obtain ⟨xs, m, _, _, hl, hlen, hfld⟩ := DataW.trod_struct ht hx
      rw [← hl] at hc
      obtain ⟨_, ps, h1, h2⟩ := parts_open (w := w) n _ 0 hc (fun y hy => by
        obtain ⟨f, hf, rfl⟩ := List.mem_map.1 hy
        obtain ⟨i, hi, e⟩ := List.getElem_of_mem hf
        have hi' : i < fs.size := by simpa using hi
        have h3 := hfld i f (by rw [Array.getElem?_eq_getElem hi']; rw [← e]; simp)
        rw [List.getElem?_eq_getElem (by omega)] at h3
        obtain ⟨p, q1, q2⟩ := ih f.type m _ _ (hp f hf) h3
        exact ⟨p, q1, q2⟩)
      rw [List.drop_zero] at h1
      refine ⟨ps, h1, by rw [h1.1, hl], fun f hf => ?_⟩
      exact (h2 (f.offset, f.type) (List.mem_map.2 ⟨f, hf, rfl⟩)).2
    · rename_i k e ht
      simp only [Bool.and_eq_true] at h
      obtain ⟨hc, hp⟩ := h
      obtain ⟨xs, m, _, _, hl, hlen, hfld⟩ := DataW.trod_array ht hx
      rw [← hl] at hc
      obtain ⟨_, ps, h1, h2⟩ := parts_open (w := w) n _ 0 hc (fun y hy => by
        obtain ⟨i, hi, rfl⟩ := List.mem_map.1 hy
        have hi' : i < k := by simpa using hi
        have h3 := hfld i hi'
        rw [List.getElem?_eq_getElem (by omega)] at h3
        obtain ⟨p, q1, q2⟩ := ih e m _ _ hp h3
        exact ⟨p, q1, q2⟩)
      rw [List.drop_zero] at h1
      refine ⟨ps, h1, by rw [h1.1, hl], fun i hi => ?_⟩
      exact (h2 (i * P.cellsOf e, e) (List.mem_map.2 ⟨i, by simpa using hi, rfl⟩)).2
    · cases h
def ArgP (P : Program) (n : Nat) (t : TypeId) (p : PV) : Prop :=
 match P.underlying t with
 | some (.struct _) | some (.array _ _) => ∃ ps, p = .agg ps ∧ Shp P n t ps
 | _ => Shp P n t [p]
def ArgsP (P : Program) (n : Nat) : List TypeId → List PV → Prop
 | [], [] => True
 | t :: ts, p :: ps => ArgP P n t p ∧ ArgsP P n ts ps
 | _, _ => False
def mu0 : Mu := fun _ _ => none
theorem shp_one {n : Nat} {t : TypeId} {ps : List PV} (h : Shp P n t ps) (hs : ∀ fs, P.underlying t ≠ some (.struct fs)) (ha : ∀ m e, P.underlying t ≠ some (.array m e)) : ∃ p, ps = [p] := by
 cases n with
 | zero => exact h.elim
 | succ n =>
  unfold Shp at h
  split at h
  ·obtain ⟨b, rfl⟩ := h; exact ⟨_, rfl⟩
  ·obtain ⟨m, _, rfl⟩ := h; exact ⟨_, rfl⟩
  ·obtain ⟨m, _, rfl⟩ := h; exact ⟨_, rfl⟩
  ·obtain ⟨m, _, _, rfl⟩ := h; exact ⟨_, rfl⟩
  ·rename_i ht; exact absurd ht (hs _)
  ·rename_i ht; exact absurd ht (ha _ _)
  ·exact h.elim
theorem arg_rel {H : Type} {enc : TypeId × Value → H} {n : Nat} {t : TypeId} {v : Value} {d : DataW H} {ps0 : List MemPlace} {base : Nat} (hp : plainTy P n t = true) (hok : Value.okWide P w .any base t v)
  (h : DataW.Trod enc P w 0 (fun _ => true) true t v d ps0) : ∃ p, VRel w (S0 w) mu0 0 v (.pure p) ∧ ArgP P n t p := by
 obtain ⟨fuel, hf⟩ := h
 obtain ⟨ps, h1, h2⟩ := open_plain n t fuel _ _ hp hf
 have agg : ∀ cs, v = .agg cs → ∃ p, VRel w (S0 w) mu0 0 v (.pure p) ∧ ∃ ps, p = .agg ps ∧ Shp P n t ps := by
  intro cs e
  subst e
  simp only [Value.cells] at h1
  refine ⟨.agg ps, .pure _ _ (.agg cs ps (by simpa using h1.1.symm) (fun j hj => ?_) (fun j hj => ?_)), ps, rfl, h2⟩
  ·have := (h1.2 j (by rw [← h1.1]; exact hj)).1
   simpa [List.getD_eq_getElem?_getD] using this
  ·have := (h1.2 j (by rw [← h1.1]; exact hj)).2
   simpa [List.getD_eq_getElem?_getD] using this
 unfold ArgP
 split
 ·rename_i fs ht
  obtain ⟨cs, e, _⟩ := okWide_struct ht hok
  exact agg cs e
 ·rename_i m e ht
  simp only [Value.okWide, ht] at hok
  obtain ⟨cs, e, _⟩ := hok
  exact agg cs e
 ·rename_i hs ha
  obtain ⟨p, rfl⟩ := shp_one h2 (fun fs e => hs fs e) (fun m e e' => ha m e e')
  have hv : v.cells.toList = [v] := by
   have hl := h1.1
   cases v <;> first | rfl | skip
   ·exfalso
    rename_i cs
    cases n with
    | zero => exact h2.elim
    | succ n =>
     unfold plainTy at hp
     simp only [Value.okWide] at hok
     split at hp <;> rename_i ht <;> first | (simp [Cell.okWide, Cell.ok, ht] at hok; done) | (exact absurd ht (hs _)) | (exact absurd ht (ha _ _)) | (cases hp; done) | skip
  rw [hv] at h1
  exact ⟨p, .pure _ _ (h1.2 0 (by simp)).2, h2⟩
end
end
section
open Go.WideShapes
def flatL (f : TypeId → Option (List SK)) : List TypeId → Option (List SK)
 | [] => some []
 | t :: r => match f t, flatL f r with | some a, some b => some (a ++ b) | _, _ => none
def flatK (P : Program) : Nat → TypeId → Option (List SK)
 | 0, _ => none
 | n + 1, t =>
  match P.underlying t with
  | some .bool => if P.cellsOf t = 1 then some [.bool] else none
  | some (.int k) => if P.cellsOf t = 1 then some [.int k] else none
  | some .string => if P.cellsOf t = 1 then some [.str] else none
  | some (.struct fs) => if consec P (P.cellsOf t) 0 (fs.toList.map fun f => (f.offset, f.type)) && fs.toList.all (·.name != "_") && !P.stoodInHeld t then flatL (flatK P n) (fs.toList.map (·.type)) else none
  | some (.array m e) => if decide (0 < m) && consec P (P.cellsOf t) 0 ((List.range m).map fun i => (i * P.cellsOf e, e)) then flatL (flatK P n) ((List.range m).map fun _ => e) else none
  | _ => none
def valOf (P : Program) (t : TypeId) (l : List Value) : Value :=
 match P.underlying t with
 | some (.struct _) | some (.array _ _) => .agg l.toArray
 | _ => l.headD undef
theorem eqRow_append : ∀ (k1 k2 : List SK) (a b : List PV) (q : Bool), eqRow (k1 ++ k2) a b = some q →
  ∃ q1 q2, eqRow k1 (a.take k1.length) (b.take k1.length) = some q1 ∧ eqRow k2 (a.drop k1.length) (b.drop k1.length) = some q2 ∧ q = (q1 && q2)
 | [], k2, a, b, q, h => ⟨true, q, rfl, h, by simp⟩
 | s :: ks, k2, [], b, q, h => by cases s <;> cases b <;> simp [eqRow] at h
 | s :: ks, k2, x :: a, [], q, h => by cases s <;> cases x <;> simp [eqRow] at h
 | s :: ks, k2, x :: a, y :: b, q, h => by
  have key : ∀ q', eqRow (ks ++ k2) a b = some q' → ∃ q1 q2, eqRow ks (a.take ks.length) (b.take ks.length) = some q1 ∧ eqRow k2 (a.drop ks.length) (b.drop ks.length) = some q2 ∧ q' = (q1 && q2) :=
   fun q' h => eqRow_append ks k2 a b q' h
  cases s with
  | int k =>
   cases x <;> cases y <;> simp only [List.cons_append, eqRow] at h
   all_goals first | (cases h; done) | skip
   split at h
   ·rename_i hk
    split at h
    ·rename_i q' hq'
     obtain ⟨q1, q2, e1, e2, rfl⟩ := key q' hq'
     simp only [Option.some.injEq] at h
     exact ⟨_, q2, by simp only [List.length_cons, List.take_succ_cons, eqRow, hk, and_self, if_true, e1]; rfl, by simpa using e2, by rw [← h, Bool.and_assoc]⟩
    ·cases h
   ·cases h
  | bool =>
   cases x <;> cases y <;> simp only [List.cons_append, eqRow] at h
   all_goals first | (cases h; done) | skip
   split at h
   ·rename_i q' hq'
    obtain ⟨q1, q2, e1, e2, rfl⟩ := key q' hq'
    simp only [Option.some.injEq] at h
    exact ⟨_, q2, by simp only [List.length_cons, List.take_succ_cons, eqRow, e1]; rfl, by simpa using e2, by rw [← h, Bool.and_assoc]⟩
   ·cases h
  | str =>
   cases x <;> cases y <;> simp only [List.cons_append, eqRow] at h
   all_goals first | (cases h; done) | skip
   split at h
   ·rename_i q' hq'
    obtain ⟨q1, q2, e1, e2, rfl⟩ := key q' hq'
    simp only [Option.some.injEq] at h
    exact ⟨_, q2, by simp only [List.length_cons, List.take_succ_cons, eqRow, e1]; rfl, by simpa using e2, by rw [← h, Bool.and_assoc]⟩
   ·cases h
theorem eqRow_len : ∀ (k : List SK) (a b : List PV) (q : Bool), eqRow k a b = some q → a.length = k.length ∧ b.length = k.length
 | [], a, b, q, h => by cases a <;> cases b <;> simp_all [eqRow]
 | s :: ks, [], b, q, h => by cases s <;> cases b <;> simp [eqRow] at h
 | s :: ks, x :: a, [], q, h => by cases s <;> cases x <;> simp [eqRow] at h
 | s :: ks, x :: a, y :: b, q, h => by
  have key : ∀ q', eqRow ks a b = some q' → (x :: a).length = (s :: ks).length ∧ (y :: b).length = (s :: ks).length := fun q' h => by
   have := eqRow_len ks a b q' h
   simp [this.1, this.2]
  cases s with
  | int k =>
   cases x <;> cases y <;> simp only [eqRow] at h
   all_goals first | (cases h; done) | skip
   split at h
   ·split at h
    ·rename_i q' hq'; exact key q' hq'
    ·cases h
   ·cases h
  | bool =>
   cases x <;> cases y <;> simp only [eqRow] at h
   all_goals first | (cases h; done) | skip
   split at h
   ·rename_i q' hq'; exact key q' hq'
   ·cases h
  | str =>
   cases x <;> cases y <;> simp only [eqRow] at h
   all_goals first | (cases h; done) | skip
   split at h
   ·rename_i q' hq'; exact key q' hq'
   ·cases h
section
variable {P : Program}
theorem flatL_cons {f : TypeId → Option (List SK)} {t : TypeId} {r : List TypeId} {ks : List SK} (h : flatL f (t :: r) = some ks) : ∃ a b, f t = some a ∧ flatL f r = some b ∧ ks = a ++ b := by
 simp only [flatL] at h
 split at h
 ·rename_i a b h1 h2; simp only [Option.some.injEq] at h; exact ⟨a, b, h1, h2, h.symm⟩
 ·cases h
theorem consec_len {n : Nat} (hf : ∀ t ks, flatK P n t = some ks → ks.length = P.cellsOf t) : ∀ (l : List (Nat × TypeId)) (o tot : Nat) (ks : List SK), consec P tot o l = true → flatL (flatK P n) (l.map (·.2)) = some ks → o + ks.length = tot
  | [], o, tot, ks, h, hk => by
    simp only [List.map_nil, flatL, Option.some.injEq] at hk
    subst hk
    simpa [consec] using h
  | (off, t) :: r, o, tot, ks, h, hk => by
    simp only [consec, Bool.and_eq_true, beq_iff_eq] at h
    obtain ⟨a, b, h1, h2, rfl⟩ := flatL_cons (by simpa using hk)
    have := consec_len hf r _ _ _ h.2 h2
    rw [List.length_append, hf t a h1]
    omega
theorem consec_le : ∀ (l : List (Nat × TypeId)) (o tot : Nat), consec P tot o l = true → o ≤ tot
  | [], o, tot, h => by simp only [consec, beq_iff_eq] at h; omega
  | (off, t) :: r, o, tot, h => by
    simp only [consec, Bool.and_eq_true, beq_iff_eq] at h
    have := consec_le r _ _ h.2
    omega
theorem flatK_len : ∀ (n : Nat) (t : TypeId) (ks : List SK), flatK P n t = some ks → ks.length = P.cellsOf t
 | 0, t, ks, h => by simp [flatK] at h
 | n + 1, t, ks, h => by
  unfold flatK at h
  split at h
  ·split at h
   ·rename_i e; simp at h; subst h; simp [e]
   ·cases h
  ·split at h
   ·rename_i e; simp at h; subst h; simp [e]
   ·cases h
  ·split at h
   ·rename_i e; simp at h; subst h; simp [e]
   ·cases h
  ·split at h
   ·rename_i hc
    simp only [Bool.and_eq_true] at hc
    have := consec_len (flatK_len n) _ 0 _ ks hc.1.1 (by rw [List.map_map]; exact h)
    omega
   ·cases h
  ·split at h
   ·rename_i hc
    simp only [Bool.and_eq_true] at hc
    have := consec_len (flatK_len n) _ 0 _ ks hc.2 (by rw [List.map_map]; exact h)
    omega
   ·cases h
  ·cases h
theorem flatK_und {n : Nat} {t : TypeId} {ks : List SK} (h : flatK P n t = some ks) : ∃ kd, P.underlying t = some kd := by
 cases n with
 | zero => simp [flatK] at h
 | succ n =>
  cases hu : P.underlying t with
  | none => simp [flatK, hu] at h
  | some kd => exact ⟨kd, rfl⟩
theorem run_part_val (w : World) {n : Nat} {t : TypeId} {ks : List SK} (h : flatK P n t = some ks) (xs : List Value) (off : Nat) (hlen : off + P.cellsOf t ≤ xs.length) :
  (part t xs.toArray off).run P w = .ok (valOf P t ((xs.drop off).take (P.cellsOf t))) w := by
 cases n with
 | zero => simp [flatK] at h
 | succ n =>
  unfold flatK at h
  have hone : P.cellsOf t = 1 → ((xs.drop off).take (P.cellsOf t)).headD undef = xs.getD off undef ∧ off < xs.length := by
   intro e
   rw [e] at hlen ⊢
   refine ⟨?_, by omega⟩
   simp [List.headD_eq_head?_getD, List.head?_take, List.head?_drop, List.getD_eq_getElem?_getD]
  have hagg : ∀ kd, P.underlying t = some kd → (∃ fs, kd = .struct fs) ∨ (∃ m e, kd = .array m e) → (part t xs.toArray off).run P w = .ok (.agg ((xs.drop off).take (P.cellsOf t)).toArray) w := by
   intro kd hu hk
   obtain ⟨i, hi⟩ := info_of_underlying hu
   have e : xs.toArray.extract off (off + P.cellsOf t) = ((xs.drop off).take (P.cellsOf t)).toArray := by
    apply Array.toList_inj.1
    simp [Array.toList_extract, List.extract]
   rcases hk with ⟨fs, rfl⟩ | ⟨m, e', rfl⟩ <;> simp [part, isAgg, run_underlying hu, run_sizeOf w hi, e]
  unfold valOf
  split at h
  ·rename_i ht
   split at h
   ·rename_i e
    rw [(hone e).1]
    have := (hone e).2
    simp [part, isAgg, run_underlying ht, this, List.getD_eq_getElem?_getD, ht]
   ·cases h
  ·rename_i ht
   split at h
   ·rename_i e
    rw [(hone e).1]
    have := (hone e).2
    simp [part, isAgg, run_underlying ht, this, List.getD_eq_getElem?_getD, ht]
   ·cases h
  ·rename_i ht
   split at h
   ·rename_i e
    rw [(hone e).1]
    have := (hone e).2
    simp [part, isAgg, run_underlying ht, this, List.getD_eq_getElem?_getD, ht]
   ·cases h
  ·rename_i fs ht
   simp only [ht]
   exact hagg _ ht (.inl ⟨_, rfl⟩)
  ·rename_i m e ht
   simp only [ht]
   exact hagg _ ht (.inr ⟨_, _, rfl⟩)
  ·cases h
def EqAt' (P : Program) (n d : Nat) (t : TypeId) : Prop := ∀ ks, flatK P n t = some ks → ∀ (a b : List PV) (q : Bool), eqRow ks a b = some q →
 ∀ w, (Op.equalIn d t (valOf P t (a.map scalV)) (valOf P t (b.map scalV))).run P w = .ok q w
def CkAt (P : Program) (n d : Nat) (t : TypeId) : Prop := ∀ ks, flatK P n t = some ks → ∀ (a : List PV), a.length = ks.length → ∀ e w, (Instr.checkKey e d t (valOf P t (a.map scalV))).run P w = .ok () w
theorem run_eqFields_flat {n d : Nat} (ih : ∀ t, EqAt' P n d t) : ∀ (fs : List Field) (o : Nat) (ks : List SK) (a b : List PV) (q : Bool), consec P a.length o (fs.map fun f => (f.offset, f.type)) = true → (fs.all (·.name != "_")) = true →
  flatL (flatK P n) (fs.map (·.type)) = some ks → a.length = b.length → eqRow ks (a.drop o) (b.drop o) = some q → ∀ w, (Op.eqFields d (a.map scalV).toArray (b.map scalV).toArray fs).run P w = .ok q w
 | [], o, ks, a, b, q, hc, hn, hk, hl, he, w => by
  simp only [List.map_nil, flatL, Option.some.injEq] at hk
  subst hk
  have hl1 := eqRow_len _ _ _ _ he
  have e1 : a.drop o = [] := List.length_eq_zero_iff.1 hl1.1
  have e2 : b.drop o = [] := List.length_eq_zero_iff.1 hl1.2
  rw [e1, e2] at he
  simp only [eqRow, Option.some.injEq] at he
  subst he
  simp [Op.eqFields]
 | f :: fs, o, ks, a, b, q, hc, hn, hk, hl, he, w => by
  simp only [List.map_cons, consec, Bool.and_eq_true, beq_iff_eq] at hc
  obtain ⟨rfl, hc⟩ := hc
  simp only [List.all_cons, Bool.and_eq_true, bne_iff_ne, ne_eq] at hn
  obtain ⟨k1, k2, h1, h2, rfl⟩ := flatL_cons (by simpa using hk)
  obtain ⟨q1, q2, g1, g2, rfl⟩ := eqRow_append k1 k2 _ _ q he
  have hk1 := flatK_len n _ _ h1
  have hle := consec_le _ _ _ hc
  have hkl := eqRow_len _ _ _ _ he
  simp only [List.length_drop, List.length_append] at hkl
  rw [List.drop_drop, List.drop_drop] at g2
  rw [hk1] at g1 g2
  have p1 := run_part_val w h1 (a.map scalV) f.offset (by simp; omega)
  have p2 := run_part_val w h1 (b.map scalV) f.offset (by simp; omega)
  rw [← List.map_drop, ← List.map_take] at p1 p2
  have p3 := ih f.type k1 h1 _ _ q1 g1 w
  have rest := run_eqFields_flat ih fs _ k2 a b q2 hc (by simpa using hn.2) h2 hl g2 w
  simp only [Op.eqFields, hn.1, ne_eq, not_false_eq_true, if_true, Sem.run_bind, p1, p2, p3, Result.andThen_ok]
  cases q1
  ·simp
  ·simpa using rest
theorem run_eqItems_flat {n d : Nat} {e : TypeId} (ih : ∀ t, EqAt' P n d t) : ∀ (is : List Nat) (o : Nat) (ks : List SK) (a b : List PV) (q : Bool), consec P a.length o (is.map fun i => (i * P.cellsOf e, e)) = true →
  flatL (flatK P n) (is.map fun _ => e) = some ks → a.length = b.length → eqRow ks (a.drop o) (b.drop o) = some q → ∀ w, (Op.eqItems d e (P.cellsOf e) (a.map scalV).toArray (b.map scalV).toArray is).run P w = .ok q w
 | [], o, ks, a, b, q, hc, hk, hl, he, w => by
  simp only [List.map_nil, flatL, Option.some.injEq] at hk
  subst hk
  have hl1 := eqRow_len _ _ _ _ he
  have e1 : a.drop o = [] := List.length_eq_zero_iff.1 hl1.1
  have e2 : b.drop o = [] := List.length_eq_zero_iff.1 hl1.2
  rw [e1, e2] at he
  simp only [eqRow, Option.some.injEq] at he
  subst he
  simp [Op.eqItems]
 | i :: is, o, ks, a, b, q, hc, hk, hl, he, w => by
  simp only [List.map_cons, consec, Bool.and_eq_true, beq_iff_eq] at hc
  obtain ⟨rfl, hc⟩ := hc
  obtain ⟨k1, k2, h1, h2, rfl⟩ := flatL_cons (by simpa using hk)
  obtain ⟨q1, q2, g1, g2, rfl⟩ := eqRow_append k1 k2 _ _ q he
  have hk1 := flatK_len n _ _ h1
  have hle := consec_le _ _ _ hc
  have hkl := eqRow_len _ _ _ _ he
  simp only [List.length_drop, List.length_append] at hkl
  rw [List.drop_drop, List.drop_drop] at g2
  rw [hk1] at g1 g2
  have p1 := run_part_val w h1 (a.map scalV) (i * P.cellsOf e) (by simp; omega)
  have p2 := run_part_val w h1 (b.map scalV) (i * P.cellsOf e) (by simp; omega)
  rw [← List.map_drop, ← List.map_take] at p1 p2
  have p3 := ih e k1 h1 _ _ q1 g1 w
  have rest := run_eqItems_flat ih is _ k2 a b q2 hc h2 hl g2 w
  simp only [Op.eqItems, Sem.run_bind, p1, p2, p3, Result.andThen_ok]
  cases q1
  ·simp
  ·simpa using rest
theorem eqAt_flat (d : Nat) : ∀ (n : Nat) (t : TypeId), EqAt' P n (d + n) t
 | 0, t => fun ks h => by simp [flatK] at h
 | n + 1, t => fun ks h a b q he w => by
  have ih := fun t => eqAt_flat d n t
  have hl := flatK_len _ _ _ h
  have hl2 := eqRow_len _ _ _ _ he
  unfold flatK at h
  unfold valOf
  rw [show d + (n + 1) = (d + n) + 1 from rfl]
  split at h
  ·rename_i ht
   split at h
   ·simp only [Option.some.injEq] at h
    subst h
    match a, b, he with
    | [.bool x], [.bool y], he =>
     simp only [eqRow, Option.some.injEq, Bool.and_true] at he
     simp only [List.map_cons, List.map_nil, List.headD_cons, scalV, ht]
     rw [run_equalIn_bool' w _ _ _ _ ht, he]
   ·cases h
  ·rename_i k ht
   split at h
   ·simp only [Option.some.injEq] at h
    subst h
    match a, b, he with
    | [.int k1 x], [.int k2 y], he =>
     simp only [eqRow] at he
     split at he
     ·rename_i hk
      simp only [Option.some.injEq, Bool.and_true] at he
      obtain ⟨rfl, rfl⟩ := hk
      simp only [List.map_cons, List.map_nil, List.headD_cons, scalV, ht]
      rw [run_equalIn_int w _ _ _ _ _ _ ht, ‹(x == y) = q›]
     ·cases he
   ·cases h
  ·rename_i ht
   split at h
   ·simp only [Option.some.injEq] at h
    subst h
    match a, b, he with
    | [.str x], [.str y], he =>
     simp only [eqRow, Option.some.injEq, Bool.and_true] at he
     simp only [List.map_cons, List.map_nil, List.headD_cons, scalV, ht]
     rw [run_equalIn_string w _ _ _ _ ht]
     simp [ByteArray.toList_eq, he]
   ·cases h
  ·rename_i fs ht
   split at h
   ·rename_i hc
    simp only [Bool.and_eq_true, Bool.not_eq_true'] at hc
    have hfo : P.fieldsOf t = fs := by simp [Program.fieldsOf, ht]
    simp only [ht]
    rw [run_equalIn_struct w _ _ _ _ (by rw [hfo]; exact ht) hc.2, hfo]
    exact run_eqFields_flat ih fs.toList 0 ks a b q (by rw [hl2.1, hl]; exact hc.1.1) hc.1.2 h (by omega) (by simpa using he) w
   ·cases h
  ·rename_i m e ht
   split at h
   ·rename_i hc
    simp only [Bool.and_eq_true, decide_eq_true_eq] at hc
    have hinf : ∃ i, P.info? e = some i := by
     obtain ⟨m, rfl⟩ : ∃ m', m = m' + 1 := ⟨m - 1, by omega⟩
     rw [List.range_succ_eq_map, List.map_cons] at h
     obtain ⟨k1, _, h1, _⟩ := flatL_cons h
     obtain ⟨kd, hu⟩ := flatK_und h1
     exact info_of_underlying hu
    obtain ⟨i, hi⟩ := hinf
    simp only [ht]
    rw [run_equalIn_array w _ _ _ ht hi]
    exact run_eqItems_flat ih (List.range m) 0 ks a b q (by rw [hl2.1, hl]; exact hc.2) h (by omega) (by simpa using he) w
   ·cases h
  ·cases h
theorem ckAt_flat (d : Nat) : ∀ (n : Nat) (t : TypeId), CkAt P n (d + n) t
 | 0, t => fun ks h => by simp [flatK] at h
 | n + 1, t => fun ks h a hal e w => by
  have ih := fun t => ckAt_flat d n t
  have hl := flatK_len _ _ _ h
  unfold flatK at h
  unfold valOf
  rw [show d + (n + 1) = (d + n) + 1 from rfl, Instr.checkKey]
  split at h
  ·rename_i ht
   simp only [ht, Sem.run_bind, run_underlying ht, Result.andThen_ok, Sem.run_pure]
  ·rename_i k ht
   simp only [ht, Sem.run_bind, run_underlying ht, Result.andThen_ok, Sem.run_pure]
  ·rename_i ht
   simp only [ht, Sem.run_bind, run_underlying ht, Result.andThen_ok, Sem.run_pure]
  ·rename_i fs ht
   split at h
   ·rename_i hc
    simp only [Bool.and_eq_true, Bool.not_eq_true'] at hc
    simp only [ht, Sem.run_bind, run_underlying ht, Result.andThen_ok]
    rw [← Array.forIn_toList]
    have key : ∀ (L : List Field) (o : Nat) (ks : List SK), consec P a.length o (L.map fun f => (f.offset, f.type)) = true → (L.all (·.name != "_")) = true → flatL (flatK P n) (L.map (·.type)) = some ks →
      (forIn L PUnit.unit (fun f (_ : PUnit) => if f.name ≠ "_" then (do
       let p ← part f.type (a.map scalV).toArray f.offset
       Instr.checkKey e (d + n) f.type p
       pure (ForInStep.yield PUnit.unit)) else pure (ForInStep.yield PUnit.unit)) : Sem PUnit).run P w = .ok PUnit.unit w := by
     intro L
     induction L with
     | nil => intro o ks _ _ _; simp
     | cons f L ihL =>
      intro o ks hc hn hk
      simp only [List.map_cons, consec, Bool.and_eq_true, beq_iff_eq] at hc
      obtain ⟨rfl, hc⟩ := hc
      simp only [List.all_cons, Bool.and_eq_true, bne_iff_ne, ne_eq] at hn
      obtain ⟨k1, k2, h1, h2, rfl⟩ := flatL_cons (by simpa using hk)
      have hk1 := flatK_len n _ _ h1
      have hle := consec_le _ _ _ hc
      have p1 := run_part_val w h1 (a.map scalV) f.offset (by simp; omega)
      rw [← List.map_drop, ← List.map_take] at p1
      have p2 := ih f.type k1 h1 ((a.drop f.offset).take (P.cellsOf f.type)) (by simp; omega) e w
      have := ihL _ _ hc (by simpa using hn.2) h2
      simp only [List.forIn_cons, Sem.run_bind, hn.1, ne_eq, not_false_eq_true, if_true, p1, p2, Result.andThen_ok, Sem.run_pure]
      exact this
    have := key fs.toList 0 ks (by rw [hal, hl]; exact hc.1.1) hc.1.2 h
    rw [this]; rfl
   ·cases h
  ·rename_i m el ht
   split at h
   ·rename_i hc
    simp only [Bool.and_eq_true, decide_eq_true_eq] at hc
    have hinf : ∃ i, P.info? el = some i := by
     obtain ⟨m, rfl⟩ : ∃ m', m = m' + 1 := ⟨m - 1, by omega⟩
     rw [List.range_succ_eq_map, List.map_cons] at h
     obtain ⟨k1, _, h1, _⟩ := flatL_cons h
     obtain ⟨kd, hu⟩ := flatK_und h1
     exact info_of_underlying hu
    obtain ⟨i, hi⟩ := hinf
    simp only [ht, Sem.run_bind, run_underlying ht, Result.andThen_ok]
    simp only [Std.Legacy.Range.forIn_eq_forIn_range', Std.Legacy.Range.size, Nat.sub_zero, Nat.add_one_sub_one, Nat.div_one]
    rw [← List.range_eq_range']
    have key : ∀ (L : List Nat) (o : Nat) (ks : List SK), consec P a.length o (L.map fun i => (i * P.cellsOf el, el)) = true → flatL (flatK P n) (L.map fun _ => el) = some ks →
      (forIn L PUnit.unit (fun i (_ : PUnit) => do
       Instr.checkKey e (d + n) el (← part el (a.map scalV).toArray (i * (← sizeOf el)))
       pure (ForInStep.yield PUnit.unit)) : Sem PUnit).run P w = .ok PUnit.unit w := by
     intro L
     induction L with
     | nil => intro o ks _ _; simp
     | cons j L ihL =>
      intro o ks hc hk
      simp only [List.map_cons, consec, Bool.and_eq_true, beq_iff_eq] at hc
      obtain ⟨rfl, hc⟩ := hc
      obtain ⟨k1, k2, h1, h2, rfl⟩ := flatL_cons (by simpa using hk)
      have hk1 := flatK_len n _ _ h1
      have hle := consec_le _ _ _ hc
      have p1 := run_part_val w h1 (a.map scalV) (j * P.cellsOf el) (by simp; omega)
      rw [← List.map_drop, ← List.map_take] at p1
      have p2 := ih el k1 h1 ((a.drop (j * P.cellsOf el)).take (P.cellsOf el)) (by simp; omega) e w
      have := ihL _ _ hc h2
      simp only [List.forIn_cons, Sem.run_bind, run_sizeOf w hi, p1, p2, Result.andThen_ok, Sem.run_pure]
      exact this
    have := key (List.range m) 0 ks (by rw [hal, hl]; exact hc.2) h
    rw [this]; rfl
   ·cases h
  ·cases h
theorem eqOk_of {t : TypeId} {ks : List SK} (n : Nat) (hn : n ≤ 10000) (hg : P.eqGuardType P.depth t = false) (hk : flatK P n t = some ks) (ha : tagg P t = some true) : EqOk P t ks := by
 refine ⟨hg, fun a b q h w => ⟨?_, fun e => ?_⟩⟩
 ·have h1 := eqAt_flat (P := P) (10000 - n) n t ks hk a b q h w
  rw [Nat.sub_add_cancel hn] at h1
  unfold valOf at h1
  unfold tagg at ha
  split at ha <;> rename_i hu <;> first | (rw [hu] at h1; exact h1) | (cases ha)
 ·have h1 := ckAt_flat (P := P) (10000 - n) n t ks hk a (eqRow_len _ _ _ _ h).1 e w
  rw [Nat.sub_add_cancel hn] at h1
  unfold valOf at h1
  unfold tagg at ha
  split at ha <;> rename_i hu <;> first | (rw [hu] at h1; exact h1) | (cases ha)
end
end
end Go.Gh
