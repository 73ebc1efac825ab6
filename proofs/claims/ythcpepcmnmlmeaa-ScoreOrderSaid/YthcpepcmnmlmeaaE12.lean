/- ScoreOrder. -/
import Derived.Test.YthcpepcmnmlmeaaSi
import Derived.Test.YthcpepcmnmlmeaaGm
namespace Go.Gh
open Go.Proofs
set_option linter.unusedSimpArgs false
set_option linter.unusedVariables false
set_option linter.unnecessarySimpa false
set_option maxRecDepth 100000
set_option maxHeartbeats 4000000
theorem Run_h2 {c : Nat} {F : Fr} {v : Nat} (t : Tab) (hs : Sm t) (d e : Deed) (hv : v ≤ 2) (hF : F.get 39 = some (.arr 4 [d.row, e.row] v false)) :
    gcall KC (geval KC) 48 [.pure (.agg t.row), .hdr (1, 39) 4 2 0 2] c (F :: [[]]) = some (runTup t [d, e], F.ins 39 (.arr 4 [d.row, e.row] v true) :: [[]]) := by
  rw [gcall_frz' rfl rfl rfl]
  have e1 : frzVals (F :: [[]]) [.pure (.agg t.row), .hdr (1, 39) 4 2 0 2] = ([.pure (.agg t.row), .pure (.slice [d.row, e.row])], F.ins 39 (.arr 4 [d.row, e.row] v true) :: [[]]) := by
    simp [frzVals, frzVal, frzCell, hF, hv]
  rw [e1]
  exact Run_ok0 (c := c) (H := F.ins 39 (.arr 4 [d.row, e.row] v true) :: [[]]) t hs [d, e] (by simp) (by simp)
theorem Run_h1 {c : Nat} {F : Fr} {v : Nat} {ro : Bool} (t : Tab) (hs : Sm t) (d e : Deed) (hv : v ≤ 2) (hF : F.get 39 = some (.arr 4 [d.row, e.row] v ro)) :
    gcall KC (geval KC) 48 [.pure (.agg t.row), .hdr (1, 39) 4 2 1 1] c (F :: [[]]) = some (runTup t [e], F.ins 39 (.arr 4 [d.row, e.row] v true) :: [[]]) := by
  rw [gcall_frz' rfl rfl rfl]
  have e1 : frzVals (F :: [[]]) [.pure (.agg t.row), .hdr (1, 39) 4 2 1 1] = ([.pure (.agg t.row), .pure (.slice [e.row])], F.ins 39 (.arr 4 [d.row, e.row] v true) :: [[]]) := by
    simp [frzVals, frzVal, frzCell, hF, hv]
  rw [e1]
  exact Run_ok0 (c := c) (H := F.ins 39 (.arr 4 [d.row, e.row] v true) :: [[]]) t hs [e] (by simp) (by simp)
theorem deeds12_loop (t : Tab) (hT : TOk t) (Q : GX → GSt → Prop) (w0 : Int)
    (hQ : ∀ (d e : Deed) (w : Int), Wr t d → Wr t e → Q (.exit 0) ⟨[(3, .bptr (1, 24594) 0), (4, .bptr (1, 4) 0), (5, .hdr (1, 39) 4 2 0 2)], [(4, tb t), (39, .arr 4 [d.row, e.row] 0 false), (24594, wbox w)] :: [[]], 154⟩) :
    WPL KC needT 12 (lp Try.f12 0) [3, 4, 5, 6] [3, 4, 5] Q [(3, .bptr (1, 24594) 0), (4, .bptr (1, 4) 0), (5, .nils), (6, .pure (.int .i64 0))] ([(4, tb t), (24594, wbox w0)] :: [[]]) 154 := by
  have hn := hT.n
  have hp := hT.pk
  have key : ∀ w, ∃ (d : Deed) (w1 w2 w3 : Int), Wr t d ∧ upR w (t.answers.length : Int) = (d.guest, w1) ∧ upR w1 t.packets = (d.packet, w2) ∧ anyR w2 (-1) 8 = (d.number, w3) ∧ d.kind = 2 := fun w => by
    obtain ⟨g, w1, e1, g1⟩ := upR_get w (t.answers.length : Int) (by omega) (by omega)
    obtain ⟨p, w2, e2, p1⟩ := upR_get w1 t.packets (by omega) (by omega)
    obtain ⟨n, w3, e3⟩ : ∃ n w3, anyR w2 (-1) 8 = (n, w3) := ⟨_, _, rfl⟩
    have hr := anyR_rng w2 (-1) 8 (by omega) (by omega) (by omega)
    rw [e3] at hr
    exact ⟨⟨2, g, p, n⟩, w1, w2, w3, ⟨rfl, by simp only; omega, by simp only; omega, hr⟩, e1, e2, e3, rfl⟩
  have U1 := fun c f0 w => up_ok (c := c) (H := [f0, [(4, tb t), (24594, wbox w)], []]) (nm := (1, 24594)) (n := (t.answers.length : Int)) ⟨_, rfl, rfl⟩ (by omega)
  have U2 := fun c f0 w => up_ok (c := c) (H := [f0, [(4, tb t), (24594, wbox w)], []]) (nm := (1, 24594)) (n := t.packets) ⟨_, rfl, rfl⟩ (by omega)
  have U3 := fun c f0 w => any_ok (c := c) (H := [f0, [(4, tb t), (24594, wbox w)], []]) (nm := (1, 24594)) (lo := -1) (hi := 8) ⟨_, rfl, rfl⟩
  have V1 := fun c f0 w x => up_ok (c := c) (H := [f0, [(4, tb t), (39, .arr 4 [x] 0 false), (24594, wbox w)], []]) (nm := (1, 24594)) (n := (t.answers.length : Int)) ⟨_, rfl, rfl⟩ (by omega)
  have V2 := fun c f0 w x => up_ok (c := c) (H := [f0, [(4, tb t), (39, .arr 4 [x] 0 false), (24594, wbox w)], []]) (nm := (1, 24594)) (n := t.packets) ⟨_, rfl, rfl⟩ (by omega)
  have V3 := fun c f0 w x => any_ok (c := c) (H := [f0, [(4, tb t), (39, .arr 4 [x] 0 false), (24594, wbox w)], []]) (nm := (1, 24594)) (lo := -1) (hi := 8) ⟨_, rfl, rfl⟩
  simp [wordAt, wbox, tb] at U1 U2 U3 V1 V2 V3
  obtain ⟨d, w1, w2, w3, hd, a1, a2, a3, a4⟩ := key w0
  obtain ⟨e, w4, w5, w6, he, b1, b2, b3, b4⟩ := key w3
  have hfin := hQ d e w6 hd he
  simp [tb, wbox, Deed.row, a4, b4] at hfin
  apply WPL_step
  conv => arg 4; whnf
  simp [tb, wbox, U1, a1, U2, a2, U3, a3]
  apply WPL_step
  conv => arg 4; whnf
  simp [tb, wbox, V1, b1, V2, b2, V3, b3]
  apply WPL_step
  conv => arg 4; whnf
  simp
  exact hfin
theorem law12 (nums : List Int) (hnums : nums.length ≤ 9223372036854775807) : ∃ H', gcall KC (geval KC) 12 [.pure (.slice (nums.map irow))] 0 [[]] = some (.pure (.bool true), H') := by
  suffices hs : WPv (gcall KC (geval KC) 12 [.pure (.slice (nums.map irow))] 0 [[]]) (fun x => x.1 = .pure (.bool true)) by
    obtain ⟨⟨v, H'⟩, h1, rfl⟩ := hs
    exact ⟨H', h1⟩
  refine call_enter KC needT Try.func12 rfl rfl good12 rfl rfl rfl (by simp) (by simp) ?_
  obtain ⟨w, eB⟩ := BoxOf_ok (c := 17) (H := [[], []]) nums hnums (by simp) (by simp [newKey])
  have k6 : newKey 17 6 = 24594 := by decide
  simp [k6] at eB
  obtain ⟨t', w1, hO', eO⟩ := table_ok (c := 19) (H := [[(24594, wbox w)], []]) (nm := (1, 24594)) ⟨_, rfl, rfl⟩ 6 4 (by omega) (by omega)
  simp [Tab.row] at eO
  obtain ⟨t, ht⟩ : ∃ t : Tab, t = { t' with state := 1 } := ⟨_, rfl⟩
  have hO : TOk t := by subst ht; exact ⟨hO'.pk, hO'.ps, ⟨by simp, by simp⟩, fun h => by simp at h, hO'.n, hO'.row⟩
  have hst : t.state = 1 := by rw [ht]
  have L := fun Q hQ => deeds12_loop t hO Q w1 hQ
  have e4 : tb t = .box [.pure (.int .i64 t'.packets), .pure (.int .i64 t'.passed), .pure (.int .i64 1), .pure (.slice (t'.answers.map arow))] := by rw [ht]; rfl
  have er : t.row = [.int .i64 t'.packets, .int .i64 t'.passed, .int .i64 1, .slice (t'.answers.map arow)] := by rw [ht]; rfl
  simp only [e4, wbox] at L
  simp only [wbox] at eB eO
  simp [eB, eO, zb64]
  refine L _ (fun d e w hd he => ?_)
  have ON := one_ok (c := 41) (H := [[(4, tb t), (39, .arr 4 [d.row, e.row] 0 false), (24594, wbox w)], []]) (nm := (1, 24594)) (n := 3) ⟨_, rfl, rfl⟩ (by omega)
  obtain ⟨o, w2, eo⟩ : ∃ o w2, oneR w 3 = (o, w2) := ⟨_, _, rfl⟩
  have ew : wordAt [[(4, tb t), (39, .arr 4 [d.row, e.row] 0 false), (24594, wbox w)], []] (1, 24594) = w := rfl
  rw [ew, eo] at ON
  simp [e4, wbox, Deed.row] at ON
  have fin : ∀ e' : Deed, Wr t e' → ∃ X Y Z : Tab, Sm X ∧ (if d.guest = e'.guest ∧ d.packet = e'.packet then X = Z else X = Y) ∧ runTup t [d, e'] = .pure (.tuple [.agg X.row, .slice [irow (doE t d), irow (doE t e')], .int .i64 0]) ∧
      runTup t [e', d] = .pure (.tuple [.agg Y.row, .slice [irow (doE t e'), irow (doE t d)], .int .i64 0]) ∧ runTup t [e'] = .pure (.tuple [.agg Z.row, .slice [irow (doE t e')], .int .i64 0]) := fun e' he' => by
    refine ⟨runT t [d, e'], runT t [e', d], runT t [e'], (runT_tok [d, e'] hO).sm, ?_, ?_, ?_, ?_⟩
    · split
      · rename_i h; exact exch_same hd he' hst h.1 h.2
      · rename_i h; exact exch_comm hd he' hst h
    · unfold runTup runV
      rw [if_neg (not_not_intro hO.chk), if_neg (by simp)]
      simp only [runE, exch_e hd he' hst]
      rfl
    · unfold runTup runV
      rw [if_neg (not_not_intro hO.chk), if_neg (by simp)]
      simp only [runE, exch_e he' hd hst]
      rfl
    · unfold runTup runV
      rw [if_neg (not_not_intro hO.chk), if_neg (by simp)]
      rfl
  cases o with
  | false =>
    obtain ⟨X, Y, Z, hX, hXY, v1, v2, v3⟩ := fin e he
    have R1 := Run_h2 (c := 59) (F := [(4, tb t), (39, .arr 4 [d.row, (e).row] 0 false), (24594, wbox w2)]) t hO.sm d e (by omega) rfl
    have R2 := fun H hH => Run_p (c := 72) (H := H) t hO.sm [e, d] (by simp) hH
    have R3 := Run_h1 (c := 80) (F := [(4, tb t), (7, tb X), (10, tb Y), (39, .arr 4 [d.row, (e).row] 0 true), (24594, wbox w2)]) t hO.sm d e (by omega) rfl
    have EQ := fun c (H : Heap) (hH : 0 < H.length) => eqT_ok (c := c) (H := H) X hX hH
    rw [v1] at R1
    rw [v2] at R2
    rw [v3] at R3
    simp [e4, er, Deed.row, wbox] at R1 R2 R3
    simp only [tb] at R3
    generalize doE t d = a at *
    generalize doE t e = b at *
    simp [Tab.row] at R1 R2 R3 EQ
    by_cases hs : d.guest = e.guest ∧ d.packet = e.packet
    · rw [if_pos hs] at hXY
      subst hXY
      have q1 : (d.guest == e.guest) = true := by simp [hs.1]
      have q2 : (d.packet == e.packet) = true := by simp [hs.2]
      simp [ON, R1, R2, R3, EQ, q1, q2, Deed.row, irow, awake_ok, gleave_free]
    · rw [if_neg hs] at hXY
      subst hXY
      by_cases hg : d.guest = e.guest
      · have q1 : (d.guest == e.guest) = true := by simp [hg]
        have q2 : (d.packet == e.packet) = false := by simp; exact fun h => hs ⟨hg, h⟩
        simp [ON, R1, R2, R3, EQ, q1, q2, Deed.row, irow, awake_ok, gleave_free]
      · have q1 : (d.guest == e.guest) = false := by simpa using hg
        simp [ON, R1, R2, R3, EQ, q1, Deed.row, irow, awake_ok, gleave_free]
  | true =>
    have hE : Wr t (Deed.mk e.kind d.guest d.packet e.number) := ⟨he.k, hd.g, hd.p, he.n⟩
    obtain ⟨X, Y, Z, hX, hXY, v1, v2, v3⟩ := fin (Deed.mk e.kind d.guest d.packet e.number) hE
    have R1 := Run_h2 (c := 59) (F := [(4, tb t), (39, .arr 4 [d.row, ((Deed.mk e.kind d.guest d.packet e.number)).row] 2 false), (24594, wbox w2)]) t hO.sm d (Deed.mk e.kind d.guest d.packet e.number) (by omega) rfl
    have R2 := fun H hH => Run_p (c := 72) (H := H) t hO.sm [(Deed.mk e.kind d.guest d.packet e.number), d] (by simp) hH
    have R3 := Run_h1 (c := 80) (F := [(4, tb t), (7, tb X), (10, tb Y), (39, .arr 4 [d.row, ((Deed.mk e.kind d.guest d.packet e.number)).row] 2 true), (24594, wbox w2)]) t hO.sm d (Deed.mk e.kind d.guest d.packet e.number) (by omega) rfl
    have EQ := fun c (H : Heap) (hH : 0 < H.length) => eqT_ok (c := c) (H := H) X hX hH
    rw [v1] at R1
    rw [v2] at R2
    rw [v3] at R3
    simp [e4, er, Deed.row, wbox] at R1 R2 R3
    simp only [tb] at R3
    generalize doE t d = a at *
    generalize doE t (Deed.mk e.kind d.guest d.packet e.number) = b at *
    simp [Tab.row] at R1 R2 R3 EQ
    simp at hXY
    subst hXY
    simp [ON, R1, R2, R3, EQ, Deed.row, irow, awake_ok, gleave_free]
end Go.Gh


/-
  Proved here: for every list of numbers ScoreOrder returns true and leaves its argument as it was. No condition.
-/
namespace Go.Proofs.Ythcpepcmnmlmeaa
open Go.Gh Go.RowKit
set_option maxRecDepth 100000
theorem scoreOrder_lifted (os : Os) (started : os.Started) (H : Type) (enc : TypeId × Value → H) :
    ReturnsInHanded {} Try.checked os 12 .any (Rows.scoreOrderSpec.pre6 enc Try.prog Try.f12 Rows.scoreOrderRow.domain false) (Rows.scoreOrderSpec.post enc Try.prog Try.f12 false true false false) := by
  refine law_lifted (C := Try.checked) ctxOk rfl 6 own started (by kernel_rfl) laidOut Try.func12 rfl (fun ds hds => ?_) (tb := 4) rfl Try.underlying4 (by kernel_rfl)
    (ChangeSpec.witness6 (enc := enc) (C := Try.checked) false ⟨#[], #[.slice none 0 0], []⟩ 8 (by kernel_rfl) (by kernel_rfl) (by kernel_rfl) (by kernel_rfl)) ?_
  · match ds, hds with
    | [d], _ => rfl
  · intro pvs h
    have e : Try.f12.params.toList = [22] := by kernel_rfl
    rw [e] at h
    obtain ⟨p1, pvs, rfl, h1, h⟩ := argsP_cons h
    obtain rfl := argsP_nil h
    obtain ⟨nums, hl, rfl⟩ := arg_ints h1
    exact law12 nums hl
theorem scoreOrder_holds : Rows.ScoreOrderSaid :=
  OpenClaim.holds_of_wide 12 Try.f12 rfl rfl rfl rfl rfl rfl rfl ⟨rfl, rfl, rfl, rfl, rfl⟩ rfl rfl rfl rfl rfl (by kernel_rfl) Try.func12 (by kernel_rfl)
    (of_decide_eq_true (by kernel_rfl)) (by unfold Func.isWrapper; first | (rw [if_pos (by decide +kernel)]; kernel_rfl) | (rw [if_neg (by decide +kernel)]; exact ⟨rfl, rfl⟩))
    (fun os started H enc _ => scoreOrder_lifted os started H enc)
#print axioms scoreOrder_holds
end Go.Proofs.Ythcpepcmnmlmeaa
