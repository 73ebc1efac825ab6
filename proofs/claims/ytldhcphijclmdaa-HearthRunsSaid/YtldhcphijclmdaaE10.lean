/- HearthRuns. -/
import Derived.Test.YtldhcphijclmdaaFf
import Derived.Test.YtldhcphijclmdaaGl
import Derived.Test.YtldhcphijclmdaaGm
namespace Go.Gh
open Go.Proofs
set_option linter.unusedSimpArgs false
set_option linter.unusedVariables false
set_option maxRecDepth 100000
set_option maxHeartbeats 4000000

theorem runs_loop (ks : List Kettle) (fs : List Fire) (ls : List (List Pour)) (ms : List Int) (n : Nat) (hn : n ≤ 1000) (l1 : ks.length = n) (l2 : fs.length = n) (l3 : ls.length = n) (l4 : ms.length = n) (F : Fr) (Q : GX → GSt → Prop) : ∀ j i : Nat, i + j = n →
    Q (.exit 0) ⟨[(10, gdead)], [F, []], 226⟩ →
    WPL (KC kp0) needT 10 (lp Try.f10 0) [14, 15, 16, 17, 18] [10] Q [(14, .pure (.slice (ks.map Kettle.row))), (15, .pure (.slice (fs.map Fire.row))), (16, .pure (.slice (ls.map fun l => [.slice (l.map Pour.row)]))), (17, .pure (.slice (ms.map irow))), (18, .pure (.int .i64 i))] [F, []] 226 := by
  intro j
  induction j with
  | zero =>
    intro i hi h1
    have : ¬ i < n := by omega
    apply WPL_step
    conv => arg 4; whnf
    simp [this, l1]
    exact h1
  | succ j ih =>
    intro i hi h1
    have hi0 : i < n := by omega
    have i1 : i < ks.length := by omega
    have i2 : i < fs.length := by omega
    have i3 : i < ls.length := by omega
    have i4 : i < ms.length := by omega
    have hw := w64 (x := (i : Int) + 1) (by omega) (by omega)
    have ih' := ih (i + 1) (by omega) h1
    have A := fun (H : Heap) (c : Nat) hH => Run_ok (keep := kp0) (H := H) (c := c) kp0_ok rfl rfl ks[i] fs[i] ls[i] ms[i] hH
    have B := fun (H : Heap) (c : Nat) hH => RunR_ok (keep := kp0) (H := H) (c := c) kp0_ok ks[i] fs[i] ls[i] ms[i] hH
    have C := fun (H : Heap) (c : Nat) hH => Sings_ok (keep := kp0) (H := H) (c := c) kp0_ok rfl rfl ks[i] fs[i] ls[i] ms[i] hH
    have D := fun (H : Heap) (c : Nat) hH => SingsR_ok (keep := kp0) (H := H) (c := c) kp0_ok ks[i] fs[i] ls[i] ms[i] hH
    have E := fun (H : Heap) (c : Nat) hH => When_ok (keep := kp0) (H := H) (c := c) kp0_ok rfl rfl ks[i] fs[i] ls[i] ms[i] hH
    have G := fun (H : Heap) (c : Nat) hH => WhenR_ok (keep := kp0) (H := H) (c := c) kp0_ok ks[i] fs[i] ls[i] ms[i] hH
    obtain ⟨b1, b2, b3⟩ := runA_len ks[i] fs[i] ls[i] ms[i]
    generalize whenA ks[i] fs[i] ls[i] ms[i] = wa at *
    have hvl : ((runA ks[i] fs[i] ls[i] ms[i]).1.map (verd ks[i])).length ≤ 301 := by simpa using b1
    generalize (runA ks[i] fs[i] ls[i] ms[i]).1.map (verd ks[i]) = v at *
    generalize runA ks[i] fs[i] ls[i] ms[i] = z at *
    have S := fun (H : Heap) (c : Nat) hH => eqSpans_ok (keep := kp0) (H := H) (c := c) kp0_ok z.1 z.1 hH (by omega)
    have T := fun (H : Heap) (c : Nat) hH => eqInts_ok (keep := kp0) (H := H) (c := c) kp0_ok v v hH (by omega)
    simp only [Kettle.row, Fire.row] at A B C D E G
    apply WPL_step
    conv => arg 4; whnf
    simp (config := { maxSteps := 1000000 }) [i1, i2, i3, i4, hi0, l1, hw, irow, Kettle.row, Fire.row, A, B, C, D, E, G, S, T]
    simpa [irow] using ih'

theorem kettleR_ok2 (w : Int) : 1 ≤ (kettleR w).1.water ∧ (kettleR w).1.water ≤ 30 := by
  rw [kettleR_def]
  exact anyR_rng w 1 30 (by omega) (by omega) (by omega)

theorem law10 (k : Kettle) (f : Fire) (l : List Pour) (n : Int) (nums : List Int) (hn : nums.length ≤ 9223372036854775807) :
    ∃ H', gcall (KC kp0) (geval (KC kp0)) 10 [.pure (.agg k.row), .pure (.agg f.row), .pure (.slice (l.map Pour.row)), .pure (.int .i64 n), .pure (.slice (nums.map irow))] 0 [[]] = some (.pure (.bool true), H') := by
  have key : WPv (gcall (KC kp0) (geval (KC kp0)) 10 [.pure (.agg k.row), .pure (.agg f.row), .pure (.slice (l.map Pour.row)), .pure (.int .i64 n), .pure (.slice (nums.map irow))] 0 [[]]) (fun x => x.1 = .pure (.bool true)) := by
    refine call_enter (KC kp0) needT Try.func10 rfl rfl good10 rfl (by simp) (by simp) ?_
    have A := fun (fr : Fr) (c : Nat) => awake_ok fr c
    have M := fun (H : Heap) (c : Nat) hH => much_ok (keep := kp0) (H := H) (c := c) kp0_ok f.coals f.touches l hH
    have nk : newKey 38 6 = 159750 := rfl
    obtain ⟨w, hw⟩ := BoxOf_ok (keep := kp0) kp0_ok rfl (c := 38) (H := [[(5, .box (k.row.map .pure)), (6, .box (f.row.map .pure))], []]) nums hn (by simp) (by simp [nk])
    simp [nk, Kettle.row, Fire.row] at hw
    have hB : isBox [[(5, .box (k.row.map .pure)), (6, .box (f.row.map .pure)), (159750, wbox w)], []] (1, 159750) := ⟨w, by simp, by simp⟩
    have hwd : wordAt [[(5, .box (k.row.map .pure)), (6, .box (f.row.map .pure)), (159750, wbox w)], []] (1, 159750) = w := by simp [wordAt, wbox]
    have hF := fun (c : Nat) => fireOf_ok (keep := kp0) (c := c) kp0_ok (m := 8) (by omega) hB rfl
    rw [hwd] at hF
    generalize fireR 8 w = fw at *
    obtain ⟨own, w1⟩ := fw
    have hB1 : isBox [[(5, .box (k.row.map .pure)), (6, .box (f.row.map .pure)), (159750, wbox w1)], []] (1, 159750) := ⟨w1, by simp, by simp⟩
    have hwd1 : wordAt [[(5, .box (k.row.map .pure)), (6, .box (f.row.map .pure)), (159750, wbox w1)], []] (1, 159750) = w1 := by simp [wordAt, wbox]
    have hK := fun (c : Nat) => kettleOf_ok (keep := kp0) (c := c) kp0_ok hB1
    rw [hwd1] at hK
    have hkw := kettleR_ok2 w1
    generalize kettleR w1 = kw at *
    obtain ⟨pot, w2⟩ := kw
    simp only at hkw
    have hB2 : isBox [[(5, .box (k.row.map .pure)), (6, .box (f.row.map .pure)), (12, .box (own.row.map .pure)), (13, .box (pot.row.map .pure)), (159750, wbox w2)], []] (1, 159750) := ⟨w2, by simp, by simp⟩
    have hwd2 : wordAt [[(5, .box (k.row.map .pure)), (6, .box (f.row.map .pure)), (12, .box (own.row.map .pure)), (13, .box (pot.row.map .pure)), (159750, wbox w2)], []] (1, 159750) = w2 := by simp [wordAt, wbox]
    have hP := fun (c : Nat) => poursOf_ok (keep := kp0) (c := c) (most := 5) (mins := 30) kp0_ok rfl (by omega) (by omega) (show 1 ≤ pot.water ∧ pot.water ≤ 50 by omega) hB2
    rw [hwd2] at hP
    generalize poursOfR pot 5 30 w2 = pw at *
    obtain ⟨made, w3⟩ := pw
    have hB3 : isBox [[(5, .box (k.row.map .pure)), (6, .box (f.row.map .pure)), (12, .box (own.row.map .pure)), (13, .box (pot.row.map .pure)), (159750, wbox w3)], []] (1, 159750) := ⟨w3, by simp, by simp⟩
    have hwd3 : wordAt [[(5, .box (k.row.map .pure)), (6, .box (f.row.map .pure)), (12, .box (own.row.map .pure)), (13, .box (pot.row.map .pure)), (159750, wbox w3)], []] (1, 159750) = w3 := by simp [wordAt, wbox]
    have hU := fun (c : Nat) => up_ok (keep := kp0) (c := c) (n := 40) kp0_ok hB3 (by omega)
    rw [hwd3] at hU
    generalize upR w3 40 = uw at *
    obtain ⟨up, w4⟩ := uw
    have h0 := fun F Q hq => runs_loop [k, pot, pot] [f, own, f] [l, made, l] [n, up, n] 3 (by omega) rfl rfl rfl rfl F Q 3 0 (by omega) hq
    simp [Kettle.row, Fire.row, irow] at h0
    simp [Kettle.row, Fire.row] at hF hK hP hU
    have ef : f.row = [.slice (f.coals.map Coal.row), .slice (f.touches.map Touch.row)] := rfl
    by_cases hm : 30 < f.coals.length ∨ 60 < f.touches.length ∨ 40 < l.length
    · simp [Kettle.row, Fire.row, M, hm, A, gleave_free, kp0_ok, kept]
    · simp [Kettle.row, Fire.row, M, hm, hw, hF, hK, hP, hU]
      refine h0 _ _ ?_
      simp [A, gleave_free, kp0_ok, kept]
  obtain ⟨⟨r, H'⟩, e1, e2⟩ := key
  simp only at e2
  exact ⟨H', by rw [e1, e2]⟩
end Go.Gh


/-
  Proved here: for every kettle, fire, pours, number and list of numbers HearthRuns returns true and leaves its arguments as they were. No condition.
-/
namespace Go.Proofs.Ytldhcphijclmdaa
open Go.Gh Go.RowKit
set_option maxRecDepth 100000

theorem hearthRuns_lifted (os : Os) (started : os.Started) (H : Type) (enc : TypeId × Value → H) :
    ReturnsInHanded {} Try.checked os 10 .any (Rows.hearthRunsSpec.pre6 enc Try.prog Try.f10 Rows.hearthRunsRow.domain false) (Rows.hearthRunsSpec.post enc Try.prog Try.f10 false true false false) := by
  refine law_lifted (C := Try.checked) (ctxOk kp0) rfl 6 own started (by kernel_rfl) laidOut Try.func10 rfl (fun ds hds => ?_) (tb := 4) rfl Try.underlying4 (by kernel_rfl)
    (ChangeSpec.witness6 (enc := enc) (C := Try.checked) false ⟨#[], #[.agg #[.int .i64 0, .int .i64 0, .int .i64 0, .int .i64 0, .int .i64 0, .int .i64 0, .int .i64 0, .int .i64 0], .agg #[.slice none 0 0, .slice none 0 0], .slice none 0 0, .int .i64 0, .slice none 0 0], []⟩ 12 (by kernel_rfl) (by kernel_rfl) (by kernel_rfl) (by kernel_rfl)) ?_
  · have hds' : ds.length = 5 := hds.trans (by kernel_rfl)
    clear hds
    match ds, hds' with
    | [d1, d2, d3, d4, d5], _ => rfl
  · intro pvs h
    have e : Try.f10.params.toList = [29, 25, 30, 3, 33] := by kernel_rfl
    rw [e] at h
    obtain ⟨p1, pvs, rfl, h1, h⟩ := argsP_cons h
    obtain ⟨p2, pvs, rfl, h2, h⟩ := argsP_cons h
    obtain ⟨p3, pvs, rfl, h3, h⟩ := argsP_cons h
    obtain ⟨p4, pvs, rfl, h4, h⟩ := argsP_cons h
    obtain ⟨p5, pvs, rfl, h5, h⟩ := argsP_cons h
    obtain rfl := argsP_nil h
    obtain ⟨k, rfl⟩ := arg_kettle h1
    obtain ⟨f, rfl⟩ := arg_fire h2
    obtain ⟨l, rfl⟩ := arg_pours h3
    obtain ⟨n, rfl⟩ := arg_int h4
    obtain ⟨nums, hl, rfl⟩ := shp_ints h5
    exact law10 k f l n nums hl

theorem hearthRuns_holds : Rows.HearthRunsSaid :=
  OpenClaim.holds_of_wide 10 Try.f10 rfl rfl rfl rfl rfl rfl rfl ⟨rfl, rfl, rfl, rfl, rfl⟩ rfl rfl rfl rfl rfl (by kernel_rfl) Try.func10 (by kernel_rfl)
    (of_decide_eq_true (by kernel_rfl)) (by unfold Func.isWrapper; first | (rw [if_pos (by decide +kernel)]; kernel_rfl) | (rw [if_neg (by decide +kernel)]; exact ⟨rfl, rfl⟩))
    (fun os started H enc _ => hearthRuns_lifted os started H enc)
#print axioms hearthRuns_holds
end Go.Proofs.Ytldhcphijclmdaa
