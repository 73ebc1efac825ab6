/-
  Proved here: for every table, every text, every list of numbers, two numbers and a byte ScoreSaves returns true and leaves its arguments as they were. No condition; the listed package variables are tied to the program's text (the card).
-/
import Derived.Test.YtgmohiojddnfgaaGreatDoorGc4h
import Derived.Test.YtgmohiojddnfgaaGreatDoorGc4m
import Derived.Test.YtgmohiojddnfgaaGreatDoorGc4n
import Derived.Test.YtgmohiojddnfgaaGreatDoorTie
import Derived.Test.YtgmohiojddnfgaaGreatDoorCards
import Derived.Lay
namespace Go.Proofs.YtgmohiojddnfgaaGreatDoor
open Go.Gh Go.RowKit Go.ChangeShapes Go.WideShapes
set_option maxRecDepth 100000
theorem door_met (os : Os) (args : Array Value) : laidMetH Tryz.prog Rows.scoreSavesRow.laid ((World.laidAll Tryz.prog os Rows.scoreSavesRow.laid).forCall (fun _ _ => 0) ⟨#[], args, []⟩).memory := by
  rw [MakeChecks.laidMetH_plain _ _ _ (by kernel_rfl)]
  exact laidMet_laidAll _ (by kernel_rfl) (by kernel_rfl)
theorem glb_known (W : World) (hS : W.ShapedOpen Tryz.prog) (h : laidMetH Tryz.prog Rows.scoreSavesRow.laid W) : GlbRel W (S0 W) := by
  intro g cs hg
  rw [MakeChecks.laidMetH_plain _ _ _ (by kernel_rfl)] at h
  have hg4 : g = 0 ∨ g = 1 ∨ g = 2 ∨ g = 3 ∨ g = 4 := by
    unfold globQ globT at hg
    by_cases e0 : g = 0
    · exact .inl e0
    by_cases e1 : g = 1
    · exact .inr (.inl e1)
    by_cases e2 : g = 2
    · exact .inr (.inr (.inl e2))
    by_cases e3 : g = 3
    · exact .inr (.inr (.inr (.inl e3)))
    by_cases e4 : g = 4
    · exact .inr (.inr (.inr (.inr e4)))
    have f0 : (0 == g) = false := by simp; omega
    have f1 : (1 == g) = false := by simp; omega
    have f2 : (2 == g) = false := by simp; omega
    have f3 : (3 == g) = false := by simp; omega
    have f4 : (4 == g) = false := by simp; omega
    simp [List.find?, f0, f1, f2, f3, f4] at hg
  rcases hg4 with rfl | rfl | rfl | rfl | rfl
  · have hcs : globQ 0 = some (([[], [111, 112, 101, 110], [112, 97, 117, 115, 101, 100], [99, 108, 111, 115, 101, 100], [115, 104, 111, 119, 110]] : List (List UInt8)).map GQ.str) := by kernel_rfl
    rw [hcs] at hg
    cases hg
    exact glb_strs (name := (Rows.scoreSavesRow.laid[6]'(by decide)).1) (i := 6) (t := 129) (e := 9) (n := 5) h (by kernel_rfl) (by kernel_rfl) (by kernel_rfl) (by kernel_rfl) (by kernel_rfl) (by kernel_rfl) (by kernel_rfl)
  · have hcs : globQ 1 = some (Lib.pow10Tab.map fun z => GQ.int .u64 z) := by kernel_rfl
    rw [hcs] at hg
    cases hg
    exact glb_tab (name := (Rows.scoreSavesRow.laid[2]'(by decide)).1) (i := 2) (t := 232) (e := 97) (n := 20) h (by kernel_rfl) (by kernel_rfl) (by kernel_rfl) (by kernel_rfl) (by kernel_rfl) (by kernel_rfl) (by kernel_rfl)
  · have hcs : globQ 2 = some [GQ.anyInt .i64] := by kernel_rfl
    rw [hcs] at hg
    cases hg
    exact glb_int (t := 3) (zero := #[.int .i64 0]) hS (of_decide_eq_true (by kernel_rfl)) (by kernel_rfl) rfl (by kernel_rfl) (by kernel_rfl) (by kernel_rfl)
  · have hcs : globQ 3 = some [GQ.anyIface] := by kernel_rfl
    rw [hcs] at hg
    cases hg
    exact glb_iface (name := (Rows.scoreSavesRow.laid[5]'(by decide)).1) (d := (Rows.scoreSavesRow.laid[5]'(by decide)).2) (i := 5) (t := 107) (m := #[("Error", 112)]) h (by kernel_rfl) (by kernel_rfl) (by kernel_rfl) (by kernel_rfl)
  · have hcs : globQ 4 = some [GQ.anyIface] := by kernel_rfl
    rw [hcs] at hg
    cases hg
    exact glb_iface (name := (Rows.scoreSavesRow.laid[4]'(by decide)).1) (d := (Rows.scoreSavesRow.laid[4]'(by decide)).2) (i := 4) (t := 107) (m := #[("Error", 112)]) h (by kernel_rfl) (by kernel_rfl) (by kernel_rfl) (by kernel_rfl)
theorem scoreSaves_lifted (os : Os) (started : os.Started) (H : Type) (enc : TypeId × Value → H) :
    ReturnsInHanded {} Tryz.checked os 4 .any (fun w args => (Rows.scoreSavesSpec.pre enc Tryz.prog Tryz.f4 [] false w args ∧ laidMetH Tryz.prog Rows.scoreSavesRow.laid w) ∧ sizedMet enc Tryz.prog Tryz.f4 (OpenSpec.ofChange Rows.scoreSavesSpec) false w args)
      (Rows.scoreSavesSpec.post enc Tryz.prog Tryz.f4 false true false false) := by
  refine law_laid (C := Tryz.checked) ctxOk (geval_sound KC ctxOk) rfl 6 Rows.scoreSavesRow.laid (fun W hS h => glb_known W hS h) own started (by kernel_rfl) laidOut Tryz.func4 rfl (fun ds hds => ?_) (tb := 4) rfl Tryz.underlying4 (by kernel_rfl)
    (ChangeSpec.witness_shaped (enc := enc) (C := Tryz.checked) (os := os) (X := fun w _ => laidMetH Tryz.prog Rows.scoreSavesRow.laid w) false (World.laidAll Tryz.prog os Rows.scoreSavesRow.laid) #[.agg #[.int .i64 0, .int .i64 0, .int .i64 0, .slice none 0 0], .string ByteArray.empty, .slice none 0 0, .int .i64 0, .int .i64 0, .int .u8 0] 8 (World.laidAll_os _ _ _) (World.shaped_of_ZipB (by kernel_rfl) (by kernel_rfl)) (by kernel_rfl) (by kernel_rfl) (by kernel_rfl) (door_met os _)) ?_
  · match ds, hds with
    | [d1, d2, d3, d4, d5, d6], _ => rfl
  · intro pvs h
    have e : Tryz.f4.params.toList = [44, 9, 26, 3, 3, 5] := by kernel_rfl
    rw [e] at h
    obtain ⟨p1, pvs, rfl, h1, h⟩ := argsP_cons h
    obtain ⟨p2, pvs, rfl, h2, h⟩ := argsP_cons h
    obtain ⟨p3, pvs, rfl, h3, h⟩ := argsP_cons h
    obtain ⟨p4, pvs, rfl, h4, h⟩ := argsP_cons h
    obtain ⟨p5, pvs, rfl, h5, h⟩ := argsP_cons h
    obtain ⟨p6, pvs, rfl, h6, h⟩ := argsP_cons h
    obtain rfl := argsP_nil h
    obtain ⟨t, ht, rfl⟩ := arg_table h1
    obtain ⟨s, hs, rfl⟩ := shp_str h2
    obtain ⟨l, hl, rfl⟩ := shp_ints h3
    obtain ⟨a, rfl⟩ := arg_int h4
    obtain ⟨b, rfl⟩ := arg_int h5
    obtain ⟨y, rfl⟩ := arg_byte h6
    exact law4 t ht s l a b y hl hs
theorem scoreSaves_row : Rows.ScoreSavesSaid :=
  OpenClaim.holds_of_wide 4 Tryz.f4 rfl rfl rfl rfl rfl rfl rfl ⟨rfl, rfl, rfl, rfl, rfl⟩ rfl rfl rfl rfl rfl (by kernel_rfl) Tryz.func4 (by kernel_rfl)
    (of_decide_eq_true (by kernel_rfl)) (by unfold Func.isWrapper; first | (rw [if_pos (by decide +kernel)]; kernel_rfl) | (rw [if_neg (by decide +kernel)]; exact ⟨rfl, rfl⟩))
    (fun os started H enc _ => scoreSaves_lifted os started H enc)
theorem scoreSaves_holds : Rows.ScoreSavesCardSaid :=
  Claim7.holds_tied_plain_at .later [] [.data, .data, .data, .data, .sentinel, .sentinel, .widerDeep, .pinned] true (true, Rows.scoreSavesCard.stood.harness.2) true
    scoreSaves_row (fun _ h => by cases h) (by kernel_rfl) (fun _ h => by cases h) scoreSaves_row_tie rfl ⟨rfl, rfl⟩ (by kernel_rfl) rfl
    (fun f fn hf hfn => by
      obtain rfl : f = 4 := Option.some.inj ((show Tryz.prog.funcNamed Rows.scoreSavesRow.func = some 4 by kernel_rfl).symm.trans hf) |>.symm
      obtain rfl : fn = Tryz.f4 := (Option.some.inj (Tryz.func4.symm.trans hfn)).symm
      exact ⟨by kernel_rfl, fun j t ht => by
        have e : Tryz.f4.params = #[44, 9, 26, 3, 3, 5] := by kernel_rfl
        rw [e] at ht
        have hm : t ∈ [44, 9, 26, 3, 3, 5] := by simpa using Array.mem_of_getElem? ht
        have hall : ([44, 9, 26, 3, 3, 5].all fun u => !Tryz.prog.wantsStandIn u) = true := by kernel_rfl
        exact (show Tryz.prog.wantsStandIn t = false by simpa using List.all_eq_true.1 hall t hm)⟩)
    (by kernel_rfl)
#print axioms scoreSaves_holds
end Go.Proofs.YtgmohiojddnfgaaGreatDoor
