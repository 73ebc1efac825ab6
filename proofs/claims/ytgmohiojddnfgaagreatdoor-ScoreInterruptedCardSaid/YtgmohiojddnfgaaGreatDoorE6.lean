/-
  Proved here: for every list of numbers ScoreInterrupted returns true and leaves its argument as it was. No condition; the listed package variables are tied to the program's text (the card).
-/
import Derived.Test.YtgmohiojddnfgaaGreatDoorGc6j
import Derived.Test.YtgmohiojddnfgaaGreatDoorGc6m
import Derived.Test.YtgmohiojddnfgaaGreatDoorGc6n
import Derived.Test.YtgmohiojddnfgaaGreatDoorTie
import Derived.Test.YtgmohiojddnfgaaGreatDoorCards
import Derived.Lay
namespace Go.Proofs.YtgmohiojddnfgaaGreatDoor
open Go.Gh Go.RowKit Go.ChangeShapes Go.WideShapes
set_option maxRecDepth 100000
theorem door_met (os : Os) (args : Array Value) : laidMetH Tryz.prog Rows.scoreInterruptedRow.laid ((World.laidAll Tryz.prog os Rows.scoreInterruptedRow.laid).forCall (fun _ _ => 0) ⟨#[], args, []⟩).memory := by
  rw [MakeChecks.laidMetH_plain _ _ _ (by kernel_rfl)]
  exact laidMet_laidAll _ (by kernel_rfl) (by kernel_rfl)
theorem glb_known (W : World) (hS : W.ShapedOpen Tryz.prog) (h : laidMetH Tryz.prog Rows.scoreInterruptedRow.laid W) : GlbRel W (S0 W) := by
  intro g cs hg
  rw [MakeChecks.laidMetH_plain _ _ _ (by kernel_rfl)] at h
  have hg4 : g = 0 ∨ g = 1 ∨ g = 2 ∨ g = 3 ∨ g = 4 := by
    unfold globQ globT at hg
    by_cases e0 : g = 0
    · exact .inl e0
    by_cases e1 : g = 1
    · exact .inr (.inl e1)
    by_cases e2 : g = 2
    · exact .inr (.inr (.inl e2))
    by_cases e3 : g = 3
    · exact .inr (.inr (.inr (.inl e3)))
    by_cases e4 : g = 4
    · exact .inr (.inr (.inr (.inr e4)))
    have f0 : (0 == g) = false := by simp; omega
    have f1 : (1 == g) = false := by simp; omega
    have f2 : (2 == g) = false := by simp; omega
    have f3 : (3 == g) = false := by simp; omega
    have f4 : (4 == g) = false := by simp; omega
    simp [List.find?, f0, f1, f2, f3, f4] at hg
  rcases hg4 with rfl | rfl | rfl | rfl | rfl
  · have hcs : globQ 0 = some (([[], [111, 112, 101, 110], [112, 97, 117, 115, 101, 100], [99, 108, 111, 115, 101, 100], [115, 104, 111, 119, 110]] : List (List UInt8)).map GQ.str) := by kernel_rfl
    rw [hcs] at hg
    cases hg
    exact glb_strs (name := (Rows.scoreInterruptedRow.laid[6]'(by decide)).1) (i := 6) (t := 129) (e := 9) (n := 5) h (by kernel_rfl) (by kernel_rfl) (by kernel_rfl) (by kernel_rfl) (by kernel_rfl) (by kernel_rfl) (by kernel_rfl)
  · have hcs : globQ 1 = some (Lib.pow10Tab.map fun z => GQ.int .u64 z) := by kernel_rfl
    rw [hcs] at hg
    cases hg
    exact glb_tab (name := (Rows.scoreInterruptedRow.laid[2]'(by decide)).1) (i := 2) (t := 232) (e := 97) (n := 20) h (by kernel_rfl) (by kernel_rfl) (by kernel_rfl) (by kernel_rfl) (by kernel_rfl) (by kernel_rfl) (by kernel_rfl)
  · have hcs : globQ 2 = some [GQ.anyInt .i64] := by kernel_rfl
    rw [hcs] at hg
    cases hg
    exact glb_int (t := 3) (zero := #[.int .i64 0]) hS (of_decide_eq_true (by kernel_rfl)) (by kernel_rfl) rfl (by kernel_rfl) (by kernel_rfl) (by kernel_rfl)
  · have hcs : globQ 3 = some [GQ.anyIface] := by kernel_rfl
    rw [hcs] at hg
    cases hg
    exact glb_iface (name := (Rows.scoreInterruptedRow.laid[5]'(by decide)).1) (d := (Rows.scoreInterruptedRow.laid[5]'(by decide)).2) (i := 5) (t := 107) (m := #[("Error", 112)]) h (by kernel_rfl) (by kernel_rfl) (by kernel_rfl) (by kernel_rfl)
  · have hcs : globQ 4 = some [GQ.anyIface] := by kernel_rfl
    rw [hcs] at hg
    cases hg
    exact glb_iface (name := (Rows.scoreInterruptedRow.laid[4]'(by decide)).1) (d := (Rows.scoreInterruptedRow.laid[4]'(by decide)).2) (i := 4) (t := 107) (m := #[("Error", 112)]) h (by kernel_rfl) (by kernel_rfl) (by kernel_rfl) (by kernel_rfl)
theorem scoreInterrupted_lifted (os : Os) (started : os.Started) (H : Type) (enc : TypeId × Value → H) :
    ReturnsInHanded {} Tryz.checked os 6 .any (fun w args => (Rows.scoreInterruptedSpec.pre enc Tryz.prog Tryz.f6 [] false w args ∧ laidMetH Tryz.prog Rows.scoreInterruptedRow.laid w) ∧ sizedMet enc Tryz.prog Tryz.f6 (OpenSpec.ofChange Rows.scoreInterruptedSpec) false w args)
      (Rows.scoreInterruptedSpec.post enc Tryz.prog Tryz.f6 false true false false) := by
  refine law_laid (C := Tryz.checked) ctxOk (geval_sound KC ctxOk) rfl 6 Rows.scoreInterruptedRow.laid (fun W hS h => glb_known W hS h) own started (by kernel_rfl) laidOut Tryz.func6 rfl (fun ds hds => ?_) (tb := 4) rfl Tryz.underlying4 (by kernel_rfl)
    (ChangeSpec.witness_shaped (enc := enc) (C := Tryz.checked) (os := os) (X := fun w _ => laidMetH Tryz.prog Rows.scoreInterruptedRow.laid w) false (World.laidAll Tryz.prog os Rows.scoreInterruptedRow.laid) #[.slice none 0 0] 8 (World.laidAll_os _ _ _) (World.shaped_of_ZipB (by kernel_rfl) (by kernel_rfl)) (by kernel_rfl) (by kernel_rfl) (by kernel_rfl) (door_met os _)) ?_
  · match ds, hds with
    | [d1], _ => rfl
  · intro pvs h
    have e : Tryz.f6.params.toList = [26] := by kernel_rfl
    rw [e] at h
    obtain ⟨p1, pvs, rfl, h1, h⟩ := argsP_cons h
    obtain rfl := argsP_nil h
    obtain ⟨l, hl, rfl⟩ := shp_ints h1
    exact law6 l hl
theorem scoreInterrupted_row : Rows.ScoreInterruptedSaid :=
  OpenClaim.holds_of_wide 6 Tryz.f6 rfl rfl rfl rfl rfl rfl rfl ⟨rfl, rfl, rfl, rfl, rfl⟩ rfl rfl rfl rfl rfl (by kernel_rfl) Tryz.func6 (by kernel_rfl)
    (of_decide_eq_true (by kernel_rfl)) (by unfold Func.isWrapper; first | (rw [if_pos (by decide +kernel)]; kernel_rfl) | (rw [if_neg (by decide +kernel)]; exact ⟨rfl, rfl⟩))
    (fun os started H enc _ => scoreInterrupted_lifted os started H enc)
theorem scoreInterrupted_holds : Rows.ScoreInterruptedCardSaid :=
  Claim7.holds_tied_plain_at .later [] [.data, .data, .data, .data, .sentinel, .sentinel, .widerDeep, .pinned] true (true, Rows.scoreInterruptedCard.stood.harness.2) true
    scoreInterrupted_row (fun _ h => by cases h) (by kernel_rfl) (fun _ h => by cases h) scoreInterrupted_row_tie rfl ⟨rfl, rfl⟩ (by kernel_rfl) rfl
    (fun f fn hf hfn => by
      obtain rfl : f = 6 := Option.some.inj ((show Tryz.prog.funcNamed Rows.scoreInterruptedRow.func = some 6 by kernel_rfl).symm.trans hf) |>.symm
      obtain rfl : fn = Tryz.f6 := (Option.some.inj (Tryz.func6.symm.trans hfn)).symm
      exact ⟨by kernel_rfl, fun j t ht => by
        have e : Tryz.f6.params = #[26] := by kernel_rfl
        rw [e] at ht
        have hm : t ∈ [26] := by simpa using Array.mem_of_getElem? ht
        have hall : ([26].all fun u => !Tryz.prog.wantsStandIn u) = true := by kernel_rfl
        exact (show Tryz.prog.wantsStandIn t = false by simpa using List.all_eq_true.1 hall t hm)⟩)
    (by kernel_rfl)
#print axioms scoreInterrupted_holds
end Go.Proofs.YtgmohiojddnfgaaGreatDoor
