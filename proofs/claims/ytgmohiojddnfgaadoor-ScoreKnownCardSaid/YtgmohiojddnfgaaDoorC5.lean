/-
  Proved here: ScoreKnown returns true. No condition; the listed tables are tied to the program's text (the card).
-/
import Derived.Test.YtgmohiojddnfgaaDoorKl
import Derived.Test.YtgmohiojddnfgaaDoorLink2
import Derived.Test.YtgmohiojddnfgaaDoorTie
import Derived.Test.YtgmohiojddnfgaaDoorCards
namespace Go.Proofs.YtgmohiojddnfgaaDoor
open Go.Gh Go.RowKit Go.ChangeShapes Go.WideShapes
set_option maxRecDepth 100000

theorem own : ownKnob Tryd.prog.godebug = none := by kernel_rfl
theorem laidOut : laidOutB Tryd.prog = true := by kernel_rfl

theorem door_met (os : Os) (args : Array Value) : laidMetH Tryd.prog Rows.scoreKnownRow.laid ((World.doorLaid Tryd.prog 400 os).forCall (fun _ _ => 0) ⟨#[], args, []⟩).memory :=
  laidMetH_of_parts3 (fuel := 8) (laidMet_of_run' 8 (by kernel_rfl) (by kernel_rfl)) (by kernel_rfl) (by kernel_rfl)

theorem glb_known (W : World) (h : laidMetH Tryd.prog Rows.scoreKnownRow.laid W) : GlbRel W (S0 W) := by
  intro g cs hg
  rw [MakeChecks.laidMetH_plain _ _ _ (by kernel_rfl)] at h
  have hg1 : g = 0 ∨ g = 1 := by
    unfold globQ globT at hg
    by_cases e : g = 1
    · exact .inr e
    · by_cases e0 : g = 0
      · exact .inl e0
      · have e2 : (1 == g) = false := by simp; omega
        have e3 : (0 == g) = false := by simp; omega
        simp [List.find?, e2, e3] at hg
  rcases hg1 with rfl | rfl
  · have hcs : globQ 0 = some (([[], [111, 112, 101, 110], [112, 97, 117, 115, 101, 100], [99, 108, 111, 115, 101, 100], [115, 104, 111, 119, 110]] : List (List UInt8)).map GQ.str) := by kernel_rfl
    rw [hcs] at hg
    cases hg
    exact glb_strs (name := (Rows.scoreKnownRow.laid[3]'(by decide)).1) (i := 3) (t := 173) (e := 9) (n := 5) h (by kernel_rfl) (by kernel_rfl) (by kernel_rfl) (by kernel_rfl) (by kernel_rfl) (by kernel_rfl) (by kernel_rfl)
  · have hcs : globQ 1 = some (Lib.pow10Tab.map fun z => GQ.int .u64 z) := by kernel_rfl
    rw [hcs] at hg
    cases hg
    exact glb_tab (name := (Rows.scoreKnownRow.laid[2]'(by decide)).1) (i := 2) (t := 208) (e := 97) (n := 20) h (by kernel_rfl) (by kernel_rfl) (by kernel_rfl) (by kernel_rfl) (by kernel_rfl) (by kernel_rfl) (by kernel_rfl)

theorem argsP_nil {P : Program} {n : Nat} {pvs : List PV} (h : ArgsP P n [] pvs) : pvs = [] := by
  cases pvs with
  | nil => rfl
  | cons p ps => exact h.elim

theorem scoreKnown_lifted (os : Os) (started : os.Started) (H : Type) (enc : TypeId × Value → H) :
    ReturnsInHanded {} Tryd.checked os 5 .any (fun w args => (Rows.scoreKnownSpec.pre enc Tryd.prog Tryd.f5 [] false w args ∧ laidMetH Tryd.prog Rows.scoreKnownRow.laid w) ∧ sizedMet enc Tryd.prog Tryd.f5 (OpenSpec.ofChange Rows.scoreKnownSpec) false w args)
      (Rows.scoreKnownSpec.post enc Tryd.prog Tryd.f5 false true false false) := by
  refine law_laid (C := Tryd.checked) ctx1 (gexec_sound K1 ctx1 3000) rfl 6 Rows.scoreKnownRow.laid (fun W _ h => glb_known W h) own started (by kernel_rfl) laidOut Tryd.func5 rfl (fun ds hds => ?_) (tb := 4) rfl Tryd.underlying4 (by kernel_rfl)
    (ChangeSpec.witness_shaped (enc := enc) (C := Tryd.checked) (os := os) (X := fun w _ => laidMetH Tryd.prog Rows.scoreKnownRow.laid w) false (World.doorLaid Tryd.prog 400 os) #[] 8 rfl (World.shaped_of_RefB (by kernel_rfl) (by kernel_rfl)) (by kernel_rfl) (by kernel_rfl) (by kernel_rfl) (door_met os _)) ?_
  · match ds, hds with
    | [], _ => rfl
  · intro pvs h
    have e : Tryd.f5.params.toList = [] := by kernel_rfl
    rw [e] at h
    obtain rfl := argsP_nil h
    exact ⟨_, known_run⟩

theorem scoreKnown_row : Rows.ScoreKnownSaid :=
  OpenClaim.holds_of_wide 5 Tryd.f5 rfl rfl rfl rfl rfl rfl rfl ⟨rfl, rfl, rfl, rfl, rfl⟩ rfl rfl rfl rfl rfl (by kernel_rfl) Tryd.func5 (by kernel_rfl)
    (of_decide_eq_true (by kernel_rfl)) (by unfold Func.isWrapper; first | (rw [if_pos (by decide +kernel)]; kernel_rfl) | (rw [if_neg (by decide +kernel)]; exact ⟨rfl, rfl⟩))
    (fun os started H enc _ => scoreKnown_lifted os started H enc)

theorem scoreKnown_holds : Rows.ScoreKnownCardSaid :=
  Claim7.holds_tied_plain_at .later [] [.data, .data, .data, .widerDeep] true (true, Rows.scoreKnownCard.stood.harness.2) true
    scoreKnown_row (fun _ h => by cases h) (by kernel_rfl) (fun _ h => by cases h) scoreKnown_row_tie rfl ⟨rfl, rfl⟩ (by kernel_rfl) rfl
    (fun f fn hf hfn => by
      obtain rfl : f = 5 := Option.some.inj ((show Tryd.prog.funcNamed Rows.scoreKnownRow.func = some 5 by kernel_rfl).symm.trans hf) |>.symm
      obtain rfl : fn = Tryd.f5 := (Option.some.inj (Tryd.func5.symm.trans hfn)).symm
      exact ⟨by kernel_rfl, fun j t ht => by
        have e : Tryd.f5.params = #[] := by kernel_rfl
        rw [e] at ht
        simp at ht⟩)
    (by kernel_rfl)
#print axioms scoreKnown_holds
end Go.Proofs.YtgmohiojddnfgaaDoor
