/-
  Proved here: HearthKnown returns true. No condition; the listed tables of numbers are tied to the program's text (the card).
-/
import Derived.Test.YtgmohiojddnfgaaDoorKl
import Derived.Test.YtgmohiojddnfgaaDoorLink2
import Derived.Test.YtgmohiojddnfgaaDoorTie
import Derived.Test.YtgmohiojddnfgaaDoorCards
namespace Go.Proofs.YtgmohiojddnfgaaDoor
open Go.Gh Go.RowKit Go.ChangeShapes Go.WideShapes
set_option maxRecDepth 100000

theorem own : ownKnob Tryd.prog.godebug = none := by kernel_rfl
theorem laidOut : laidOutB Tryd.prog = true := by kernel_rfl

theorem door_met (os : Os) (args : Array Value) : laidMetH Tryd.prog Rows.hearthKnownRow.laid ((World.doorLaid Tryd.prog 400 os).forCall (fun _ _ => 0) ⟨#[], args, []⟩).memory :=
  laidMetH_of_parts3 (fuel := 8) (laidMet_of_run' 8 (by kernel_rfl) (by kernel_rfl)) (by kernel_rfl) (by kernel_rfl)

theorem glb_known (W : World) (h : laidMetH Tryd.prog Rows.hearthKnownRow.laid W) : GlbRel W (S0 W) := by
  intro g cs hg
  rw [MakeChecks.laidMetH_plain _ _ _ (by kernel_rfl)] at h
  have hg1 : g = 1 := by
    unfold globQ globT at hg
    by_cases e : g = 1
    · exact e
    · have e2 : (1 == g) = false := by simp; omega
      simp [List.find?, e2] at hg
  subst hg1
  have hcs : globQ 1 = some (Lib.pow10Tab.map fun z => GQ.int .u64 z) := by kernel_rfl
  rw [hcs] at hg
  cases hg
  exact glb_tab (name := (Rows.hearthKnownRow.laid[2]'(by decide)).1) (i := 2) (t := 208) (e := 97) (n := 20) h (by kernel_rfl) (by kernel_rfl) (by kernel_rfl) (by kernel_rfl) (by kernel_rfl) (by kernel_rfl) (by kernel_rfl)

theorem argsP_nil {P : Program} {n : Nat} {pvs : List PV} (h : ArgsP P n [] pvs) : pvs = [] := by
  cases pvs with
  | nil => rfl
  | cons p ps => exact h.elim

theorem hearthKnown_lifted (os : Os) (started : os.Started) (H : Type) (enc : TypeId × Value → H) :
    ReturnsInHanded {} Tryd.checked os 3 .any (fun w args => (Rows.hearthKnownSpec.pre enc Tryd.prog Tryd.f3 [] false w args ∧ laidMetH Tryd.prog Rows.hearthKnownRow.laid w) ∧ sizedMet enc Tryd.prog Tryd.f3 (OpenSpec.ofChange Rows.hearthKnownSpec) false w args)
      (Rows.hearthKnownSpec.post enc Tryd.prog Tryd.f3 false true false false) := by
  refine law_laid (C := Tryd.checked) ctx1 (gexec_sound K1 ctx1 3000) rfl 6 Rows.hearthKnownRow.laid (fun W _ h => glb_known W h) own started (by kernel_rfl) laidOut Tryd.func3 rfl (fun ds hds => ?_) (tb := 4) rfl Tryd.underlying4 (by kernel_rfl)
    (ChangeSpec.witness_shaped (enc := enc) (C := Tryd.checked) (os := os) (X := fun w _ => laidMetH Tryd.prog Rows.hearthKnownRow.laid w) false (World.doorLaid Tryd.prog 400 os) #[] 8 rfl (World.shaped_of_RefB (by kernel_rfl) (by kernel_rfl)) (by kernel_rfl) (by kernel_rfl) (by kernel_rfl) (door_met os _)) ?_
  · match ds, hds with
    | [], _ => rfl
  · intro pvs h
    have e : Tryd.f3.params.toList = [] := by kernel_rfl
    rw [e] at h
    obtain rfl := argsP_nil h
    exact ⟨_, known_run⟩

theorem hearthKnown_row : Rows.HearthKnownSaid :=
  OpenClaim.holds_of_wide 3 Tryd.f3 rfl rfl rfl rfl rfl rfl rfl ⟨rfl, rfl, rfl, rfl, rfl⟩ rfl rfl rfl rfl rfl (by kernel_rfl) Tryd.func3 (by kernel_rfl)
    (of_decide_eq_true (by kernel_rfl)) (by unfold Func.isWrapper; first | (rw [if_pos (by decide +kernel)]; kernel_rfl) | (rw [if_neg (by decide +kernel)]; exact ⟨rfl, rfl⟩))
    (fun os started H enc _ => hearthKnown_lifted os started H enc)

theorem hearthKnown_holds : Rows.HearthKnownCardSaid :=
  Claim7.holds_tied_plain_at .later [] [.data, .data, .data] true (true, Rows.hearthKnownCard.stood.harness.2) true
    hearthKnown_row (fun _ h => by cases h) (by kernel_rfl) (fun _ h => by cases h) hearthKnown_row_tie rfl ⟨rfl, rfl⟩ (by kernel_rfl) rfl
    (fun f fn hf hfn => by
      obtain rfl : f = 3 := Option.some.inj ((show Tryd.prog.funcNamed Rows.hearthKnownRow.func = some 3 by kernel_rfl).symm.trans hf) |>.symm
      obtain rfl : fn = Tryd.f3 := (Option.some.inj (Tryd.func3.symm.trans hfn)).symm
      exact ⟨by kernel_rfl, fun j t ht => by
        have e : Tryd.f3.params = #[] := by kernel_rfl
        rw [e] at ht
        simp at ht⟩)
    (by kernel_rfl)
#print axioms hearthKnown_holds
end Go.Proofs.YtgmohiojddnfgaaDoor
