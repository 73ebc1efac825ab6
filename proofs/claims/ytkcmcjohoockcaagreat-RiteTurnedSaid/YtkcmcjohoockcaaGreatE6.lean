/-
  Proved here: for every list of numbers RiteTurned returns true and leaves its argument as it was. No condition.
-/
import Derived.Test.YtkcmcjohoockcaaGreatGc6k
import Derived.Test.YtkcmcjohoockcaaGreatGc6m
namespace Go.Proofs.YtkcmcjohoockcaaGreat
open Go.Gh Go.RowKit
set_option maxRecDepth 100000
theorem sr (os : Os) (started : os.Started) (H : Type) (enc : TypeId × Value → H) :
    ReturnsInHanded {} Tryz.checked os 6 .any (Rows.riteTurnedSpec.pre6 enc Tryz.prog Tryz.f6 Rows.riteTurnedRow.domain false) (Rows.riteTurnedSpec.post enc Tryz.prog Tryz.f6 false true false false) := by
  refine Dy (C := Tryz.checked) aaJ rfl 4 own started (by kernel_rfl) laidOut Tryz.func6 rfl (fun ds hds => ?_) (tb := 4) rfl Tryz.underlying4 (by kernel_rfl)
    (ChangeSpec.witness6 (enc := enc) (C := Tryz.checked) false ⟨#[], #[.slice none 0 0], []⟩ 8 (by kernel_rfl) (by kernel_rfl) (by kernel_rfl) (by kernel_rfl)) ?_
  · match ds, hds with
    | [d], _ => rfl
  · intro pvs h
    have e : Tryz.f6.params.toList = [24] := by kernel_rfl
    rw [e] at h
    obtain ⟨p1, pvs, rfl, h1, h⟩ := Cr h
    obtain rfl := Fc h
    obtain ⟨nums, hl, rfl⟩ := H7 h1
    exact acf nums hl
theorem riteTurned_holds : Rows.RiteTurnedSaid :=
  OpenClaim.holds_of_wide 6 Tryz.f6 rfl rfl rfl rfl rfl rfl rfl ⟨rfl, rfl, rfl, rfl, rfl⟩ rfl rfl rfl rfl rfl (by kernel_rfl) Tryz.func6 (by kernel_rfl)
    (of_decide_eq_true (by kernel_rfl)) (by unfold Func.isWrapper; first | (rw [if_pos (by decide +kernel)]; kernel_rfl) | (rw [if_neg (by decide +kernel)]; exact ⟨rfl, rfl⟩))
    (fun os started H enc _ => sr os started H enc)
#print axioms riteTurned_holds
end Go.Proofs.YtkcmcjohoockcaaGreat
