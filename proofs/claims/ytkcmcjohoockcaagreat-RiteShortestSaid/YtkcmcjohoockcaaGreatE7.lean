/-
  Proved here: for every list of numbers RiteShortest returns true and leaves its argument as it was. No condition.
-/
import Derived.Test.YtkcmcjohoockcaaGreatGc7l
import Derived.Test.YtkcmcjohoockcaaGreatGc7m
namespace Go.Proofs.YtkcmcjohoockcaaGreat
open Go.Gh Go.RowKit
set_option maxRecDepth 100000
theorem pN (os : Os) (started : os.Started) (H : Type) (enc : TypeId × Value → H) :
    ReturnsInHanded {} Tryz.checked os 7 .any (Rows.riteShortestSpec.pre6 enc Tryz.prog Tryz.f7 Rows.riteShortestRow.domain false) (Rows.riteShortestSpec.post enc Tryz.prog Tryz.f7 false true false false) := by
  refine CO (C := Tryz.checked) ZL rfl 4 own started (by kernel_rfl) laidOut Tryz.func7 rfl (fun ds hds => ?_) (tb := 4) rfl Tryz.underlying4 (by kernel_rfl)
    (ChangeSpec.witness6 (enc := enc) (C := Tryz.checked) false ⟨#[], #[.slice none 0 0], []⟩ 8 (by kernel_rfl) (by kernel_rfl) (by kernel_rfl) (by kernel_rfl)) ?_
  · match ds, hds with
    | [d], _ => rfl
  · intro pvs h
    have e : Tryz.f7.params.toList = [24] := by kernel_rfl
    rw [e] at h
    obtain ⟨p1, pvs, rfl, h1, h⟩ := Dn h
    obtain rfl := FX h
    obtain ⟨nums, hl, rfl⟩ := IH h1
    exact aca nums hl
theorem riteShortest_holds : Rows.RiteShortestSaid :=
  OpenClaim.holds_of_wide 7 Tryz.f7 rfl rfl rfl rfl rfl rfl rfl ⟨rfl, rfl, rfl, rfl, rfl⟩ rfl rfl rfl rfl rfl (by kernel_rfl) Tryz.func7 (by kernel_rfl)
    (of_decide_eq_true (by kernel_rfl)) (by unfold Func.isWrapper; first | (rw [if_pos (by decide +kernel)]; kernel_rfl) | (rw [if_neg (by decide +kernel)]; exact ⟨rfl, rfl⟩))
    (fun os started H enc _ => pN os started H enc)
#print axioms riteShortest_holds
end Go.Proofs.YtkcmcjohoockcaaGreat
