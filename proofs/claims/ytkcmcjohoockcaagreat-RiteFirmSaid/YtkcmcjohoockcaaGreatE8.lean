/-
  Proved here: for every list of numbers RiteFirm returns true and leaves its argument as it was. No condition.
-/
import Derived.Test.YtkcmcjohoockcaaGreatGc8l
import Derived.Test.YtkcmcjohoockcaaGreatGc8m
namespace Go.Proofs.YtkcmcjohoockcaaGreat
open Go.Gh Go.RowKit
set_option maxRecDepth 100000
theorem uv (os : Os) (started : os.Started) (H : Type) (enc : TypeId × Value → H) :
    ReturnsInHanded {} Tryz.checked os 8 .any (Rows.riteFirmSpec.pre6 enc Tryz.prog Tryz.f8 Rows.riteFirmRow.domain false) (Rows.riteFirmSpec.post enc Tryz.prog Tryz.f8 false true false false) := by
  refine DT (C := Tryz.checked) ZV rfl 4 own started (by kernel_rfl) laidOut Tryz.func8 rfl (fun ds hds => ?_) (tb := 4) rfl Tryz.underlying4 (by kernel_rfl)
    (ChangeSpec.witness6 (enc := enc) (C := Tryz.checked) false ⟨#[], #[.slice none 0 0], []⟩ 8 (by kernel_rfl) (by kernel_rfl) (by kernel_rfl) (by kernel_rfl)) ?_
  · match ds, hds with
    | [d], _ => rfl
  · intro pvs h
    have e : Tryz.f8.params.toList = [24] := by kernel_rfl
    rw [e] at h
    obtain ⟨p1, pvs, rfl, h1, h⟩ := DU h
    obtain rfl := Gu h
    obtain ⟨nums, hl, rfl⟩ := IQ h1
    exact aci nums hl
theorem riteFirm_holds : Rows.RiteFirmSaid :=
  OpenClaim.holds_of_wide 8 Tryz.f8 rfl rfl rfl rfl rfl rfl rfl ⟨rfl, rfl, rfl, rfl, rfl⟩ rfl rfl rfl rfl rfl (by kernel_rfl) Tryz.func8 (by kernel_rfl)
    (of_decide_eq_true (by kernel_rfl)) (by unfold Func.isWrapper; first | (rw [if_pos (by decide +kernel)]; kernel_rfl) | (rw [if_neg (by decide +kernel)]; exact ⟨rfl, rfl⟩))
    (fun os started H enc _ => uv os started H enc)
#print axioms riteFirm_holds
end Go.Proofs.YtkcmcjohoockcaaGreat
