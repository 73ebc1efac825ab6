/-
  Proved here: for every list of numbers TopSame returns true and leaves its argument as it was. No condition.
-/
import Derived.Test.YthcpepcmnmlmeaaGc3j
import Derived.Test.YthcpepcmnmlmeaaGc3k
namespace Go.Proofs.Ythcpepcmnmlmeaa
open Go.Gh Go.RowKit
set_option maxRecDepth 100000
theorem topSame_lifted (os : Os) (started : os.Started) (H : Type) (enc : TypeId × Value → H) :
    ReturnsInHanded {} Try.checked os 3 .any (Rows.topSameSpec.pre6 enc Try.prog Try.f3 Rows.topSameRow.domain false) (Rows.topSameSpec.post enc Try.prog Try.f3 false true false false) := by
  refine law_lifted (C := Try.checked) ctxOk (geval_sound KC ctxOk) rfl (fun W g cs h => by simp [globQ, globT] at h) 6 own started (by kernel_rfl) laidOut Try.func3 rfl (fun ds hds => ?_) (tb := 4) rfl Try.underlying4 (by kernel_rfl)
    (ChangeSpec.witness6 (enc := enc) (C := Try.checked) false ⟨#[], #[.slice none 0 0], []⟩ 8 (by kernel_rfl) (by kernel_rfl) (by kernel_rfl) (by kernel_rfl)) ?_
  · match ds, hds with
    | [d], _ => rfl
  · intro pvs h
    have e : Try.f3.params.toList = [22] := by kernel_rfl
    rw [e] at h
    obtain ⟨p1, pvs, rfl, h1, h⟩ := argsP_cons h
    obtain rfl := argsP_nil h
    obtain ⟨nums, hl, rfl⟩ := arg_ints h1
    exact law3 nums hl
theorem topSame_holds : Rows.TopSameSaid :=
  OpenClaim.holds_of_wide 3 Try.f3 rfl rfl rfl rfl rfl rfl rfl ⟨rfl, rfl, rfl, rfl, rfl⟩ rfl rfl rfl rfl rfl (by kernel_rfl) Try.func3 (by kernel_rfl)
    (of_decide_eq_true (by kernel_rfl)) (by unfold Func.isWrapper; first | (rw [if_pos (by decide +kernel)]; kernel_rfl) | (rw [if_neg (by decide +kernel)]; exact ⟨rfl, rfl⟩))
    (fun os started H enc _ => topSame_lifted os started H enc)
#print axioms topSame_holds
end Go.Proofs.Ythcpepcmnmlmeaa
