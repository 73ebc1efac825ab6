/-
  Proved here: RiteKnown returns true. No condition.
-/
import Derived.Test.YtkcmcjohoockcaaGc8j
import Derived.Test.YtkcmcjohoockcaaGc8l
namespace Go.Proofs.Ytkcmcjohoockcaa
open Go.Gh Go.RowKit
set_option maxRecDepth 100000
theorem o5 (os : Os) (started : os.Started) (H : Type) (enc : TypeId × Value → H) :
    ReturnsInHanded {} Try.checked os 8 .any (Rows.riteKnownSpec.pre6 enc Try.prog Try.f8 Rows.riteKnownRow.domain false) (Rows.riteKnownSpec.post enc Try.prog Try.f8 false true false false) := by
  refine yy (C := Try.checked) Rf rfl 6 own started (by kernel_rfl) laidOut Try.func8 rfl (fun ds hds => ?_) (tb := 4) rfl Try.underlying4 (by kernel_rfl)
    (ChangeSpec.witness6 (enc := enc) (C := Try.checked) false ⟨#[], #[], []⟩ 8 (by kernel_rfl) (by kernel_rfl) (by kernel_rfl) (by kernel_rfl)) ?_
  · match ds, hds with
    | [], _ => rfl
  · intro pvs h
    have e : Try.f8.params.toList = [] := by kernel_rfl
    rw [e] at h
    obtain rfl := A8 h
    exact UB
theorem riteKnown_holds : Rows.RiteKnownSaid :=
  OpenClaim.holds_of_wide 8 Try.f8 rfl rfl rfl rfl rfl rfl rfl ⟨rfl, rfl, rfl, rfl, rfl⟩ rfl rfl rfl rfl rfl (by kernel_rfl) Try.func8 (by kernel_rfl)
    (of_decide_eq_true (by kernel_rfl)) (by unfold Func.isWrapper; first | (rw [if_pos (by decide +kernel)]; kernel_rfl) | (rw [if_neg (by decide +kernel)]; exact ⟨rfl, rfl⟩))
    (fun os started H enc _ => o5 os started H enc)
#print axioms riteKnown_holds
end Go.Proofs.Ytkcmcjohoockcaa
