/-
  Proved here: for every rite, two numbers and list of numbers RiteMends returns true and leaves its arguments as they were. No condition.
-/
import Derived.Test.YtkcmcjohoockcaaGreatGc5m
import Derived.Test.YtkcmcjohoockcaaGreatGc5n
namespace Go.Proofs.YtkcmcjohoockcaaGreat
open Go.Gh Go.RowKit
set_option maxRecDepth 100000
theorem ur (os : Os) (started : os.Started) (H : Type) (enc : TypeId × Value → H) :
    ReturnsInHanded {} Tryz.checked os 5 .any (Rows.riteMendsSpec.pre6 enc Tryz.prog Tryz.f5 Rows.riteMendsRow.domain false) (Rows.riteMendsSpec.post enc Tryz.prog Tryz.f5 false true false false) := by
  refine Ep (C := Tryz.checked) ad4 rfl 4 own started (by kernel_rfl) laidOut Tryz.func5 rfl (fun ds hds => ?_) (tb := 4) rfl Tryz.underlying4 (by kernel_rfl)
    (ChangeSpec.witness6 (enc := enc) (C := Tryz.checked) false ⟨#[], #[.agg #[.int .i64 0, .int .i64 0, .slice none 0 0, .slice none 0 0, .slice none 0 0, .slice none 0 0, .slice none 0 0], .int .i64 0, .int .i64 0, .slice none 0 0], []⟩ 14 (by kernel_rfl) (by kernel_rfl) (by kernel_rfl) (by kernel_rfl)) ?_
  · have hds' : ds.length = 4 := hds.trans (by kernel_rfl)
    clear hds
    match ds, hds' with
    | [d1, d2, d3, d4], _ => rfl
  · intro pvs h
    have e : Tryz.f5.params.toList = [27, 3, 3, 24] := by kernel_rfl
    rw [e] at h
    obtain ⟨p1, pvs, rfl, h1, h⟩ := nN h
    obtain ⟨p2, pvs, rfl, h2, h⟩ := nN h
    obtain ⟨p3, pvs, rfl, h3, h⟩ := nN h
    obtain ⟨p4, pvs, rfl, h4, h⟩ := nN h
    obtain rfl := G5 h
    obtain ⟨r, rfl⟩ := JP h1
    obtain ⟨n, rfl⟩ := Fz h2
    obtain ⟨n2, rfl⟩ := Fz h3
    obtain ⟨nums, hl, rfl⟩ := JQ h4
    exact af4 r n n2 nums hl
theorem riteMends_holds : Rows.RiteMendsSaid :=
  OpenClaim.holds_of_wide 5 Tryz.f5 rfl rfl rfl rfl rfl rfl rfl ⟨rfl, rfl, rfl, rfl, rfl⟩ rfl rfl rfl rfl rfl (by kernel_rfl) Tryz.func5 (by kernel_rfl)
    (of_decide_eq_true (by kernel_rfl)) (by unfold Func.isWrapper; first | (rw [if_pos (by decide +kernel)]; kernel_rfl) | (rw [if_neg (by decide +kernel)]; exact ⟨rfl, rfl⟩))
    (fun os started H enc _ => ur os started H enc)
#print axioms riteMends_holds
end Go.Proofs.YtkcmcjohoockcaaGreat
