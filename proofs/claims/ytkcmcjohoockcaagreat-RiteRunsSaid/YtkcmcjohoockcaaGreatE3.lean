/-
  Proved here: for every rite, act, three numbers and list of numbers RiteRuns returns true and leaves its arguments as they were. No condition.
-/
import Derived.Test.YtkcmcjohoockcaaGreatGc3j
import Derived.Test.YtkcmcjohoockcaaGreatGc3l
namespace Go.Proofs.YtkcmcjohoockcaaGreat
open Go.Gh Go.RowKit
set_option maxRecDepth 100000
theorem riteRuns_lifted (os : Os) (started : os.Started) (H : Type) (enc : TypeId × Value → H) :
    ReturnsInHanded {} Tryz.checked os 3 .any (Rows.riteRunsSpec.pre6 enc Tryz.prog Tryz.f3 Rows.riteRunsRow.domain false) (Rows.riteRunsSpec.post enc Tryz.prog Tryz.f3 false true false false) := by
  refine law_lifted (C := Tryz.checked) ctxOk rfl 6 own started (by kernel_rfl) laidOut Tryz.func3 rfl (fun ds hds => ?_) (tb := 4) rfl Tryz.underlying4 (by kernel_rfl)
    (ChangeSpec.witness6 (enc := enc) (C := Tryz.checked) false ⟨#[], #[.agg #[.int .i64 0, .int .i64 0, .slice none 0 0, .slice none 0 0, .slice none 0 0, .slice none 0 0, .slice none 0 0], .agg #[.int .i64 0, .int .i64 0, .int .i64 0, .int .i64 0, .int .i64 0, .int .i64 0, .int .i64 0, .int .i64 0, .int .i64 0], .int .i64 0, .int .i64 0, .int .i64 0, .slice none 0 0], []⟩ 14 (by kernel_rfl) (by kernel_rfl) (by kernel_rfl) (by kernel_rfl)) ?_
  · have hds' : ds.length = 6 := hds.trans (by kernel_rfl)
    clear hds
    match ds, hds' with
    | [d1, d2, d3, d4, d5, d6], _ => rfl
  · intro pvs h
    have e : Tryz.f3.params.toList = [27, 29, 3, 3, 3, 24] := by kernel_rfl
    rw [e] at h
    obtain ⟨p1, pvs, rfl, h1, h⟩ := argsP_cons h
    obtain ⟨p2, pvs, rfl, h2, h⟩ := argsP_cons h
    obtain ⟨p3, pvs, rfl, h3, h⟩ := argsP_cons h
    obtain ⟨p4, pvs, rfl, h4, h⟩ := argsP_cons h
    obtain ⟨p5, pvs, rfl, h5, h⟩ := argsP_cons h
    obtain ⟨p6, pvs, rfl, h6, h⟩ := argsP_cons h
    obtain rfl := argsP_nil h
    obtain ⟨r, rfl⟩ := arg_rite h1
    obtain ⟨a, rfl⟩ := arg_act h2
    obtain ⟨n, rfl⟩ := arg_int h3
    obtain ⟨n2, rfl⟩ := arg_int h4
    obtain ⟨n3, rfl⟩ := arg_int h5
    obtain ⟨nums, hl, rfl⟩ := arg_ints h6
    exact law3 r a n n2 n3 nums hl
theorem riteRuns_holds : Rows.RiteRunsSaid :=
  OpenClaim.holds_of_wide 3 Tryz.f3 rfl rfl rfl rfl rfl rfl rfl ⟨rfl, rfl, rfl, rfl, rfl⟩ rfl rfl rfl rfl rfl (by kernel_rfl) Tryz.func3 (by kernel_rfl)
    (of_decide_eq_true (by kernel_rfl)) (by unfold Func.isWrapper; first | (rw [if_pos (by decide +kernel)]; kernel_rfl) | (rw [if_neg (by decide +kernel)]; exact ⟨rfl, rfl⟩))
    (fun os started H enc _ => riteRuns_lifted os started H enc)
#print axioms riteRuns_holds
end Go.Proofs.YtkcmcjohoockcaaGreat
