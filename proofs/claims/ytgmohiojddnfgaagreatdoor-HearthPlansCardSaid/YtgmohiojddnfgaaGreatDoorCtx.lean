/- The seat's context is all right. -/
import Derived.Test.YtgmohiojddnfgaaGreatDoorBase
import Derived.Test.YtgmohiojddnfgaaGreatDoorKh
namespace Go.Gh
open Go.Proofs
set_option linter.unusedSimpArgs false
set_option linter.unusedVariables false
set_option maxRecDepth 100000
theorem awake_run : ∃ n H', gcall KH (gexec KH n) 8 [] 0 [[]] = some (.pure (.bool true), H') := ⟨1000, [[]], by kernel_rfl⟩
theorem ext_ok {f : Nat} {e : List GV → Heap → Option (GV × Heap)} (h : extOf f = some e) : ExtOk Tryz.prog f e := by
  unfold extOf at h
  split at h
  all_goals cases h
  · exact itoa_ext (ρ := Tryz.laysM171_ren) Tryz.laysM171 (by kernel_rfl)
  · exact atoi_ext (ρ := Tryz.laysC172_ren) Tryz.laysC172 (by kernel_rfl) (by kernel_rfl)
  · exact split_ext (ρ := Tryz.lays146_ren) Tryz.lays146 (by kernel_rfl) (by kernel_rfl)
  · exact copy_ext (ρ := Tryz.lays240_ren) Tryz.lays240 Tryz.builderX
  · refine told_ext ctxH fun x hx => ?_
    rw [List.mem_singleton] at hx
    subst hx
    exact awake_run
theorem ctxOk : CtxOk KC where
  cln := fun f h1 h2 => by
    have h1' : clnL.contains f = true := h1
    have h2' : extOf f = none := h2
    simp [clnL] at h1'
    rcases h1' with rfl | rfl | rfl | rfl | rfl <;> exact absurd h2' (by simp [extOf])
  eqs := fun t ks h => by
    have h' : eqsOf t = some ks := h
    unfold eqsOf at h'
    split at h'
    · cases h'; exact eqOk_of (P := Tryz.prog) 5 (by omega) (by kernel_rfl) (by kernel_rfl) (by kernel_rfl)
    · cases h'; exact eqOk_of (P := Tryz.prog) 5 (by omega) (by kernel_rfl) (by kernel_rfl) (by kernel_rfl)
    · cases h'
  mixed := by kernel_rfl
  ext := fun f e _ h => ext_ok h
end Go.Gh
