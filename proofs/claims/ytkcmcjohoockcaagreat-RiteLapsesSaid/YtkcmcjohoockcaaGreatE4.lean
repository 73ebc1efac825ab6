/-
  Proved here: for every rite, two numbers, list of acts and list of numbers RiteLapses returns true and leaves its arguments as they were. No condition.
-/
import Derived.Test.YtkcmcjohoockcaaGreatGc4m
import Derived.Test.YtkcmcjohoockcaaGreatGc4n
namespace Go.Proofs.YtkcmcjohoockcaaGreat
open Go.Gh Go.RowKit
set_option maxRecDepth 100000
theorem Kk {n : Nat} {p : PV} (h : uM Tryz.prog (n + 3) 25 p) : ∃ l : List Gh.ak, l.length ≤ maxLen ∧ p = .slice (l.map Gh.ak.row) := by
  unfold uM at h
  rw [Tryz.underlying25] at h
  simp only at h
  obtain ⟨l, hl, e⟩ := BR h
  simp at e
  exact ⟨l, hl, e⟩
theorem sH (os : Os) (started : os.Started) (H : Type) (enc : TypeId × Value → H) :
    ReturnsInHanded {} Tryz.checked os 4 .any (Rows.riteLapsesSpec.pre6 enc Tryz.prog Tryz.f4 Rows.riteLapsesRow.domain false) (Rows.riteLapsesSpec.post enc Tryz.prog Tryz.f4 false true false false) := by
  refine Cx (C := Tryz.checked) aam rfl 5 own started (by kernel_rfl) laidOut Tryz.func4 rfl (fun ds hds => ?_) (tb := 4) rfl Tryz.underlying4 (by kernel_rfl)
    (ChangeSpec.witness6 (enc := enc) (C := Tryz.checked) false ⟨#[], #[.agg #[.int .i64 0, .int .i64 0, .slice none 0 0, .slice none 0 0, .slice none 0 0, .slice none 0 0, .slice none 0 0], .int .i64 0, .int .i64 0, .slice none 0 0, .slice none 0 0], []⟩ 14 (by kernel_rfl) (by kernel_rfl) (by kernel_rfl) (by kernel_rfl)) ?_
  · have hds' : ds.length = 5 := hds.trans (by kernel_rfl)
    clear hds
    match ds, hds' with
    | [d1, d2, d3, d4, d5], _ => rfl
  · intro pvs h
    have e : Tryz.f4.params.toList = [27, 3, 3, 25, 24] := by kernel_rfl
    rw [e] at h
    obtain ⟨p1, pvs, rfl, h1, h⟩ := lH h
    obtain ⟨p2, pvs, rfl, h2, h⟩ := lH h
    obtain ⟨p3, pvs, rfl, h3, h⟩ := lH h
    obtain ⟨p4, pvs, rfl, h4, h⟩ := lH h
    obtain ⟨p5, pvs, rfl, h5, h⟩ := lH h
    obtain rfl := GO h
    obtain ⟨r, rfl⟩ := Jn h1
    obtain ⟨n, rfl⟩ := ET h2
    obtain ⟨n2, rfl⟩ := ET h3
    obtain ⟨ai, hl4, rfl⟩ := Kk h4
    obtain ⟨nums, hl, rfl⟩ := Jo h5
    exact adV r n n2 ai nums hl4 hl
theorem riteLapses_holds : Rows.RiteLapsesSaid :=
  OpenClaim.holds_of_wide 4 Tryz.f4 rfl rfl rfl rfl rfl rfl rfl ⟨rfl, rfl, rfl, rfl, rfl⟩ rfl rfl rfl rfl rfl (by kernel_rfl) Tryz.func4 (by kernel_rfl)
    (of_decide_eq_true (by kernel_rfl)) (by unfold Func.isWrapper; first | (rw [if_pos (by decide +kernel)]; kernel_rfl) | (rw [if_neg (by decide +kernel)]; exact ⟨rfl, rfl⟩))
    (fun os started H enc _ => sH os started H enc)
#print axioms riteLapses_holds
end Go.Proofs.YtkcmcjohoockcaaGreat
