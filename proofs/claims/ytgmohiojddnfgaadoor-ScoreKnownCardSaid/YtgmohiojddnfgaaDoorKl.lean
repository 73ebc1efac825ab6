/- The run of ScoreKnown over the told calls. -/
import Derived.Test.YtgmohiojddnfgaaDoorKt1
import Derived.Test.YtgmohiojddnfgaaDoorKt2
import Derived.Test.YtgmohiojddnfgaaDoorTold
namespace Go.Gh
open Go.Proofs
set_option maxRecDepth 100000

def tab27 : List (List PV × PV) := [tl27_0, tl27_1, tl27_2, tl27_3]
def ext1 : Nat → Option (List GV → Heap → Option (GV × Heap))
  | 25 => some (extTold [tl25_0])
  | 27 => some (extTold tab27)
  | 29 => some (extTold [tl29_0])
  | n => extS n
def cln1 (f : Nat) : Bool :=
  match f with
  | 25 => true
  | 27 => true
  | 29 => true
  | n => clnS n
noncomputable def K1 : Ctx := { KS with cln := cln1, ext := ext1 }

theorem told_all {f : FuncId} {tab : List (List PV × PV)} (h : ∀ x ∈ tab, gcall KS (gexec KS 3000) f (x.1.map .pure) 0 [[]] = some (.pure x.2, [[]])) : ExtOk Tryd.prog f (extTold tab) :=
  told_ext (K := KS) ctxS fun x hx => ⟨3000, [[]], h x hx⟩

theorem ext1_ok {f : Nat} {e : List GV → Heap → Option (GV × Heap)} (h : ext1 f = some e) : ExtOk Tryd.prog f e := by
  unfold ext1 at h
  split at h
  · cases h
    refine told_all fun x hx => ?_
    simp only [List.mem_cons, List.not_mem_nil, or_false] at hx
    subst hx
    exact tl25_0_ok
  · cases h
    refine told_all fun x hx => ?_
    simp only [tab27, List.mem_cons, List.not_mem_nil, or_false] at hx
    rcases hx with rfl | rfl | rfl | rfl
    · exact tl27_0_ok
    · exact tl27_1_ok
    · exact tl27_2_ok
    · exact tl27_3_ok
  · cases h
    refine told_all fun x hx => ?_
    simp only [List.mem_cons, List.not_mem_nil, or_false] at hx
    subst hx
    exact tl29_0_ok
  · exact extS_ok h

theorem cln1_no {f : Nat} (h1 : cln1 f = true) (h2 : ext1 f = none) : False := by
  unfold cln1 at h1
  split at h1
  all_goals first | (cases h2; done) | skip
  rename_i n1 n2 n3
  have h3 : ext1 f = extS f := by
    unfold ext1
    split
    all_goals first | rfl | (exfalso; first | exact n1 rfl | exact n2 rfl | exact n3 rfl)
  exact clnS_no h1 (h3 ▸ h2)

theorem ctx1 : CtxOk K1 where
  cln := fun f h1 h2 => (cln1_no h1 h2).elim
  eqs := eqsS_ok
  mixed := ctxS.mixed
  ext := fun f e _ h => ext1_ok h

theorem known_run : gcall K1 (gexec K1 3000) 5 [] 0 [[]] = some (.pure (.bool true), [[]]) := by kernel_rfl
end Go.Gh
