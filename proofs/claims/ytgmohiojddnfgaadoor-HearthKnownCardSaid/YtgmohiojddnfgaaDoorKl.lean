/- The run of HearthKnown over the told calls. -/
import Derived.Test.YtgmohiojddnfgaaDoorKt1
import Derived.Test.YtgmohiojddnfgaaDoorKt2
import Derived.Test.YtgmohiojddnfgaaDoorKt3
import Derived.Test.YtgmohiojddnfgaaDoorKt4
import Derived.Test.YtgmohiojddnfgaaDoorKt5
import Derived.Test.YtgmohiojddnfgaaDoorTold
namespace Go.Gh
open Go.Proofs
set_option maxRecDepth 100000

def tab11 : List (List PV × PV) := [tl11_0, tl11_1, tl11_2, tl11_3, tl11_4]
def tab15 : List (List PV × PV) := [tl15_0, tl15_1, tl15_2]
def tab40 : List (List PV × PV) := [tl40_0, tl40_1, tl40_2]
def ext1 : Nat → Option (List GV → Heap → Option (GV × Heap))
  | 11 => some (extTold tab11)
  | 12 => some (extTold [tl12_0])
  | 14 => some (extTold [tl14_0])
  | 15 => some (extTold tab15)
  | 40 => some (extTold tab40)
  | n => extH n
def cln1 (f : Nat) : Bool :=
  match f with
  | 11 => true
  | 12 => true
  | 14 => true
  | 15 => true
  | 40 => true
  | n => clnH n
noncomputable def K1 : Ctx := { KH with cln := cln1, ext := ext1 }

theorem told_all {f : FuncId} {tab : List (List PV × PV)} (h : ∀ x ∈ tab, gcall KH (gexec KH 3000) f (x.1.map .pure) 0 [[]] = some (.pure x.2, [[]])) : ExtOk Tryd.prog f (extTold tab) :=
  told_ext (K := KH) ctxH fun x hx => ⟨3000, [[]], h x hx⟩

theorem ext1_ok {f : Nat} {e : List GV → Heap → Option (GV × Heap)} (h : ext1 f = some e) : ExtOk Tryd.prog f e := by
  unfold ext1 at h
  split at h
  · cases h
    refine told_all fun x hx => ?_
    simp only [tab11, List.mem_cons, List.not_mem_nil, or_false] at hx
    rcases hx with rfl | rfl | rfl | rfl | rfl
    · exact tl11_0_ok
    · exact tl11_1_ok
    · exact tl11_2_ok
    · exact tl11_3_ok
    · exact tl11_4_ok
  · cases h
    refine told_all fun x hx => ?_
    simp only [List.mem_cons, List.not_mem_nil, or_false] at hx
    subst hx
    exact tl12_0_ok
  · cases h
    refine told_all fun x hx => ?_
    simp only [List.mem_cons, List.not_mem_nil, or_false] at hx
    subst hx
    exact tl14_0_ok
  · cases h
    refine told_all fun x hx => ?_
    simp only [tab15, List.mem_cons, List.not_mem_nil, or_false] at hx
    rcases hx with rfl | rfl | rfl
    · exact tl15_0_ok
    · exact tl15_1_ok
    · exact tl15_2_ok
  · cases h
    refine told_all fun x hx => ?_
    simp only [tab40, List.mem_cons, List.not_mem_nil, or_false] at hx
    rcases hx with rfl | rfl | rfl
    · exact tl40_0_ok
    · exact tl40_1_ok
    · exact tl40_2_ok
  · exact extH_ok h

theorem cln1_no {f : Nat} (h1 : cln1 f = true) (h2 : ext1 f = none) : False := by
  unfold cln1 at h1
  split at h1
  all_goals first | (cases h2; done) | skip
  rename_i n1 n2 n3 n4 n5
  have h3 : ext1 f = extH f := by
    unfold ext1
    split
    all_goals first | rfl | (exfalso; first | exact n1 rfl | exact n2 rfl | exact n3 rfl | exact n4 rfl | exact n5 rfl)
  exact clnH_no h1 (h3 ▸ h2)

theorem ctx1 : CtxOk K1 where
  cln := fun f h1 h2 => (cln1_no h1 h2).elim
  eqs := eqsH_ok
  mixed := ctxH.mixed
  ext := fun f e _ h => ext1_ok h

theorem known_run : gcall K1 (gexec K1 3000) 3 [] 0 [[]] = some (.pure (.bool true), [[]]) := by kernel_rfl
end Go.Gh
