/- The program's stages: copies, the first one, the order at the end. -/
import Derived.Test.YtkcmcjohoockcaaRg
import Derived.Test.YtkcmcjohoockcaaRf
import Derived.Test.YtkcmcjohoockcaaRe
namespace Go.Gh
open Go.Proofs
set_option linter.unusedSimpArgs false
set_option linter.unusedVariables false
set_option linter.unnecessarySimpa false
set_option maxRecDepth 100000
set_option maxHeartbeats 4000000
variable {c : Nat} {H : Heap}
theorem gcall_cln0 {K : Ctx} {rec : Rec} {f : FuncId} {args : List GV} (h1 : emptyArg args = false) (h2 : K.bor f = false) (h3 : K.frz f = false) : gcall K rec f args c H = gcall0 K rec f args c H := by
  unfold gcall
  simp [h1, h2, h3]
section
variable {x : List PV} {l : List (List PV)}
theorem nil22 : gnilEq KC .eql 22 (.pure (.slice (x :: l))) = some (.bool false) := by
  unfold gnilEq; rw [KC_P, Try.underlying22]; rfl
theorem nil23 : gnilEq KC .eql 23 (.pure (.slice (x :: l))) = some (.bool false) := by
  unfold gnilEq; rw [KC_P, Try.underlying23]; rfl
theorem nil24 : gnilEq KC .eql 24 (.pure (.slice (x :: l))) = some (.bool false) := by
  unfold gnilEq; rw [KC_P, Try.underlying24]; rfl
theorem nil25 : gnilEq KC .eql 25 (.pure (.slice (x :: l))) = some (.bool false) := by
  unfold gnilEq; rw [KC_P, Try.underlying25]; rfl
theorem nil45 : gnilEq KC .eql 45 (.pure (.slice (x :: l))) = some (.bool false) := by
  unfold gnilEq; rw [KC_P, Try.underlying45]; rfl
theorem nil46 : gnilEq KC .eql 46 (.pure (.slice (x :: l))) = some (.bool false) := by
  unfold gnilEq; rw [KC_P, Try.underlying46]; rfl
end
theorem cloneint_ok (l : List Int) (h0 : l ≠ []) (hn : l.length ≤ 1000000) (hH : 0 < H.length) (hf : H.get (H.length - 1, newKey c 7) = none) :
    gcall KC (geval KC) 75 [.pure (.slice (l.map irow))] c H = some (.hdr (H.length - 1, newKey c 7) 1 l.length 0 l.length, H.set (H.length - 1, newKey c 7) (.arr 1 (l.map irow) 0 false)) := by
  obtain ⟨x, l', rfl⟩ := List.exists_cons_of_ne_nil h0
  have hb : (l'.length + 1) * 8 ≤ 1099511627776 := by simp at hn; omega
  have hall : ∀ x : Int, (irow x).length = 1 := fun x => rfl
  have hnl : ¬ H.length + 1 ≤ H.length := by omega
  rw [gcall_cln0 rfl rfl rfl]
  refine WPv_eq (call_enter0 KC needT Try.func75 rfl rfl good75 (by simp) hH ?_)
  simp [nil22, nil23, nil24, nil25, nil45, nil46, hb, hall, hnl, gleave_keep, refs, refs2, refs1, dedup, moveOut, cleanBlk, hf, ren, ren2, ren1]
theorem clonePerson_ok (l : List Person) (h0 : l ≠ []) (hn : l.length ≤ 1000000) (hH : 0 < H.length) (hf : H.get (H.length - 1, newKey c 7) = none) :
    gcall KC (geval KC) 78 [.pure (.slice (l.map Person.row))] c H = some (.hdr (H.length - 1, newKey c 7) 2 l.length 0 l.length, H.set (H.length - 1, newKey c 7) (.arr 2 (l.map Person.row) 0 false)) := by
  obtain ⟨x, l', rfl⟩ := List.exists_cons_of_ne_nil h0
  have hb : (l'.length + 1) * 16 ≤ 1099511627776 := by simp at hn; omega
  have hall : ∀ x : Person, (Person.row x).length = 2 := fun x => rfl
  have hnl : ¬ H.length + 1 ≤ H.length := by omega
  rw [gcall_cln0 rfl rfl rfl]
  refine WPv_eq (call_enter0 KC needT Try.func78 rfl rfl good78 (by simp) hH ?_)
  simp [nil22, nil23, nil24, nil25, nil45, nil46, hb, hall, hnl, gleave_keep, refs, refs2, refs1, dedup, moveOut, cleanBlk, hf, ren, ren2, ren1]
theorem cloneThing_ok (l : List Thing) (h0 : l ≠ []) (hn : l.length ≤ 1000000) (hH : 0 < H.length) (hf : H.get (H.length - 1, newKey c 7) = none) :
    gcall KC (geval KC) 79 [.pure (.slice (l.map Thing.row))] c H = some (.hdr (H.length - 1, newKey c 7) 5 l.length 0 l.length, H.set (H.length - 1, newKey c 7) (.arr 5 (l.map Thing.row) 0 false)) := by
  obtain ⟨x, l', rfl⟩ := List.exists_cons_of_ne_nil h0
  have hb : (l'.length + 1) * 40 ≤ 1099511627776 := by simp at hn; omega
  have hall : ∀ x : Thing, (Thing.row x).length = 5 := fun x => rfl
  have hnl : ¬ H.length + 1 ≤ H.length := by omega
  rw [gcall_cln0 rfl rfl rfl]
  refine WPv_eq (call_enter0 KC needT Try.func79 rfl rfl good79 (by simp) hH ?_)
  simp [nil22, nil23, nil24, nil25, nil45, nil46, hb, hall, hnl, gleave_keep, refs, refs2, refs1, dedup, moveOut, cleanBlk, hf, ren, ren2, ren1]
theorem cloneAct_ok (l : List RAct) (h0 : l ≠ []) (hn : l.length ≤ 1000000) (hH : 0 < H.length) (hf : H.get (H.length - 1, newKey c 7) = none) :
    gcall KC (geval KC) 80 [.pure (.slice (l.map RAct.row))] c H = some (.hdr (H.length - 1, newKey c 7) 9 l.length 0 l.length, H.set (H.length - 1, newKey c 7) (.arr 9 (l.map RAct.row) 0 false)) := by
  obtain ⟨x, l', rfl⟩ := List.exists_cons_of_ne_nil h0
  have hb : (l'.length + 1) * 72 ≤ 1099511627776 := by simp at hn; omega
  have hall : ∀ x : RAct, (RAct.row x).length = 9 := fun x => rfl
  have hnl : ¬ H.length + 1 ≤ H.length := by omega
  rw [gcall_cln0 rfl rfl rfl]
  refine WPv_eq (call_enter0 KC needT Try.func80 rfl rfl good80 (by simp) hH ?_)
  simp [nil22, nil23, nil24, nil25, nil45, nil46, hb, hall, hnl, gleave_keep, refs, refs2, refs1, dedup, moveOut, cleanBlk, hf, ren, ren2, ren1]
end Go.Gh


/- The program's stages: a copy, the first one, the order at the end. -/
namespace Go.Gh
open Go.Proofs
set_option linter.unusedSimpArgs false
set_option linter.unusedVariables false
set_option linter.unnecessarySimpa false
set_option maxRecDepth 100000
set_option maxHeartbeats 4000000
variable {c : Nat} {H : Heap}
end Go.Gh


/- The program's stages: the first one. -/
namespace Go.Gh
open Go.Proofs
set_option linter.unusedSimpArgs false
set_option linter.unusedVariables false
set_option linter.unnecessarySimpa false
set_option maxRecDepth 100000
set_option maxHeartbeats 4000000
variable {c : Nat} {H : Heap}
end Go.Gh


/- The program's minutes: what was touched before. -/
namespace Go.Gh
open Go.Proofs
set_option linter.unusedSimpArgs false
set_option linter.unusedVariables false
set_option linter.unnecessarySimpa false
set_option maxRecDepth 100000
set_option maxHeartbeats 4000000
variable {c : Nat} {H : Heap}
end Go.Gh


/- The program's minutes. -/
namespace Go.Gh
open Go.Proofs
set_option linter.unusedSimpArgs false
set_option linter.unusedVariables false
set_option linter.unnecessarySimpa false
set_option maxRecDepth 100000
set_option maxHeartbeats 4000000
variable {c : Nat} {H : Heap}
end Go.Gh


/- The program's minutes, the whole. -/
namespace Go.Gh
open Go.Proofs
set_option linter.unusedSimpArgs false
set_option linter.unusedVariables false
set_option linter.unnecessarySimpa false
set_option maxRecDepth 100000
set_option maxHeartbeats 4000000
variable {c : Nat} {H : Heap}
end Go.Gh
