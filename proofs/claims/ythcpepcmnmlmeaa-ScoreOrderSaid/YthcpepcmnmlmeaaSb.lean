/- Blocks of partitions; two partitions held against one another. -/
import Derived.Test.YthcpepcmnmlmeaaSa
namespace Go.Gh
open Go.Proofs
set_option linter.unusedSimpArgs false
set_option linter.unusedVariables false
set_option linter.unnecessarySimpa false
set_option maxRecDepth 100000
set_option maxHeartbeats 4000000
variable {c : Nat} {H : Heap}
end Go.Gh


/- How many packets can stay where they are: the reference's search. -/
namespace Go.Gh
open Go.Proofs
set_option linter.unusedSimpArgs false
set_option linter.unusedVariables false
set_option linter.unnecessarySimpa false
set_option maxRecDepth 100000
set_option maxHeartbeats 4000000
end Go.Gh


/- How many packets have to be moved, by the reference. -/
namespace Go.Gh
open Go.Proofs
set_option linter.unusedSimpArgs false
set_option linter.unusedVariables false
set_option linter.unnecessarySimpa false
set_option maxRecDepth 100000
set_option maxHeartbeats 4000000
variable {c : Nat} {H : Heap}
end Go.Gh


/- How many packets can stay: the program's search by sets. Its steps; the innermost loop. -/
namespace Go.Gh
open Go.Proofs
set_option linter.unusedSimpArgs false
set_option linter.unusedVariables false
set_option linter.unnecessarySimpa false
set_option maxRecDepth 100000
set_option maxHeartbeats 4000000
variable {c : Nat} {H : Heap}
def cellsT (tab : List Nat) : List GV := tab.map fun (n : Nat) => .pure (.int .i64 (n : Int))
@[simp] theorem cellsT_len {tab : List Nat} : (cellsT tab).length = tab.length := by simp [cellsT]
theorem gcall_frz' {K : Ctx} {rec : Rec} {f : FuncId} {args : List GV} {c : Nat} {H : Heap} (hz : (K.cln f && emptyArg args) = false) (hb : K.bor f = false) (hf : K.frz f = true) : gcall K rec f args c H = gcall0 K rec f (frzVals H args).1 c (frzVals H args).2 := by
  unfold gcall
  rw [hz, hb, hf]
  simp
@[simp] theorem nil22 {a : List (List PV)} {b : List PV} : gnilEq KC .eql 22 (.pure (.slice (b :: a))) = some (.bool false) := by simp [gnilEq, nonNil]
theorem clone_ok0 (l : List Int) (h0 : l ≠ []) (hn : l.length ≤ 1000000) (hH : 0 < H.length) (hf : H.get (H.length - 1, newKey c 7) = none) :
    gcall0 KC (geval KC) 108 [.pure (.slice (l.map irow))] c H = some (.hdr (H.length - 1, newKey c 7) 1 l.length 0 l.length, H.set (H.length - 1, newKey c 7) (.arr 1 (l.map irow) 0 false)) := by
  obtain ⟨x, l', rfl⟩ := List.exists_cons_of_ne_nil h0
  have hb : (l'.length + 1) * 8 ≤ 1099511627776 := by simp at hn; omega
  have hall : ∀ x : Int, (irow x).length = 1 := fun x => rfl
  have hnl : ¬ H.length + 1 ≤ H.length := by omega
  refine WPv_eq (call_enter0 KC needT Try.func108 rfl rfl good108 (by simp) hH ?_)
  simp [hb, hall, hnl, gleave_keep, refs, refs2, refs1, deepRefs, boxRefs, matRefs, dedup, moveOut, cleanBlk, hf, ren, ren2, ren1]
end Go.Gh
