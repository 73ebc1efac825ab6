/- Texts joined: the evaluator over ghost values, its soundness, the walks. Spaces struck and names made short by a program, for the size. -/
import Derived.Test.YthcpepcmnmlmeaaGc3e
import Derived.Lib.ItoaNum
import Derived.Lib.AtoiAll
import Derived.Lib.SplitLaws
import Derived.Test.YthcpepcmnmlmeaaGc3b
import Derived.Shelf.Strconv.Itoa3
import Derived.Shelf.Strconv.AtoiAll
import Derived.Shelf.Strings.Split
import Derived.Shelf.Strings.Builder1
import Derived.Lib.AtoiErrMem
namespace Go.Gh
set_option linter.unusedVariables false
set_option linter.unusedSimpArgs false
set_option linter.unnecessarySimpa false
set_option maxRecDepth 100000
set_option maxHeartbeats 8000000
section
section
variable {K : Ctx} {fn : FuncId} {rec : Rec} {dst : Option Tmp} {ty : TypeId} {pos : String} {af : Array Edge} {gu : Option (Nat × Bool)} {s : Slots} {H : Heap}
@[simp] theorem gstep_move (x : Operand) : gstep K rec fn ⟨dst, .move x, ty, pos, af, gu⟩ s H = gop K fn ⟨dst, .move x, ty, pos, af, gu⟩ s H := .trans rfl rfl
@[simp] theorem gstep_assign (x : Operand) : gstep K rec fn ⟨dst, .assign x, ty, pos, af, gu⟩ s H = gop K fn ⟨dst, .assign x, ty, pos, af, gu⟩ s H := .trans rfl rfl
@[simp] theorem gstep_pick (c a b : Operand) : gstep K rec fn ⟨dst, .pick c a b, ty, pos, af, gu⟩ s H = gop K fn ⟨dst, .pick c a b, ty, pos, af, gu⟩ s H := .trans rfl rfl
@[simp] theorem gstep_alloc (t : TypeId) : gstep K rec fn ⟨dst, .alloc t, ty, pos, af, gu⟩ s H = gop K fn ⟨dst, .alloc t, ty, pos, af, gu⟩ s H := .trans rfl rfl
@[simp] theorem gstep_box (t : TypeId) (x : Operand) : gstep K rec fn ⟨dst, .box t x, ty, pos, af, gu⟩ s H = gop K fn ⟨dst, .box t x, ty, pos, af, gu⟩ s H := .trans rfl rfl
@[simp] theorem gstep_build (t : TypeId) (ps : Array (Nat × Operand)) : gstep K rec fn ⟨dst, .build t ps, ty, pos, af, gu⟩ s H = gop K fn ⟨dst, .build t ps, ty, pos, af, gu⟩ s H := .trans rfl rfl
@[simp] theorem gstep_buildSlice (t : TypeId) (n : Nat) (ps : Array (Nat × Operand)) : gstep K rec fn ⟨dst, .buildSlice t n ps, ty, pos, af, gu⟩ s H = gop K fn ⟨dst, .buildSlice t n ps, ty, pos, af, gu⟩ s H := .trans rfl rfl
@[simp] theorem gstep_load (t : TypeId) (a : Operand) : gstep K rec fn ⟨dst, .load t a, ty, pos, af, gu⟩ s H = gop K fn ⟨dst, .load t a, ty, pos, af, gu⟩ s H := .trans rfl rfl
@[simp] theorem gstep_store (t : TypeId) (a x : Operand) : gstep K rec fn ⟨dst, .store t a x, ty, pos, af, gu⟩ s H = gop K fn ⟨dst, .store t a x, ty, pos, af, gu⟩ s H := .trans rfl rfl
@[simp] theorem gstep_nilCheck (x : Operand) : gstep K rec fn ⟨dst, .nilCheck x, ty, pos, af, gu⟩ s H = gop K fn ⟨dst, .nilCheck x, ty, pos, af, gu⟩ s H := .trans rfl rfl
@[simp] theorem gstep_binOp (op : BinOp) (t : TypeId) (x y : Operand) (d : TypeId) : gstep K rec fn ⟨dst, .binOp op t x y d, ty, pos, af, gu⟩ s H = gop K fn ⟨dst, .binOp op t x y d, ty, pos, af, gu⟩ s H := .trans rfl rfl
@[simp] theorem gstep_unOp (op : UnOp) (t : TypeId) (x : Operand) : gstep K rec fn ⟨dst, .unOp op t x, ty, pos, af, gu⟩ s H = gop K fn ⟨dst, .unOp op t x, ty, pos, af, gu⟩ s H := .trans rfl rfl
@[simp] theorem gstep_convert (a b : TypeId) (x : Operand) : gstep K rec fn ⟨dst, .convert a b x, ty, pos, af, gu⟩ s H = gop K fn ⟨dst, .convert a b x, ty, pos, af, gu⟩ s H := .trans rfl rfl
@[simp] theorem gstep_makeFunc (f : Fn) (a c : Array Operand) : gstep K rec fn ⟨dst, .makeFunc f a c, ty, pos, af, gu⟩ s H = gop K fn ⟨dst, .makeFunc f a c, ty, pos, af, gu⟩ s H := .trans rfl rfl
@[simp] theorem gstep_makeMap (t : TypeId) (r : Option Operand) : gstep K rec fn ⟨dst, .makeMap t r, ty, pos, af, gu⟩ s H = gop K fn ⟨dst, .makeMap t r, ty, pos, af, gu⟩ s H := .trans rfl rfl
@[simp] theorem gstep_makeSlice (t : TypeId) (l c : Operand) : gstep K rec fn ⟨dst, .makeSlice t l c, ty, pos, af, gu⟩ s H = gop K fn ⟨dst, .makeSlice t l c, ty, pos, af, gu⟩ s H := .trans rfl rfl
@[simp] theorem gstep_slice (t : TypeId) (x : Operand) (lo hi mx : Option Operand) : gstep K rec fn ⟨dst, .slice t x lo hi mx, ty, pos, af, gu⟩ s H = gop K fn ⟨dst, .slice t x lo hi mx, ty, pos, af, gu⟩ s H := .trans rfl rfl
@[simp] theorem gstep_fieldAddr (t : TypeId) (x : Operand) (f : Nat) : gstep K rec fn ⟨dst, .fieldAddr t x f, ty, pos, af, gu⟩ s H = gop K fn ⟨dst, .fieldAddr t x f, ty, pos, af, gu⟩ s H := .trans rfl rfl
@[simp] theorem gstep_field (t : TypeId) (x : Operand) (f : Nat) : gstep K rec fn ⟨dst, .field t x f, ty, pos, af, gu⟩ s H = gop K fn ⟨dst, .field t x f, ty, pos, af, gu⟩ s H := .trans rfl rfl
@[simp] theorem gstep_indexAddr (t : TypeId) (x i : Operand) : gstep K rec fn ⟨dst, .indexAddr t x i, ty, pos, af, gu⟩ s H = gop K fn ⟨dst, .indexAddr t x i, ty, pos, af, gu⟩ s H := .trans rfl rfl
@[simp] theorem gstep_index (t : TypeId) (x i : Operand) : gstep K rec fn ⟨dst, .index t x i, ty, pos, af, gu⟩ s H = gop K fn ⟨dst, .index t x i, ty, pos, af, gu⟩ s H := .trans rfl rfl
@[simp] theorem gstep_lookup (t : TypeId) (x k : Operand) (ok : Bool) : gstep K rec fn ⟨dst, .lookup t x k ok, ty, pos, af, gu⟩ s H = gop K fn ⟨dst, .lookup t x k ok, ty, pos, af, gu⟩ s H := .trans rfl rfl
@[simp] theorem gstep_mapUpdate (t : TypeId) (m k v : Operand) : gstep K rec fn ⟨dst, .mapUpdate t m k v, ty, pos, af, gu⟩ s H = gop K fn ⟨dst, .mapUpdate t m k v, ty, pos, af, gu⟩ s H := .trans rfl rfl
@[simp] theorem gstep_extract (t : Operand) (i : Nat) : gstep K rec fn ⟨dst, .extract t i, ty, pos, af, gu⟩ s H = gop K fn ⟨dst, .extract t i, ty, pos, af, gu⟩ s H := .trans rfl rfl
@[simp] theorem gstep_builtin (b : Builtin) (args : Array Operand) (ats : Array TypeId) : gstep K rec fn ⟨dst, .call ⟨.builtin b, args, ats⟩, ty, pos, af, gu⟩ s H = gop K fn ⟨dst, .call ⟨.builtin b, args, ats⟩, ty, pos, af, gu⟩ s H := .trans rfl rfl
@[simp] theorem opPure_move (x : Operand) : opPure K fn ⟨dst, .move x, ty, pos, af, gu⟩ = true := .trans rfl rfl
@[simp] theorem opPure_assign (x : Operand) : opPure K fn ⟨dst, .assign x, ty, pos, af, gu⟩ = true := .trans rfl rfl
@[simp] theorem opPure_pick (c a b : Operand) : opPure K fn ⟨dst, .pick c a b, ty, pos, af, gu⟩ = true := .trans rfl rfl
@[simp] theorem opPure_alloc (t : TypeId) : opPure K fn ⟨dst, .alloc t, ty, pos, af, gu⟩ = false := .trans rfl rfl
@[simp] theorem opPure_box (t : TypeId) (x : Operand) : opPure K fn ⟨dst, .box t x, ty, pos, af, gu⟩ = false := .trans rfl rfl
@[simp] theorem opPure_build (t : TypeId) (ps : Array (Nat × Operand)) : opPure K fn ⟨dst, .build t ps, ty, pos, af, gu⟩ = true := .trans rfl rfl
@[simp] theorem opPure_load (t : TypeId) (a : Operand) : opPure K fn ⟨dst, .load t a, ty, pos, af, gu⟩ = true := .trans rfl rfl
@[simp] theorem opPure_store (t : TypeId) (a x : Operand) : opPure K fn ⟨dst, .store t a x, ty, pos, af, gu⟩ = false := .trans rfl rfl
@[simp] theorem opPure_nilCheck (x : Operand) : opPure K fn ⟨dst, .nilCheck x, ty, pos, af, gu⟩ = true := .trans rfl rfl
@[simp] theorem opPure_binOp (op : BinOp) (t : TypeId) (x y : Operand) (d : TypeId) : opPure K fn ⟨dst, .binOp op t x y d, ty, pos, af, gu⟩ = true := .trans rfl rfl
@[simp] theorem opPure_unOp (op : UnOp) (t : TypeId) (x : Operand) : opPure K fn ⟨dst, .unOp op t x, ty, pos, af, gu⟩ = true := .trans rfl rfl
@[simp] theorem opPure_convert (a b : TypeId) (x : Operand) : opPure K fn ⟨dst, .convert a b x, ty, pos, af, gu⟩ = true := .trans rfl rfl
@[simp] theorem opPure_makeFunc (f : Fn) (a c : Array Operand) : opPure K fn ⟨dst, .makeFunc f a c, ty, pos, af, gu⟩ = true := .trans rfl rfl
@[simp] theorem opPure_makeMap (t : TypeId) (r : Option Operand) : opPure K fn ⟨dst, .makeMap t r, ty, pos, af, gu⟩ = false := .trans rfl rfl
@[simp] theorem opPure_makeSlice (t : TypeId) (l c : Operand) : opPure K fn ⟨dst, .makeSlice t l c, ty, pos, af, gu⟩ = false := .trans rfl rfl
@[simp] theorem opPure_slice (t : TypeId) (x : Operand) (lo hi mx : Option Operand) : opPure K fn ⟨dst, .slice t x lo hi mx, ty, pos, af, gu⟩ = true := .trans rfl rfl
@[simp] theorem opPure_fieldAddr (t : TypeId) (x : Operand) (f : Nat) : opPure K fn ⟨dst, .fieldAddr t x f, ty, pos, af, gu⟩ = true := .trans rfl rfl
@[simp] theorem opPure_field (t : TypeId) (x : Operand) (f : Nat) : opPure K fn ⟨dst, .field t x f, ty, pos, af, gu⟩ = true := .trans rfl rfl
@[simp] theorem opPure_indexAddr (t : TypeId) (x i : Operand) : opPure K fn ⟨dst, .indexAddr t x i, ty, pos, af, gu⟩ = true := .trans rfl rfl
@[simp] theorem opPure_index (t : TypeId) (x i : Operand) : opPure K fn ⟨dst, .index t x i, ty, pos, af, gu⟩ = true := .trans rfl rfl
@[simp] theorem opPure_lookup (t : TypeId) (x k : Operand) (ok : Bool) : opPure K fn ⟨dst, .lookup t x k ok, ty, pos, af, gu⟩ = true := .trans rfl rfl
@[simp] theorem opPure_mapUpdate (t : TypeId) (m k v : Operand) : opPure K fn ⟨dst, .mapUpdate t m k v, ty, pos, af, gu⟩ = false := .trans rfl rfl
@[simp] theorem opPure_extract (t : Operand) (i : Nat) : opPure K fn ⟨dst, .extract t i, ty, pos, af, gu⟩ = true := .trans rfl rfl
@[simp] theorem opPure_buildSlice (t : TypeId) (n : Nat) (ps : Array (Nat × Operand)) : opPure K fn ⟨dst, .buildSlice t n ps, ty, pos, af, gu⟩ = (match dst with | some d => !K.own fn d | none => true) := .trans rfl rfl
@[simp] theorem opPure_len (args : Array Operand) (ats : Array TypeId) : opPure K fn ⟨dst, .call ⟨.builtin .len, args, ats⟩, ty, pos, af, gu⟩ = true := .trans rfl rfl
@[simp] theorem opPure_min (args : Array Operand) (ats : Array TypeId) : opPure K fn ⟨dst, .call ⟨.builtin .min, args, ats⟩, ty, pos, af, gu⟩ = true := .trans rfl rfl
@[simp] theorem opPure_max (args : Array Operand) (ats : Array TypeId) : opPure K fn ⟨dst, .call ⟨.builtin .max, args, ats⟩, ty, pos, af, gu⟩ = true := .trans rfl rfl
@[simp] theorem opPure_append (args : Array Operand) (ats : Array TypeId) : opPure K fn ⟨dst, .call ⟨.builtin .append, args, ats⟩, ty, pos, af, gu⟩ = false := .trans rfl rfl
def tabB (K : Ctx) (fn : FuncId) (dst : Option Tmp) (f : Operand) (args : Array Operand) : Bool := match f, dst with
 | .func f, some d => args.isEmpty && K.tab f && (K.lift fn d).isNone
 | _, _ => false
@[simp] theorem tabB_none {f : Operand} {args : Array Operand} : tabB K fn none f args = false := by cases f <;> rfl
@[simp] theorem tabB_tmp {d : Option Tmp} {t : Tmp} {args : Array Operand} : tabB K fn d (.tmp t) args = false := by cases d <;> rfl
@[simp] theorem tabB_func {d : Tmp} {f : FuncId} {args : Array Operand} : tabB K fn (some d) (.func f) args = (args.isEmpty && K.tab f && (K.lift fn d).isNone) := .trans rfl rfl
theorem tabF_some {f : Operand} {args : Array Operand} {ats : Array TypeId} : (tabF K fn ⟨dst, .call ⟨.value f, args, ats⟩, ty, pos, af, gu⟩).isSome = tabB K fn dst f args := by
 cases f <;> cases dst <;> try rfl
 rename_i g d
 show (if (args.isEmpty && K.tab g && (K.lift fn d).isNone) = true then some g else none).isSome = (args.isEmpty && K.tab g && (K.lift fn d).isNone)
 cases (args.isEmpty && K.tab g && (K.lift fn d).isNone) <;> rfl
@[simp] theorem opPure_call (f : Operand) (args : Array Operand) (ats : Array TypeId) : opPure K fn ⟨dst, .call ⟨.value f, args, ats⟩, ty, pos, af, gu⟩ = tabB K fn dst f args := tabF_some
@[simp] theorem gop_tab {d : Tmp} {f : FuncId} {args : Array Operand} {ats : Array TypeId} : gop K fn ⟨some d, .call ⟨.value (.func f), args, ats⟩, ty, pos, af, gu⟩ s H = if tabB K fn (some d) (.func f) args = true then some (.pure (.fmap f), H) else none := by
 unfold gop tabF tabB
 simp only
 split
 ·rename_i g hg
  split at hg
  ·simp only [Option.some.injEq] at hg; subst hg; simp_all
  ·cases hg
 ·rename_i hg
  split at hg
  ·cases hg
  ·simp_all
@[simp] theorem isAlloc_move (x : Operand) : isAlloc ⟨dst, .move x, ty, pos, af, gu⟩ = false := by cases dst <;> rfl
@[simp] theorem isAlloc_assign (x : Operand) : isAlloc ⟨dst, .assign x, ty, pos, af, gu⟩ = false := by cases dst <;> rfl
@[simp] theorem isAlloc_pick (c a b : Operand) : isAlloc ⟨dst, .pick c a b, ty, pos, af, gu⟩ = false := by cases dst <;> rfl
@[simp] theorem isAlloc_box (t : TypeId) (x : Operand) : isAlloc ⟨dst, .box t x, ty, pos, af, gu⟩ = false := by cases dst <;> rfl
@[simp] theorem isAlloc_build (t : TypeId) (ps : Array (Nat × Operand)) : isAlloc ⟨dst, .build t ps, ty, pos, af, gu⟩ = false := by cases dst <;> rfl
@[simp] theorem isAlloc_buildSlice (t : TypeId) (n : Nat) (ps : Array (Nat × Operand)) : isAlloc ⟨dst, .buildSlice t n ps, ty, pos, af, gu⟩ = false := by cases dst <;> rfl
@[simp] theorem isAlloc_load (t : TypeId) (a : Operand) : isAlloc ⟨dst, .load t a, ty, pos, af, gu⟩ = false := by cases dst <;> rfl
@[simp] theorem isAlloc_store (t : TypeId) (a x : Operand) : isAlloc ⟨dst, .store t a x, ty, pos, af, gu⟩ = false := by cases dst <;> rfl
@[simp] theorem isAlloc_nilCheck (x : Operand) : isAlloc ⟨dst, .nilCheck x, ty, pos, af, gu⟩ = false := by cases dst <;> rfl
@[simp] theorem isAlloc_binOp (op : BinOp) (t : TypeId) (x y : Operand) (d : TypeId) : isAlloc ⟨dst, .binOp op t x y d, ty, pos, af, gu⟩ = false := by cases dst <;> rfl
@[simp] theorem isAlloc_unOp (op : UnOp) (t : TypeId) (x : Operand) : isAlloc ⟨dst, .unOp op t x, ty, pos, af, gu⟩ = false := by cases dst <;> rfl
@[simp] theorem isAlloc_convert (a b : TypeId) (x : Operand) : isAlloc ⟨dst, .convert a b x, ty, pos, af, gu⟩ = false := by cases dst <;> rfl
@[simp] theorem isAlloc_makeFunc (f : Fn) (a c : Array Operand) : isAlloc ⟨dst, .makeFunc f a c, ty, pos, af, gu⟩ = false := by cases dst <;> rfl
@[simp] theorem isAlloc_makeMap (t : TypeId) (r : Option Operand) : isAlloc ⟨dst, .makeMap t r, ty, pos, af, gu⟩ = false := by cases dst <;> rfl
@[simp] theorem isAlloc_makeSlice (t : TypeId) (l c : Operand) : isAlloc ⟨dst, .makeSlice t l c, ty, pos, af, gu⟩ = false := by cases dst <;> rfl
@[simp] theorem isAlloc_slice (t : TypeId) (x : Operand) (lo hi mx : Option Operand) : isAlloc ⟨dst, .slice t x lo hi mx, ty, pos, af, gu⟩ = false := by cases dst <;> rfl
@[simp] theorem isAlloc_fieldAddr (t : TypeId) (x : Operand) (f : Nat) : isAlloc ⟨dst, .fieldAddr t x f, ty, pos, af, gu⟩ = false := by cases dst <;> rfl
@[simp] theorem isAlloc_field (t : TypeId) (x : Operand) (f : Nat) : isAlloc ⟨dst, .field t x f, ty, pos, af, gu⟩ = false := by cases dst <;> rfl
@[simp] theorem isAlloc_indexAddr (t : TypeId) (x i : Operand) : isAlloc ⟨dst, .indexAddr t x i, ty, pos, af, gu⟩ = false := by cases dst <;> rfl
@[simp] theorem isAlloc_index (t : TypeId) (x i : Operand) : isAlloc ⟨dst, .index t x i, ty, pos, af, gu⟩ = false := by cases dst <;> rfl
@[simp] theorem isAlloc_lookup (t : TypeId) (x k : Operand) (ok : Bool) : isAlloc ⟨dst, .lookup t x k ok, ty, pos, af, gu⟩ = false := by cases dst <;> rfl
@[simp] theorem isAlloc_mapUpdate (t : TypeId) (m k v : Operand) : isAlloc ⟨dst, .mapUpdate t m k v, ty, pos, af, gu⟩ = false := by cases dst <;> rfl
@[simp] theorem isAlloc_extract (t : Operand) (i : Nat) : isAlloc ⟨dst, .extract t i, ty, pos, af, gu⟩ = false := by cases dst <;> rfl
@[simp] theorem isAlloc_call (c : Call) : isAlloc ⟨dst, .call c, ty, pos, af, gu⟩ = false := by cases dst <;> rfl
@[simp] theorem isAlloc_alloc {d : Nat} (t : TypeId) : isAlloc ⟨some d, .alloc t, ty, pos, af, none⟩ = true := .trans rfl rfl
def rv (H : Heap) (x : Option GV) : Option (GV × Heap) := match x with | some v => some (v, H) | none => none
@[congr] theorem rv_cg {x y : Option GV} (h : ∀ _ : Unit, x = y) : rv H x = rv H y := by rw [h ()]
@[simp] theorem rv_some {v : GV} : rv H (some v) = some (v, H) := .trans rfl rfl
@[simp] theorem rv_none : rv H none = none := .trans rfl rfl
def rp (H : Heap) (x : Option PV) : Option (GV × Heap) := match x with | some v => some (.pure v, H) | none => none
@[congr] theorem rp_cg {x y : Option PV} (h : ∀ _ : Unit, x = y) : rp H x = rp H y := by rw [h ()]
@[simp] theorem rp_some {v : PV} : rp H (some v) = some (.pure v, H) := .trans rfl rfl
@[simp] theorem rp_none : rp H none = none := .trans rfl rfl
def rh (x : Option Heap) : Option (GV × Heap) := match x with | some H => some (gdead, H) | none => none
@[simp] theorem rh_some : rh (some H) = some (gdead, H) := .trans rfl rfl
@[simp] theorem rh_none : rh none = none := .trans rfl rfl
def rn (x : Option (Nm × Heap)) (g : Nm → GV) : Option (GV × Heap) := match x with | some (nm, H) => some (g nm, H) | none => none
@[simp] theorem rn_some {nm : Nm} {g : Nm → GV} : rn (some (nm, H)) g = some (g nm, H) := .trans rfl rfl
@[simp] theorem rn_none {g : Nm → GV} : rn none g = none := .trans rfl rfl
@[simp] theorem gop_move {x : Operand} : gop K fn ⟨dst, .move x, ty, pos, af, gu⟩ s H = rv H (some (ev s x)) := .trans rfl rfl
@[simp] theorem gop_assign {x : Operand} : gop K fn ⟨dst, .assign x, ty, pos, af, gu⟩ s H = rv H (some (ev s x)) := .trans rfl rfl
def pickV (c a b : GV) : Option GV := match c with | .pure (.bool t) => some (if t then a else b) | _ => none
@[simp] theorem pickV_bool {t : Bool} {a b : GV} : pickV (.pure (.bool t)) a b = some (if t = true then a else b) := .trans rfl rfl
@[simp] theorem gop_pick {c a b : Operand} : gop K fn ⟨dst, .pick c a b, ty, pos, af, gu⟩ s H = rv H (pickV (ev s c) (ev s a) (ev s b)) := by
 simp only [gop]; unfold pickV; generalize ev s c = g; cases g with
 | pure p => cases p <;> rfl
 | _ => rfl
def gnewU (H : Heap) (l key : Nat) (b : Blk) : Option (Nm × Heap) :=
 if H.length ≤ l then none else
 match H.get (l, key) with
 | some _ => none
 | none => some ((l, key), H.set (l, key) b)
def gnewV (H : Heap) (key : Nat) (b : Blk) : Option (Nm × Heap) := gnewU H (H.length - 1) key b
theorem tyOk_lt {key : Nat} {b : Blk} (h : key < tyBase) : tyOk key b = true := by unfold tyOk; split <;> simp [h]
theorem gnewAt_U {l key : Nat} {b : Blk} (h : key < tyBase) : gnewAt H l key b = gnewU H l key b := by
 unfold gnewAt gnewU; rw [tyOk_lt h]
 by_cases hl : H.length ≤ l
 ·rw [if_pos hl, if_pos hl]
 ·rw [if_neg hl, if_neg hl]; cases H.get (l, key) <;> simp
theorem gnew_V {d : Nat} {b : Blk} (h : d < tyBase) : gnew H d b = gnewV H d b := gnewAt_U h
theorem gnew_map {d : Nat} {es : List (PV × GV)} : gnew H d (.map es) = gnewV H d (.map es) := by
 unfold gnew gnewAt gnewV gnewU
 by_cases hl : H.length ≤ H.length - 1
 ·rw [if_pos hl, if_pos hl]
 ·rw [if_neg hl, if_neg hl]; cases H.get (H.length - 1, d) <;> simp [tyOk]
@[simp] theorem lt_tyBase {n : Nat} : (n < tyBase) = (n < 1329227995784915872903807060280344576) := .trans rfl rfl
def newBox (H : Heap) (d : Nat) (x : Option (List GV)) : Option (GV × Heap) := match x with | some cs => rn (gnewV H d (.box cs)) (fun nm => .bptr nm 0) | none => none
@[simp] theorem newBox_some {d : Nat} {cs : List GV} : newBox H d (some cs) = rn (gnewV H d (.box cs)) (fun nm => .bptr nm 0) := .trans rfl rfl
def cellsO' (x : Option GV) : Option (List GV) := match x with | some z => cellsO z | none => none
@[simp] theorem cellsO'_some {z : GV} : cellsO' (some z) = cellsO z := .trans rfl rfl
@[simp] theorem gop_alloc {d : Nat} {t : TypeId} (ht : K.typ t = false) (hd : d < tyBase) : gop K fn ⟨some d, .alloc t, ty, pos, af, gu⟩ s H = newBox H d (cellsO' (tzero K.P t)) := by
 simp only [gop]
 cases h : tzero K.P t with
 | none => rfl
 | some z =>
  simp only [cellsO'_some, newBox]
  cases cellsO z with
  | none => rfl
  | some cs =>
   simp only [gnewE, ht, Bool.false_eq_true, if_false]
   show (match gnew H d (.box cs) with | some (nm, H) => some (GV.bptr nm 0, H) | none => none) = _
   rw [gnew_V hd]
   cases gnewV H d (.box cs) with
   | none => rfl
   | some x => rfl
@[simp] theorem gop_box {d : Nat} {t : TypeId} {x : Operand} (hd : d < tyBase) : gop K fn ⟨some d, .box t x, ty, pos, af, gu⟩ s H = newBox H d (cellsO (ev s x)) := by
 simp only [gop, newBox]
 cases cellsO (ev s x) with
 | none => rfl
 | some cs =>
  simp only [gnew_V hd]
  cases gnewV H d (.box cs) with
  | none => rfl
  | some x => rfl
@[simp] theorem gnew_cons {fr : Fr} {d : Nat} {b : Blk} : gnewV (fr :: H) d b = if (fr.get d).isSome then none else some ((H.length, d), fr.ins d b :: H) := by
 unfold gnewV gnewU
 simp only [List.length_cons, Nat.add_sub_cancel]
 rw [if_neg (by omega)]
 simp only [Heap.get, Heap.set, if_true]
 cases fr.get d <;> simp
@[simp] theorem Fr.get_nil {q : Nat} : Fr.get [] q = none := .trans rfl rfl
@[simp] theorem Fr.get_cons {k q : Nat} {b : Blk} {r : Fr} : Fr.get ((k, b) :: r) q = if q = k then some b else Fr.get r q := .trans rfl rfl
@[simp] theorem Fr.ins_nil {q : Nat} {x : Blk} : Fr.ins q x [] = [(q, x)] := .trans rfl rfl
@[simp] theorem Fr.ins_cons {k q : Nat} {x b : Blk} {r : Fr} : Fr.ins q x ((k, b) :: r) = if q = k then (q, x) :: r else if q < k then (q, x) :: (k, b) :: r else (k, b) :: Fr.ins q x r := .trans rfl rfl
@[simp] theorem Heap.get_cons' {fr : Fr} {nm : Nm} : Heap.get (fr :: H) nm = if nm.1 = H.length then fr.get nm.2 else Heap.get H nm := .trans rfl rfl
@[simp] theorem Heap.set_cons' {fr : Fr} {nm : Nm} {b : Blk} : Heap.set (fr :: H) nm b = if nm.1 = H.length then fr.ins nm.2 b :: H else fr :: Heap.set H nm b := .trans rfl rfl
@[simp] theorem cellsO_agg {l : List GV} : cellsO (.agg l) = some l := .trans rfl rfl
@[simp] theorem cellsO_pagg {l : List PV} : cellsO (.pure (.agg l)) = some (l.map .pure) := .trans rfl rfl
@[simp] theorem cellsO_int {k : IntKind} {n : Int} : cellsO (.pure (.int k n)) = some [.pure (.int k n)] := .trans rfl rfl
@[simp] theorem cellsO_bool {b : Bool} : cellsO (.pure (.bool b)) = some [.pure (.bool b)] := .trans rfl rfl
@[simp] theorem cellsO_str {l : List UInt8} : cellsO (.pure (.str l)) = some [.pure (.str l)] := .trans rfl rfl
@[simp] theorem cellsO_slice {l : List (List PV)} : cellsO (.pure (.slice l)) = some [.pure (.slice l)] := .trans rfl rfl
@[simp] theorem cellsO_fn {f : Nat} : cellsO (.pure (.fn f)) = some [.pure (.fn f)] := .trans rfl rfl
@[simp] theorem cellsO_nilm : cellsO (.pure .nilm) = some [.pure .nilm] := .trans rfl rfl
@[simp] theorem cellsO_nilf : cellsO (.pure .nilf) = some [.pure .nilf] := .trans rfl rfl
@[simp] theorem cellsO_nilp : cellsO (.pure .nilp) = some [.pure .nilp] := .trans rfl rfl
@[simp] theorem cellsO_nils : cellsO .nils = some [.nils] := .trans rfl rfl
@[simp] theorem cellsO_hdr {nm : Nm} {es top lo len : Nat} : cellsO (.hdr nm es top lo len) = some [.hdr nm es top lo len] := .trans rfl rfl
@[simp] theorem cellsO_bptr {nm : Nm} {o : Nat} : cellsO (.bptr nm o) = some [.bptr nm o] := .trans rfl rfl
@[simp] theorem cellsO_map {nm : Nm} : cellsO (.map nm) = some [.map nm] := .trans rfl rfl
@[simp] theorem cellsO_func {f : Nat} {a c : List GV} : cellsO (.func f a c) = some [.func f a c] := .trans rfl rfl
@[simp] theorem cellsO_yield {nm : Nm} : cellsO (.yield nm) = some [.yield nm] := .trans rfl rfl
@[simp] theorem cellsO_lits {l : List (List GV)} : cellsO (.lits l) = some [.lits l] := .trans rfl rfl
@[simp] theorem allPure_nil : allPure [] = some [] := .trans rfl rfl
@[simp] theorem allPure_pure {p : PV} {r : List GV} : allPure (.pure p :: r) = (allPure r).map (p :: ·) := by
 simp only [allPure]; cases allPure r <;> rfl
@[simp] theorem allPure_map' (l : List PV) : allPure (l.map .pure) = some l := allPure_map l
@[simp] theorem allPure_agg {l : List GV} {r : List GV} : allPure (.agg l :: r) = none := .trans rfl rfl
@[simp] theorem allPure_nils {r : List GV} : allPure (.nils :: r) = none := .trans rfl rfl
@[simp] theorem allPure_hdr {nm : Nm} {es top lo len : Nat} {r : List GV} : allPure (.hdr nm es top lo len :: r) = none := .trans rfl rfl
@[simp] theorem allPure_bptr {nm : Nm} {o : Nat} {r : List GV} : allPure (.bptr nm o :: r) = none := .trans rfl rfl
@[simp] theorem allPure_mapn {nm : Nm} {r : List GV} : allPure (.map nm :: r) = none := .trans rfl rfl
@[simp] theorem allPure_func {f : Nat} {a c : List GV} {r : List GV} : allPure (.func f a c :: r) = none := .trans rfl rfl
def mkA (x : Option (List PV)) (l : List GV) : GV := match x with | some ps => .pure (.agg ps) | none => .agg l
@[congr] theorem mkA_cg {x y : Option (List PV)} {l : List GV} (h : ∀ _ : Unit, x = y) : mkA x l = mkA y l := by rw [h ()]
@[simp] theorem mkA_some {ps : List PV} {l : List GV} : mkA (some ps) l = .pure (.agg ps) := .trans rfl rfl
@[simp] theorem mkA_none {l : List GV} : mkA none l = .agg l := .trans rfl rfl
@[simp] theorem mkAgg_def {l : List GV} : mkAgg l = mkA (allPure l) l := .trans rfl rfl
def mkT (x : Option (List PV)) (l : List GV) : GV := match x with | some ps => .pure (.tuple ps) | none => .tuple l
@[congr] theorem mkT_cg {x y : Option (List PV)} {l : List GV} (h : ∀ _ : Unit, x = y) : mkT x l = mkT y l := by rw [h ()]
@[simp] theorem mkT_some {ps : List PV} {l : List GV} : mkT (some ps) l = .pure (.tuple ps) := .trans rfl rfl
@[simp] theorem mkT_none {l : List GV} : mkT none l = .tuple l := .trans rfl rfl
@[simp] theorem mkTuple_def {l : List GV} : mkTuple l = mkT (allPure l) l := .trans rfl rfl
@[simp] theorem gop_load {t : TypeId} {a : Operand} : gop K fn ⟨dst, .load t a, ty, pos, af, gu⟩ s H = rv H (gload K.P t H (ev s a)) := .trans rfl rfl
@[simp] theorem gop_store {t : TypeId} {a x : Operand} : gop K fn ⟨dst, .store t a x, ty, pos, af, gu⟩ s H = rh (gstore K.P t H (ev s a) (ev s x)) := .trans rfl rfl
def ldBox (ag : Option Bool) (sz : Option Nat) (off : Nat) (b : Option Blk) : Option GV :=
 match ag, sz, b with
 | some true, some size, some (.box cs) => if off + size ≤ cs.length then some (mkAgg ((cs.drop off).take size)) else none
 | some false, some _, some (.box cs) => cs[off]?
 | _, _, _ => none
@[simp] theorem ldBox_agg {sz off : Nat} {cs : List GV} : ldBox (some true) (some sz) off (some (.box cs)) = if off + sz ≤ cs.length then some (mkAgg ((cs.drop off).take sz)) else none := .trans rfl rfl
@[simp] theorem ldBox_one {sz off : Nat} {cs : List GV} : ldBox (some false) (some sz) off (some (.box cs)) = cs[off]? := .trans rfl rfl
@[simp] theorem gload_bptr {P : Program} {t : TypeId} {nm : Nm} {off : Nat} : gload P t H (.bptr nm off) = ldBox (tagg P t) (tsize P t) off (H.get nm) := by
 unfold gload ldBox; generalize tagg P t = x; generalize tsize P t = y; simp only; generalize Heap.get H nm = z
 rcases x with _ | ag <;> rcases y with _ | sz <;> rcases z with _ | b <;> try rfl
 all_goals (cases ag <;> try rfl)
 all_goals (cases b <;> rfl)
def ldP (ag : Option Bool) (sz : Option Nat) (cs : List PV) : Option GV :=
 match ag, sz with
 | some true, some size => if size ≤ cs.length then some (.pure (.agg (cs.take size))) else none
 | some false, some _ => (match cs[0]? with | some p => some (.pure p) | none => none)
 | _, _ => none
@[simp] theorem ldP_agg {sz : Nat} {cs : List PV} : ldP (some true) (some sz) cs = if sz ≤ cs.length then some (.pure (.agg (cs.take sz))) else none := .trans rfl rfl
@[simp] theorem ldP_one {sz : Nat} {p : PV} {cs : List PV} : ldP (some false) (some sz) (p :: cs) = some (.pure p) := .trans rfl rfl
@[simp] theorem gload_pptr {P : Program} {t : TypeId} {cs : List PV} : gload P t H (.pptr cs) = ldP (tagg P t) (tsize P t) cs := by
 unfold gload ldP; generalize tagg P t = x; generalize tsize P t = y
 rcases x with _ | ag <;> rcases y with _ | sz <;> try rfl
 all_goals (cases ag <;> rfl)
def ldL (ag : Option Bool) (sz : Option Nat) (cs : List GV) : Option GV :=
 match ag, sz with
 | some true, some size => if size ≤ cs.length then some (mkAgg (cs.take size)) else none
 | some false, some _ => cs[0]?
 | _, _ => none
@[simp] theorem ldL_agg {sz : Nat} {cs : List GV} : ldL (some true) (some sz) cs = if sz ≤ cs.length then some (mkAgg (cs.take sz)) else none := .trans rfl rfl
@[simp] theorem ldL_one {sz : Nat} {cs : List GV} : ldL (some false) (some sz) cs = cs[0]? := .trans rfl rfl
@[simp] theorem gload_lptr {P : Program} {t : TypeId} {cs : List GV} : gload P t H (.lptr cs) = ldL (tagg P t) (tsize P t) cs := by
 unfold gload ldL; generalize tagg P t = x; generalize tsize P t = y
 rcases x with _ | ag <;> rcases y with _ | sz <;> try rfl
 all_goals (cases ag <;> rfl)
def ldE (ag : Option Bool) (sz : Option Nat) (es top i off : Nat) (b : Option Blk) : Option GV :=
  match ag, sz, b with
  | some ag, some size, some (.arr es' elems vf _) => if es' = es ∧ vf ≤ top ∧ i < top ∧ top ≤ elems.length then
        (match elems[i]? with
        | some e => if ag then (if off + size ≤ e.length then some (.pure (.agg ((e.drop off).take size))) else none) else (match e[off]? with | some p => some (.pure p) | none => none)
        | none => none)
      else none
  | _, _, _ => none
def ldM (ag : Option Bool) (sz : Option Nat) (nm : Nm) (es top i off : Nat) (b : Option Blk) : Option GV :=
 match ag, sz, b with
 | some ag, some _, some (.mat es' rows n) => if ag = false ∧ es = 1 ∧ off = 0 ∧ i < top ∧ top ≤ n then (match rows[i]? with | some r => some (.rhdr nm es' i r.length) | none => none) else none
 | ag, sz, b => ldE ag sz es top i off b
@[congr] theorem ldM_cg {ag : Option Bool} {sz : Option Nat} {nm : Nm} {es top i off : Nat} {b b' : Option Blk} (h : ∀ _ : Unit, b = b') : ldM ag sz nm es top i off b = ldM ag sz nm es top i off b' := by rw [h ()]
@[simp] theorem ldM_mat {sz : Nat} {nm : Nm} {top i es' n : Nat} {rows : List (List (List PV))} : ldM (some false) (some sz) nm 1 top i 0 (some (.mat es' rows n)) = if i < top ∧ top ≤ n then (match rows[i]? with | some r => some (.rhdr nm es' i r.length) | none => none) else none := by
 simp only [ldM, true_and]
@[simp] theorem ldM_arr {ag sz : Option _} {nm : Nm} {es top i off es' vf : Nat} {elems : List (List PV)} {ro : Bool} : ldM ag sz nm es top i off (some (.arr es' elems vf ro)) = ldE ag sz es top i off (some (.arr es' elems vf ro)) := by
 cases ag <;> cases sz <;> rfl
@[simp] theorem gload_eptr {P : Program} {t : TypeId} {nm : Nm} {es top i off : Nat} : gload P t H (.eptr nm es top i off) = ldM (tagg P t) (tsize P t) nm es top i off (H.get nm) := by
 unfold gload ldM ldE; generalize tagg P t = x; generalize tsize P t = y; simp only; generalize Heap.get H nm = z
 rcases x with _ | ag <;> rcases y with _ | sz <;> rcases z with _ | b <;> try rfl
 all_goals (cases b <;> rfl)
@[simp] theorem ldE_agg {sz es top i off es' vf : Nat} {elems : List (List PV)} {ro : Bool} : ldE (some true) (some sz) es top i off (some (.arr es' elems vf ro)) = if es' = es ∧ vf ≤ top ∧ i < top ∧ top ≤ elems.length then
        (match elems[i]? with
        | some e => if off + sz ≤ e.length then some (.pure (.agg ((e.drop off).take sz))) else none
        | none => none)
      else none := .trans rfl rfl
@[simp] theorem ldE_one {sz es top i off es' vf : Nat} {elems : List (List PV)} {ro : Bool} : ldE (some false) (some sz) es top i off (some (.arr es' elems vf ro)) = if es' = es ∧ vf ≤ top ∧ i < top ∧ top ≤ elems.length then
        (match elems[i]? with
        | some e => (match e[off]? with | some p => some (.pure p) | none => none)
        | none => none)
      else none := by
  simp only [ldE]
  split <;> simp
def band (k : IntKind) (a b : Int) : Int := k.wrap (BitVec.ofInt k.bits a &&& BitVec.ofInt k.bits b).toNat
def bor (k : IntKind) (a b : Int) : Int := k.wrap (BitVec.ofInt k.bits a ||| BitVec.ofInt k.bits b).toNat
def bxor (k : IntKind) (a b : Int) : Int := k.wrap (BitVec.ofInt k.bits a ^^^ BitVec.ofInt k.bits b).toNat
@[simp] theorem isNilC_tmp {t : Nat} : isNilC (.tmp t) = false := .trans rfl rfl
@[simp] theorem isNilC_int {k : IntKind} {n : Int} : isNilC (.const (.int k n)) = false := .trans rfl rfl
@[simp] theorem isNilC_bool {b : Bool} : isNilC (.const (.bool b)) = false := .trans rfl rfl
@[simp] theorem isNilC_str {b : ByteArray} : isNilC (.const (.string b)) = false := .trans rfl rfl
@[simp] theorem isNilC_agg {a : Array Value} : isNilC (.const (.agg a)) = false := .trans rfl rfl
@[simp] theorem isNilC_nil : isNilC (.const (.slice none 0 0)) = true := .trans rfl rfl
@[simp] theorem isNilC_func {f : Nat} : isNilC (.func f) = false := .trans rfl rfl
@[simp] theorem isNilC_ptr {p : Option Addr} : isNilC (.const (.pointer p)) = false := .trans rfl rfl
@[simp] theorem isNilC_iface : isNilC (.const .nilIface) = false := .trans rfl rfl
@[simp] theorem isNilI_tmp {t : Nat} : isNilI (.tmp t) = false := .trans rfl rfl
@[simp] theorem isNilI_int {k : IntKind} {n : Int} : isNilI (.const (.int k n)) = false := .trans rfl rfl
@[simp] theorem isNilI_bool {b : Bool} : isNilI (.const (.bool b)) = false := .trans rfl rfl
@[simp] theorem isNilI_str {b : ByteArray} : isNilI (.const (.string b)) = false := .trans rfl rfl
@[simp] theorem isNilI_agg {a : Array Value} : isNilI (.const (.agg a)) = false := .trans rfl rfl
@[simp] theorem isNilI_func {f : Nat} : isNilI (.func f) = false := .trans rfl rfl
@[simp] theorem isNilI_ptr {p : Option Addr} : isNilI (.const (.pointer p)) = false := .trans rfl rfl
@[simp] theorem isNilI_iface : isNilI (.const .nilIface) = true := .trans rfl rfl
def niV (a : Option TypeDesc) (op : BinOp) (x : GV) : Option PV := match a, op, x with
 | some (.interface _), .eql, .pure .nili => some (.bool true)
 | some (.interface _), .neq, .pure .nili => some (.bool false)
 | some (.interface _), .eql, .pure (.iface _ _) => some (.bool false)
 | some (.interface _), .neq, .pure (.iface _ _) => some (.bool true)
 | _, _, _ => none
@[simp] theorem niV_1 {m : Array (String × TypeId)} : niV (some (.interface m)) .eql (.pure .nili) = some (.bool true) := .trans rfl rfl
@[simp] theorem niV_2 {m : Array (String × TypeId)} : niV (some (.interface m)) .neq (.pure .nili) = some (.bool false) := .trans rfl rfl
@[simp] theorem niV_3 {m : Array (String × TypeId)} {t : TypeId} {v : PV} : niV (some (.interface m)) .eql (.pure (.iface t v)) = some (.bool false) := .trans rfl rfl
@[simp] theorem niV_4 {m : Array (String × TypeId)} {t : TypeId} {v : PV} : niV (some (.interface m)) .neq (.pure (.iface t v)) = some (.bool true) := .trans rfl rfl
@[simp] theorem gnilI_def {op : BinOp} {t : TypeId} {x : GV} : gnilI K op t x = niV (K.P.underlying t) op x := by
 unfold gnilI niV; rfl
theorem gop_binOp0 {op : BinOp} {t d : TypeId} {x y : Operand} : gop K fn ⟨dst, .binOp op t x y d, ty, pos, af, gu⟩ s H = rp H (gbinN K op t s x y) := .trans rfl rfl
@[simp] theorem gop_binOp {op : BinOp} {t d : TypeId} {x y : Operand} : gop K fn ⟨dst, .binOp op t x y d, ty, pos, af, gu⟩ s H = rp H (if isNilC y = true then gnilEq K op t (ev s x) else if isNilI y = true then gnilI K op t (ev s x) else gbin K op t (ev s x) (ev s y)) := by
 rw [gop_binOp0]; rfl
section
variable {t : TypeId} {k : IntKind} {a b : Int}
@[simp] theorem gbin_add : gbin K .add t (.pure (.int k a)) (.pure (.int k b)) = some (.int k (k.wrap (a + b))) := by simp [gbin, gint]
@[simp] theorem gbin_sub : gbin K .sub t (.pure (.int k a)) (.pure (.int k b)) = some (.int k (k.wrap (a - b))) := by simp [gbin, gint]
@[simp] theorem gbin_mul : gbin K .mul t (.pure (.int k a)) (.pure (.int k b)) = some (.int k (k.wrap (a * b))) := by simp [gbin, gint]
@[simp] theorem gbin_quo : gbin K .quo t (.pure (.int k a)) (.pure (.int k b)) = if b = 0 then none else some (.int k (k.wrap (a.tdiv b))) := by simp [gbin, gint]
@[simp] theorem gbin_rem : gbin K .rem t (.pure (.int k a)) (.pure (.int k b)) = if b = 0 then none else some (.int k (a.tmod b)) := by simp [gbin, gint]
@[simp] theorem gbin_and : gbin K .and t (.pure (.int k a)) (.pure (.int k b)) = some (.int k (band k a b)) := by simp [gbin, gint, band]
@[simp] theorem gbin_or : gbin K .or t (.pure (.int k a)) (.pure (.int k b)) = some (.int k (bor k a b)) := by simp [gbin, gint, bor]
@[simp] theorem gbin_xor : gbin K .xor t (.pure (.int k a)) (.pure (.int k b)) = some (.int k (bxor k a b)) := by simp [gbin, gint, bxor]
@[simp] theorem gbin_eql : gbin K .eql t (.pure (.int k a)) (.pure (.int k b)) = some (.bool (a == b)) := by simp [gbin, gint]
@[simp] theorem gbin_neq : gbin K .neq t (.pure (.int k a)) (.pure (.int k b)) = some (.bool (a != b)) := by simp [gbin, gint]
@[simp] theorem gbin_lss : gbin K .lss t (.pure (.int k a)) (.pure (.int k b)) = some (.bool (decide (a < b))) := by simp [gbin, gint]
@[simp] theorem gbin_leq : gbin K .leq t (.pure (.int k a)) (.pure (.int k b)) = some (.bool (decide (a ≤ b))) := by simp [gbin, gint]
@[simp] theorem gbin_gtr : gbin K .gtr t (.pure (.int k a)) (.pure (.int k b)) = some (.bool (decide (b < a))) := by simp [gbin, gint]
@[simp] theorem gbin_geq : gbin K .geq t (.pure (.int k a)) (.pure (.int k b)) = some (.bool (decide (b ≤ a))) := by simp [gbin, gint]
@[simp] theorem gbin_shl {k' : IntKind} : gbin K .shl t (.pure (.int k a)) (.pure (.int k' b)) = if b < 0 then none else some (.int k (k.wrap (a * 2 ^ (min b.toNat k.bits)))) := by simp [gbin, gshift]
@[simp] theorem gbin_shr {k' : IntKind} : gbin K .shr t (.pure (.int k a)) (.pure (.int k' b)) = if b < 0 then none else some (.int k (a.fdiv (2 ^ (min b.toNat k.bits)))) := by simp [gbin, gshift]
end
@[simp] theorem gbin_str {op : BinOp} {t : TypeId} {a b : List UInt8} : gbin K op t (.pure (.str a)) (.pure (.str b)) = gstr op a b := .trans rfl rfl
@[simp] theorem gbin_beql {t : TypeId} {a b : Bool} : gbin K .eql t (.pure (.bool a)) (.pure (.bool b)) = (match K.P.underlying t with | some .bool => some (.bool (a == b)) | _ => none) := by
 simp only [gbin]; cases K.P.underlying t with
 | none => rfl
 | some x => cases x <;> rfl
@[simp] theorem gbin_bneq {t : TypeId} {a b : Bool} : gbin K .neq t (.pure (.bool a)) (.pure (.bool b)) = (match K.P.underlying t with | some .bool => some (.bool (!(a == b))) | _ => none) := by
 simp only [gbin]; cases K.P.underlying t with
 | none => rfl
 | some x => cases x <;> rfl
def eqA (neg : Bool) (ks : Option (List SK)) (a b : List PV) : Option PV := match ks with | some ks => (match eqRow ks a b with | some q => some (.bool (if neg then !q else q)) | none => none) | none => none
@[simp] theorem gbin_aeql {t : TypeId} {a b : List PV} : gbin K .eql t (.pure (.agg a)) (.pure (.agg b)) = eqA false (K.eqs t) a b := by
 simp only [gbin, eqA]; cases K.eqs t with
 | none => rfl
 | some ks => simp only; cases eqRow ks a b <;> rfl
@[simp] theorem gbin_aneq {t : TypeId} {a b : List PV} : gbin K .neq t (.pure (.agg a)) (.pure (.agg b)) = eqA true (K.eqs t) a b := by
 simp only [gbin, eqA]; cases K.eqs t with
 | none => rfl
 | some ks => simp only; cases eqRow ks a b <;> rfl
@[simp] theorem eqA_some {neg : Bool} {ks : List SK} {a b : List PV} : eqA neg (some ks) a b = (eqRow ks a b).map (fun q => .bool (if neg then !q else q)) := by
 simp only [eqA]; cases eqRow ks a b <;> rfl
@[simp] theorem eqRow_nil : eqRow [] [] [] = some true := .trans rfl rfl
@[simp] theorem eqRow_int {k : IntKind} {ks : List SK} {x y : Int} {a b : List PV} : eqRow (.int k :: ks) (.int k x :: a) (.int k y :: b) = (eqRow ks a b).map (x == y && ·) := by
 simp only [eqRow, and_self, if_true]; cases eqRow ks a b <;> rfl
@[simp] theorem eqRow_bool {ks : List SK} {x y : Bool} {a b : List PV} : eqRow (.bool :: ks) (.bool x :: a) (.bool y :: b) = (eqRow ks a b).map (x == y && ·) := by
 simp only [eqRow]; cases eqRow ks a b <;> rfl
@[simp] theorem eqRow_str {ks : List SK} {x y : List UInt8} {a b : List PV} : eqRow (.str :: ks) (.str x :: a) (.str y :: b) = (eqRow ks a b).map (x == y && ·) := by
 simp only [eqRow]; cases eqRow ks a b <;> rfl
def unV (op : UnOp) (x : GV) : Option GV := match op, x with
 | .not, .pure (.bool b) => some (.pure (.bool (!b)))
 | .neg, .pure (.int k n) => some (.pure (.int k (k.wrap (-n))))
 | _, _ => none
@[simp] theorem unV_not {b : Bool} : unV .not (.pure (.bool b)) = some (.pure (.bool (!b))) := .trans rfl rfl
@[simp] theorem unV_neg {k : IntKind} {n : Int} : unV .neg (.pure (.int k n)) = some (.pure (.int k (k.wrap (-n)))) := .trans rfl rfl
@[simp] theorem gop_unOp {op : UnOp} {t : TypeId} {x : Operand} : gop K fn ⟨dst, .unOp op t x, ty, pos, af, gu⟩ s H = rv H (unV op (ev s x)) := by
 simp only [gop]; unfold unV; generalize ev s x = g; cases op <;> cases g <;> try rfl
 all_goals (rename_i p; cases p <;> rfl)
def cvV (P : Program) (a b : Option TypeDesc) (x : GV) : Option GV := match a, b, x with
 | some _, some (.int k), .pure (.int _ n) => some (.pure (.int k (k.wrap n)))
 | some _, some .string, .pure (.str l) => some (.pure (.str l))
 | some .string, some (.slice e), .pure (.str l) => (match P.underlying e with | some (.int .u8) => some (.pure (.slice (l.map fun b => [.int .u8 b.toNat]))) | _ => none)
 | some (.slice e), some .string, .pure (.slice rows) => (match P.underlying e, bytesOf rows with | some (.int .u8), some l => if rows.isEmpty then none else some (.pure (.str l)) | _, _ => none)
 | _, _, _ => none
@[simp] theorem cvV_int {P : Program} {d : TypeDesc} {k k' : IntKind} {n : Int} : cvV P (some d) (some (.int k)) (.pure (.int k' n)) = some (.pure (.int k (k.wrap n))) := .trans rfl rfl
@[simp] theorem cvV_str {P : Program} {d : TypeDesc} {l : List UInt8} : cvV P (some d) (some .string) (.pure (.str l)) = some (.pure (.str l)) := .trans rfl rfl
theorem cvV_of {P : Program} {e : TypeId} {l : List UInt8} (h1 : P.underlying e = some (.int .u8)) : cvV P (some .string) (some (.slice e)) (.pure (.str l)) = some (.pure (.slice (l.map fun b => [.int .u8 b.toNat]))) := by
 simp [cvV, h1]
@[simp] theorem gop_convert {a b : TypeId} {x : Operand} : gop K fn ⟨dst, .convert a b x, ty, pos, af, gu⟩ s H = rv H (cvV K.P (K.P.underlying a) (K.P.underlying b) (ev s x)) := by
 simp only [gop]; unfold cvV; generalize ev s x = g; generalize K.P.underlying a = x1; generalize K.P.underlying b = x2
 rcases x1 with _ | d1 <;> rcases x2 with _ | d2 <;> try rfl
 cases d2 <;> cases g <;> try rfl
 all_goals (rename_i p; cases p <;> try rfl)
 all_goals
  cases d1 <;> try rfl
 ·rename_i rows e
  simp only
  cases K.P.underlying e with
  | none => rfl
  | some d =>
   cases d <;> try rfl
   rename_i k
   cases k <;> try rfl
   cases bytesOf rows with
   | none => rfl
   | some l => simp only; split <;> rfl
 ·rename_i e l
  simp only
  cases K.P.underlying e with
  | none => rfl
  | some d =>
   cases d <;> try rfl
   rename_i k
   cases k <;> rfl
def ncV (x : GV) : Option GV := match x with
 | .bptr nm off => some (.bptr nm off)
 | .eptr nm es top i off => some (.eptr nm es top i off)
 | .pptr cs => some (.pptr cs)
 | .lptr cs => some (.lptr cs)
 | .func f first cap => some (.func f first cap)
 | .pure (.fn f) => some (.pure (.fn f))
 | .yield nm => some (.yield nm)
 | _ => none
@[simp] theorem ncV_bptr {nm : Nm} {o : Nat} : ncV (.bptr nm o) = some (.bptr nm o) := .trans rfl rfl
@[simp] theorem ncV_eptr {nm : Nm} {es top i o : Nat} : ncV (.eptr nm es top i o) = some (.eptr nm es top i o) := .trans rfl rfl
@[simp] theorem ncV_pptr {cs : List PV} : ncV (.pptr cs) = some (.pptr cs) := .trans rfl rfl
@[simp] theorem ncV_lptr {cs : List GV} : ncV (.lptr cs) = some (.lptr cs) := .trans rfl rfl
@[simp] theorem ncV_func {f : Nat} {a c : List GV} : ncV (.func f a c) = some (.func f a c) := .trans rfl rfl
@[simp] theorem ncV_fn {f : Nat} : ncV (.pure (.fn f)) = some (.pure (.fn f)) := .trans rfl rfl
@[simp] theorem ncV_yield {nm : Nm} : ncV (.yield nm) = some (.yield nm) := .trans rfl rfl
@[simp] theorem gop_nilCheck {x : Operand} : gop K fn ⟨dst, .nilCheck x, ty, pos, af, gu⟩ s H = rv H (ncV (ev s x)) := by
 simp only [gop]; unfold ncV; generalize ev s x = g; cases g <;> try rfl
 all_goals (rename_i p; cases p <;> rfl)
@[simp] theorem gmoved_bptr {q : Nat} {nm : Nm} {o : Nat} : gmoved q (.bptr nm o) = some (.bptr nm (o + q)) := .trans rfl rfl
@[simp] theorem gmoved_eptr {q : Nat} {nm : Nm} {es top i o : Nat} : gmoved q (.eptr nm es top i o) = some (.eptr nm es top i (o + q)) := .trans rfl rfl
@[simp] theorem gmoved_pptr {q : Nat} {cs : List PV} : gmoved q (.pptr cs) = if q ≤ cs.length then some (.pptr (cs.drop q)) else none := .trans rfl rfl
@[simp] theorem gmoved_lptr {q : Nat} {cs : List GV} : gmoved q (.lptr cs) = if q ≤ cs.length then some (.lptr (cs.drop q)) else none := .trans rfl rfl
@[simp] theorem gmoved_rptr {q : Nat} {nm : Nm} {es i j o : Nat} : gmoved q (.rptr nm es i j o) = some (.rptr nm es i j (o + q)) := .trans rfl rfl
def faV (f : Option (Nat × Option Nat)) (x : GV) : Option GV := match f with | some (off, some size) => if size = 0 then none else gmoved off x | _ => none
@[simp] theorem faV_some {off size : Nat} {x : GV} : faV (some (off, some size)) x = if size = 0 then none else gmoved off x := .trans rfl rfl
def tfs (P : Program) (t : TypeId) (f : Nat) : Option (Nat × Option Nat) := (tfield P t f).map fun x => (x.1, tsize P x.2)
def tfa (P : Program) (t : TypeId) (f : Nat) : Option (Nat × Option Bool × Option Nat) := (tfield P t f).map fun x => (x.1, tagg P x.2, tsize P x.2)
@[simp] theorem gop_fieldAddr {t : TypeId} {x : Operand} {f : Nat} : gop K fn ⟨dst, .fieldAddr t x f, ty, pos, af, gu⟩ s H = rv H (faV (tfs K.P t f) (ev s x)) := by
 simp only [gop, faV, tfs]
 cases tfield K.P t f with
 | none => rfl
 | some p =>
  obtain ⟨off, ft⟩ := p
  simp only [Option.map_some]
  cases tsize K.P ft with
  | none => rfl
  | some size =>
   simp only
   split
   ·rfl
   ·cases gmoved off (ev s x) <;> rfl
def fdV (f : Option (Nat × Option Bool × Option Nat)) (x : GV) : Option GV := match f, x with
 | some (off, some ag, some size), .agg cs => if off + size ≤ cs.length then (if ag then some (mkAgg ((cs.drop off).take size)) else cs[off]?) else none
 | some (off, some ag, some size), .pure (.agg cs) => if off + size ≤ cs.length then (if ag then some (.pure (.agg ((cs.drop off).take size))) else (match cs[off]? with | some v => some (.pure v) | none => none)) else none
 | _, _ => none
@[simp] theorem fdV_agg {off size : Nat} {cs : List GV} : fdV (some (off, some true, some size)) (.agg cs) = if off + size ≤ cs.length then some (mkAgg ((cs.drop off).take size)) else none := by simp [fdV]
@[simp] theorem fdV_one {off size : Nat} {cs : List GV} : fdV (some (off, some false, some size)) (.agg cs) = if off + size ≤ cs.length then cs[off]? else none := by simp [fdV]
@[simp] theorem fdV_pagg {off size : Nat} {cs : List PV} : fdV (some (off, some true, some size)) (.pure (.agg cs)) = if off + size ≤ cs.length then some (.pure (.agg ((cs.drop off).take size))) else none := by simp [fdV]
@[simp] theorem fdV_pone {off size : Nat} {cs : List PV} : fdV (some (off, some false, some size)) (.pure (.agg cs)) = if off + size ≤ cs.length then (match cs[off]? with | some v => some (.pure v) | none => none) else none := by simp [fdV]
@[simp] theorem gop_field {t : TypeId} {x : Operand} {f : Nat} : gop K fn ⟨dst, .field t x f, ty, pos, af, gu⟩ s H = rv H (fdV (tfa K.P t f) (ev s x)) := by
 simp only [gop, tfa]
 cases tfield K.P t f with
 | none => rfl
 | some p =>
  obtain ⟨off, ft⟩ := p
  simp only [Option.map_some]
  unfold fdV
  cases tagg K.P ft with
  | none => rfl
  | some ag =>
   cases tsize K.P ft with
   | none => rfl
   | some size =>
    cases ev s x with
    | pure p =>
     cases p with
     | agg cs =>
      simp only
      split
      ·cases ag
       ·simp only [Bool.false_eq_true, if_false]; cases cs[off]? <;> rfl
       ·rfl
      ·rfl
     | _ => rfl
    | agg cs =>
     simp only
     split
     ·cases ag
      ·simp only [Bool.false_eq_true, if_false]; cases cs[off]? <;> rfl
      ·rfl
     ·rfl
    | _ => rfl
def tarrS (P : Program) (t : TypeId) : Option (Nat × Option Nat × Option Bool) := (tarr P t).map fun x => (x.1, tsize P x.2, tagg P x.2)
def telemS (P : Program) (t : TypeId) : Option (Option Nat) := (telem P t).map fun e => tsize P e
def iaS (es : Option (Option Nat)) (x : GV) (i : Int) : Option GV := match es with
  | some (some size) => (match x with
          | .hdr nm es top lo len => if es = size ∧ i < len then some (.eptr nm es top (lo + i.toNat) 0) else none
          | .pure (.slice l) => (match l[i.toNat]? with | some cs => if cs.length = size then some (.pptr cs) else none | none => none)
          | .lits l => (match l[i.toNat]? with | some cs => if cs.length = size then some (.lptr cs) else none | none => none)
          | .rhdr nm es q len => if es = size ∧ i < len then some (.rptr nm es q i.toNat 0) else none
          | _ => none)
  | _ => none
def iaV (ar : Option (Nat × Option Nat × Option Bool)) (es : Option (Option Nat)) (x i : GV) : Option GV := match i with
 | .pure (.int _ i) => if i < 0 then none else
  (match ar with
  | some (n, some size, _) => if (n : Int) ≤ i then none else gmoved (i.toNat * size) x
  | some (_, none, _) => none
  | none => iaS es x i)
 | _ => none
@[simp] theorem iaV_arr {n size : Nat} {ag : Option Bool} {es : Option (Option Nat)} {x : GV} {k : IntKind} {i : Int} : iaV (some (n, some size, ag)) es x (.pure (.int k i)) = if i < 0 then none else if (n : Int) ≤ i then none else gmoved (i.toNat * size) x := .trans rfl rfl
@[simp] theorem iaV_slice {es : Option (Option Nat)} {x : GV} {k : IntKind} {i : Int} : iaV none es x (.pure (.int k i)) = if i < 0 then none else iaS es x i := .trans rfl rfl
@[simp] theorem iaS_hdr {size : Nat} {nm : Nm} {es top lo len : Nat} {i : Int} : iaS (some (some size)) (.hdr nm es top lo len) i = if es = size ∧ i < len then some (.eptr nm es top (lo + i.toNat) 0) else none := .trans rfl rfl
@[simp] theorem iaS_pure {size : Nat} {l : List (List PV)} {i : Int} : iaS (some (some size)) (.pure (.slice l)) i = (match l[i.toNat]? with | some cs => if cs.length = size then some (.pptr cs) else none | none => none) := .trans rfl rfl
@[simp] theorem iaS_lits {size : Nat} {l : List (List GV)} {i : Int} : iaS (some (some size)) (.lits l) i = (match l[i.toNat]? with | some cs => if cs.length = size then some (.lptr cs) else none | none => none) := .trans rfl rfl
@[simp] theorem iaS_rhdr {size : Nat} {nm : Nm} {es q len : Nat} {i : Int} : iaS (some (some size)) (.rhdr nm es q len) i = if es = size ∧ i < (len : Int) then some (.rptr nm es q i.toNat 0) else none := .trans rfl rfl
@[simp] theorem gop_indexAddr {t : TypeId} {x i : Operand} : gop K fn ⟨dst, .indexAddr t x i, ty, pos, af, gu⟩ s H = rv H (iaV (tarrS K.P t) (telemS K.P t) (ev s x) (ev s i)) := by
 have h : gindexAddr K t (ev s x) (ev s i) = iaV (tarrS K.P t) (telemS K.P t) (ev s x) (ev s i) := by
  unfold gindexAddr iaV tarrS telemS
  generalize ev s i = g
  generalize ev s x = gx
  cases g with
  | pure p =>
   cases p with
   | int k n =>
    simp only
    split
    ·rfl
    ·cases tarr K.P t with
     | some p =>
      obtain ⟨n, e⟩ := p
      simp only [Option.map_some]
      cases tsize K.P e <;> rfl
     | none =>
      simp only [Option.map_none]
      cases telem K.P t with
      | none => rfl
      | some e =>
       simp only [Option.map_some]
       cases tsize K.P e <;> rfl
   | _ => rfl
  | _ => rfl
 simp only [gop, h]
 cases iaV (tarrS K.P t) (telemS K.P t) (ev s x) (ev s i) <;> rfl
def ixV (ar : Option (Nat × Option Nat × Option Bool)) (un : Option TypeDesc) (x i : GV) : Option GV := match i with
 | .pure (.int _ i) => if i < 0 then none else
  (match ar with
  | some (n, some size, some ag) => if (n : Int) ≤ i then none else
    (match x with
    | .agg cs => if (i.toNat * size) + size ≤ cs.length then (if ag then some (mkAgg ((cs.drop (i.toNat * size)).take size)) else cs[i.toNat * size]?) else none
    | .pure (.agg cs) => if (i.toNat * size) + size ≤ cs.length then (if ag then some (.pure (.agg ((cs.drop (i.toNat * size)).take size))) else (match cs[i.toNat * size]? with | some p => some (.pure p) | none => none)) else none
    | _ => none)
  | some _ => none
  | none => (match x, un with
   | .pure (.str l), some .string => (match l[i.toNat]? with | some b => some (.pure (.int .u8 b.toNat)) | none => none)
   | _, _ => none))
 | _ => none
@[simp] theorem ixV_one {n size : Nat} {un : Option TypeDesc} {cs : List PV} {k : IntKind} {i : Int} : ixV (some (n, some size, some false)) un (.pure (.agg cs)) (.pure (.int k i)) =
  if i < 0 then none else if (n : Int) ≤ i then none else if (i.toNat * size) + size ≤ cs.length then (match cs[i.toNat * size]? with | some p => some (.pure p) | none => none) else none := by simp [ixV]
@[simp] theorem ixV_agg {n size : Nat} {un : Option TypeDesc} {cs : List PV} {k : IntKind} {i : Int} : ixV (some (n, some size, some true)) un (.pure (.agg cs)) (.pure (.int k i)) =
  if i < 0 then none else if (n : Int) ≤ i then none else if (i.toNat * size) + size ≤ cs.length then some (.pure (.agg ((cs.drop (i.toNat * size)).take size))) else none := by simp [ixV]
@[simp] theorem ixV_gone {n size : Nat} {un : Option TypeDesc} {cs : List GV} {k : IntKind} {i : Int} : ixV (some (n, some size, some false)) un (.agg cs) (.pure (.int k i)) =
  if i < 0 then none else if (n : Int) ≤ i then none else if (i.toNat * size) + size ≤ cs.length then cs[i.toNat * size]? else none := by simp [ixV]
@[simp] theorem ixV_gagg {n size : Nat} {un : Option TypeDesc} {cs : List GV} {k : IntKind} {i : Int} : ixV (some (n, some size, some true)) un (.agg cs) (.pure (.int k i)) =
  if i < 0 then none else if (n : Int) ≤ i then none else if (i.toNat * size) + size ≤ cs.length then some (mkAgg ((cs.drop (i.toNat * size)).take size)) else none := by simp [ixV]
@[simp] theorem ixV_str {l : List UInt8} {k : IntKind} {i : Int} : ixV none (some .string) (.pure (.str l)) (.pure (.int k i)) = if i < 0 then none else (match l[i.toNat]? with | some b => some (.pure (.int .u8 b.toNat)) | none => none) := .trans rfl rfl
@[simp] theorem gop_index {t : TypeId} {x i : Operand} : gop K fn ⟨dst, .index t x i, ty, pos, af, gu⟩ s H = rv H (ixV (tarrS K.P t) (K.P.underlying t) (ev s x) (ev s i)) := by
 have h : gindex K (ev s x) (ev s i) t = ixV (tarrS K.P t) (K.P.underlying t) (ev s x) (ev s i) := by
  unfold gindex ixV tarrS
  generalize ev s i = g
  generalize ev s x = gx
  cases g with
  | pure p =>
   cases p with
   | int k n =>
    simp only
    split
    ·rfl
    ·cases tarr K.P t with
     | some p =>
      obtain ⟨n, e⟩ := p
      simp only [Option.map_some]
      cases tagg K.P e with
      | none => cases tsize K.P e <;> rfl
      | some ag =>
       cases tsize K.P e with
       | none => rfl
       | some size => rfl
     | none => rfl
   | _ => rfl
  | _ => rfl
 simp only [gop, h]
 cases ixV (tarrS K.P t) (K.P.underlying t) (ev s x) (ev s i) <;> rfl
def bdV (ar : Option (Option Nat)) (pl : Option (List (Nat × Nat))) (z : Option (List GV)) (ps : List (Nat × GV)) : Option GV :=
 match z with
 | some zs =>
  (match (match ar with
   | some (some size) => gfill (fun i => some (i * size, size)) zs ps
   | some none => none
   | none => (match pl with | some l => gfill (fun i => l[i]?) zs ps | none => none)) with
  | some cs => some (mkAgg cs)
  | none => none)
 | none => none
def bdM (x : Option (List GV)) : Option GV := match x with | some cs => some (mkAgg cs) | none => none
@[simp] theorem bdM_some {cs : List GV} : bdM (some cs) = some (mkAgg cs) := .trans rfl rfl
@[simp] theorem bdV_arr {size : Nat} {pl : Option (List (Nat × Nat))} {zs : List GV} {ps : List (Nat × GV)} : bdV (some (some size)) pl (some zs) ps = bdM (gfill (fun i => some (i * size, size)) zs ps) := .trans rfl rfl
@[simp] theorem bdV_struct {l : List (Nat × Nat)} {zs : List GV} {ps : List (Nat × GV)} : bdV none (some l) (some zs) ps = bdM (gfill (fun i => l[i]?) zs ps) := .trans rfl rfl
@[simp] theorem gop_build {t : TypeId} {ps : Array (Nat × Operand)} : gop K fn ⟨dst, .build t ps, ty, pos, af, gu⟩ s H = rv H (bdV ((tarrS K.P t).map (·.2.1)) (tplaces K.P t) (cellsO' (tzero K.P t)) (ps.toList.map (evp s))) := by
 simp only [gop, bdV, tarrS]
 cases tzero K.P t with
 | none => rfl
 | some z =>
  simp only [cellsO'_some]
  cases cellsO z with
  | none => rfl
  | some zs =>
   simp only
   cases tarr K.P t with
   | some p =>
    obtain ⟨n, e⟩ := p
    simp only [Option.map_some]
    cases tsize K.P e with
    | none => rfl
    | some size =>
     simp only
     cases gfill (fun i => some (i * size, size)) zs (ps.toList.map (evp s)) <;> rfl
   | none =>
    simp only [Option.map_none]
    cases tplaces K.P t with
    | none => rfl
    | some l =>
     simp only
     cases gfill (fun i => l[i]?) zs (ps.toList.map (evp s)) <;> rfl
@[simp] theorem evp_def {x : Nat × Operand} : evp s x = (x.1, ev s x.2) := .trans rfl rfl
@[simp] theorem gfill_nil {place : Nat → Option (Nat × Nat)} {cells : List GV} : gfill place cells [] = some cells := .trans rfl rfl
def gfillC (place : Nat → Option (Nat × Nat)) (cells : List GV) (rest : List (Nat × GV)) (p : Option (Nat × Nat)) (vs : Option (List GV)) : Option (List GV) :=
 match p, vs with
 | some (off, size), some vs => if vs.length ≠ size ∨ off + vs.length > cells.length then none else gfill place (splice cells off vs) rest
 | _, _ => none
@[congr] theorem gfillC_cg {place : Nat → Option (Nat × Nat)} {cells : List GV} {rest : List (Nat × GV)} {p p' : Option (Nat × Nat)} {vs vs' : Option (List GV)} (h : ∀ _ : Unit, p = p') (h' : ∀ _ : Unit, vs = vs') : gfillC place cells rest p vs = gfillC place cells rest p' vs' := by rw [h (), h' ()]
@[simp] theorem gfillC_some {place : Nat → Option (Nat × Nat)} {cells : List GV} {rest : List (Nat × GV)} {off size : Nat} {vs : List GV} : gfillC place cells rest (some (off, size)) (some vs) =
  if vs.length ≠ size ∨ off + vs.length > cells.length then none else gfill place (splice cells off vs) rest := .trans rfl rfl
@[simp] theorem gfill_cons {place : Nat → Option (Nat × Nat)} {cells : List GV} {i : Nat} {v : GV} {rest : List (Nat × GV)} : gfill place cells ((i, v) :: rest) = gfillC place cells rest (place i) (cellsO v) := by
 simp only [gfill]
 cases place i with
 | none => rfl
 | some p => obtain ⟨off, size⟩ := p; cases cellsO v <;> rfl
@[simp] theorem splice_def {α : Type} {l xs : List α} {off : Nat} : splice l off xs = l.take off ++ xs ++ l.drop (off + xs.length) := .trans rfl rfl
def stBox (size off : Nat) (cells' : List GV × Heap) (nm : Nm) : Option Heap := match cells'.2.get nm with
 | some (.box cs) => if off + size ≤ cs.length then some (cells'.2.set nm (.box (splice cs off cells'.1))) else none
 | _ => none
def stB (size off : Nat) (cs' : List GV) (H : Heap) (nm : Nm) (b : Option Blk) : Option Heap := match b with
 | some (.box cs) => if off + size ≤ cs.length then some (H.set nm (.box (splice cs off cs'))) else none
 | _ => none
@[congr] theorem stB_cg {size off : Nat} {cs' : List GV} {nm : Nm} {b b' : Option Blk} (h : ∀ _ : Unit, b = b') : stB size off cs' H nm b = stB size off cs' H nm b' := by rw [h ()]
@[simp] theorem stB_box {size off : Nat} {cs' cs : List GV} {nm : Nm} : stB size off cs' H nm (some (.box cs)) = if off + size ≤ cs.length then some (H.set nm (.box (splice cs off cs'))) else none := .trans rfl rfl
@[simp] theorem stBox_def {size off : Nat} {cs' : List GV} {nm : Nm} : stBox size off (cs', H) nm = stB size off cs' H nm (H.get nm) := by
 unfold stBox stB; rfl
def stV (sz : Option Nat) (cells : Option (List GV)) (k : Nat → List GV → Option Heap) : Option Heap := match sz, cells with | some size, some cells => if cells.length ≠ size then none else k size cells | _, _ => none
@[congr] theorem stV_cg {sz sz' : Option Nat} {cells cells' : Option (List GV)} {k : Nat → List GV → Option Heap} (h : ∀ _ : Unit, sz = sz') (h' : ∀ _ : Unit, cells = cells') : stV sz cells k = stV sz' cells' k := by rw [h (), h' ()]
@[simp] theorem stV_some {size : Nat} {cells : List GV} {k : Nat → List GV → Option Heap} : stV (some size) (some cells) k = if cells.length ≠ size then none else k size cells := .trans rfl rfl
@[simp] theorem gstore_bptr {P : Program} {t : TypeId} {nm : Nm} {off : Nat} {v : GV} : gstore P t H (.bptr nm off) v = stV (tsize P t) (cellsO v) fun size cells => stBox size off (lowerCells H nm.1 cells) nm := by
 unfold gstore stV
 cases tsize P t with
 | none => rfl
 | some size =>
  cases cellsO v with
  | none => rfl
  | some cells => rfl
def stArr (size es top i off : Nat) (ps : List PV × Heap) (nm : Nm) : Option Heap := match ps.2.get nm with
  | some (.arr es' elems _ ro) => if es' = es ∧ ro = false ∧ top = elems.length ∧ i < top then
          (match elems[i]? with
          | some e => if off + size ≤ e.length then some (ps.2.set nm (.arr es' (elems.set i (splice e off ps.1)) elems.length false)) else none
          | none => none)
        else none
  | _ => none
@[simp] theorem gstore_eptr {P : Program} {t : TypeId} {nm : Nm} {es top i off : Nat} {v : GV} : gstore P t H (.eptr nm es top i off) v = stV (tsize P t) (cellsO v) fun size cells => stArr size es top i off (pureCells H cells) nm := by
 unfold gstore stV
 cases tsize P t with
 | none => rfl
 | some size =>
  cases cellsO v with
  | none => rfl
  | some cells => rfl
def stA (size es top i off : Nat) (ps : List PV) (H : Heap) (nm : Nm) (b : Option Blk) : Option Heap := match b with
  | some (.arr es' elems _ ro) => if es' = es ∧ ro = false ∧ top = elems.length ∧ i < top then
          (match elems[i]? with
          | some e => if off + size ≤ e.length then some (H.set nm (.arr es' (elems.set i (splice e off ps)) elems.length false)) else none
          | none => none)
        else none
  | _ => none
@[congr] theorem stA_cg {size es top i off : Nat} {ps : List PV} {nm : Nm} {b b' : Option Blk} (h : ∀ _ : Unit, b = b') : stA size es top i off ps H nm b = stA size es top i off ps H nm b' := by rw [h ()]
@[simp] theorem stA_arr {size es top i off es' vf : Nat} {ps : List PV} {nm : Nm} {elems : List (List PV)} {ro : Bool} : stA size es top i off ps H nm (some (.arr es' elems vf ro)) = if es' = es ∧ ro = false ∧ top = elems.length ∧ i < top then
          (match elems[i]? with
          | some e => if off + size ≤ e.length then some (H.set nm (.arr es' (elems.set i (splice e off ps)) elems.length false)) else none
          | none => none)
        else none := .trans rfl rfl
@[simp] theorem stArr_def {size es top i off : Nat} {ps : List PV} {nm : Nm} : stArr size es top i off (ps, H) nm = stA size es top i off ps H nm (H.get nm) := by
 unfold stArr stA; rfl
@[simp] theorem lowerCells_nil {l0 : Nat} : lowerCells H l0 [] = ([], H) := .trans rfl rfl
def lcC (l0 : Nat) (r : List GV) (x : GV × Heap) : List GV × Heap := (x.1 :: (lowerCells x.2 l0 r).1, (lowerCells x.2 l0 r).2)
@[congr] theorem lcC_cg {l0 : Nat} {r : List GV} {x y : GV × Heap} (h : ∀ _ : Unit, x = y) : lcC l0 r x = lcC l0 r y := by rw [h ()]
@[simp] theorem lcC_pair {l0 : Nat} {r : List GV} {g : GV} : lcC l0 r (g, H) = (g :: (lowerCells H l0 r).1, (lowerCells H l0 r).2) := .trans rfl rfl
@[simp] theorem lowerCells_cons {l0 : Nat} {g : GV} {r : List GV} : lowerCells H l0 (g :: r) = lcC l0 r (lowerCell H l0 g) := .trans rfl rfl
@[simp] theorem lowerCells_pures {l0 : Nat} : ∀ {ps : List PV}, lowerCells H l0 (ps.map .pure) = (ps.map .pure, H)
 | [] => rfl
 | p :: ps => by rw [List.map_cons, lowerCells_cons]; show lcC l0 _ (.pure p, H) = _; rw [lcC_pair, lowerCells_pures]
@[simp] theorem lowerCell_pure {l0 : Nat} {p : PV} : lowerCell H l0 (.pure p) = (.pure p, H) := .trans rfl rfl
@[simp] theorem lowerCell_nils {l0 : Nat} : lowerCell H l0 .nils = (.nils, H) := .trans rfl rfl
@[simp] theorem lowerCell_bptr {l0 : Nat} {nm : Nm} {o : Nat} : lowerCell H l0 (.bptr nm o) = (if nm.1 ≤ l0 then .bptr nm o else gdead, H) := .trans rfl rfl
@[simp] theorem lowerCell_map {l0 : Nat} {nm : Nm} : lowerCell H l0 (.map nm) = (if nm.1 ≤ l0 then .map nm else gdead, H) := .trans rfl rfl
@[simp] theorem lowerCell_func {l0 : Nat} {f : Nat} {a c : List GV} : lowerCell H l0 (.func f a c) = (if allLe l0 a && allLe l0 c then .func f a c else gdead, H) := .trans rfl rfl
@[simp] theorem lowerCell_hdr {l0 : Nat} {nm : Nm} {es top lo len : Nat} : lowerCell H l0 (.hdr nm es top lo len) = if nm.1 ≤ l0 then (.hdr nm es top lo len, H) else (.pure (pureCell H (.hdr nm es top lo len)).1, (pureCell H (.hdr nm es top lo len)).2) := .trans rfl rfl
@[simp] theorem pureCells_nil : pureCells H [] = ([], H) := .trans rfl rfl
def pcC (r : List GV) (x : PV × Heap) : List PV × Heap := (x.1 :: (pureCells x.2 r).1, (pureCells x.2 r).2)
@[congr] theorem pcC_cg {r : List GV} {x y : PV × Heap} (h : ∀ _ : Unit, x = y) : pcC r x = pcC r y := by rw [h ()]
@[simp] theorem pcC_pair {r : List GV} {g : PV} : pcC r (g, H) = (g :: (pureCells H r).1, (pureCells H r).2) := .trans rfl rfl
@[simp] theorem pureCells_cons {g : GV} {r : List GV} : pureCells H (g :: r) = pcC r (pureCell H g) := .trans rfl rfl
@[simp] theorem pureCell_pure {p : PV} : pureCell H (.pure p) = (p, H) := .trans rfl rfl
@[simp] theorem pureCell_nils : pureCell H .nils = (.slice [], H) := .trans rfl rfl
@[simp] theorem pureCells_pures : ∀ {ps : List PV}, pureCells H (ps.map .pure) = (ps, H)
 | [] => rfl
 | p :: ps => by rw [List.map_cons, pureCells_cons, pureCell_pure, pcC_pair, pureCells_pures]
def pcHdr (es top lo len : Nat) (H : Heap) (nm : Nm) (b : Option Blk) : PV × Heap := match b with
  | some (.arr es' elems vf _) => if es' = es ∧ vf ≤ top ∧ lo + len ≤ top ∧ top ≤ elems.length then (.slice ((elems.drop lo).take len), H.set nm (.arr es' elems vf true)) else (.dead, H)
  | _ => (.dead, H)
@[congr] theorem pcHdr_cg {es top lo len : Nat} {nm : Nm} {b b' : Option Blk} (h : ∀ _ : Unit, b = b') : pcHdr es top lo len H nm b = pcHdr es top lo len H nm b' := by rw [h ()]
@[simp] theorem pcHdr_arr {es top lo len es' vf : Nat} {nm : Nm} {elems : List (List PV)} {ro : Bool} : pcHdr es top lo len H nm (some (.arr es' elems vf ro)) =
  if es' = es ∧ vf ≤ top ∧ lo + len ≤ top ∧ top ≤ elems.length then (.slice ((elems.drop lo).take len), H.set nm (.arr es' elems vf true)) else (.dead, H) := .trans rfl rfl
@[simp] theorem pureCell_hdr {nm : Nm} {es top lo len : Nat} : pureCell H (.hdr nm es top lo len) = pcHdr es top lo len H nm (H.get nm) := by
 rw [pureCell_hdr_get]; unfold pcHdr
 cases H.get nm with
 | none => rfl
 | some b => cases b <;> rfl
@[simp] theorem gop_len {x : Operand} {t : TypeId} : gop K fn ⟨dst, .call ⟨.builtin .len, #[x], #[t]⟩, ty, pos, af, gu⟩ s H = rp H ((glen K t H (ev s x)).map (.int .i64)) := by
 show (match glen K t H (ev s x) with | some n => some (GV.pure (.int .i64 n), H) | none => none) = _
 cases glen K t H (ev s x) <;> rfl
def lenD (d : Option TypeDesc) (H : Heap) (x : GV) : Option Int :=
 match d, x with
 | some (.array n _), _ => some n
 | some (.slice _), .hdr _ _ _ _ len => some len
 | some (.slice _), .rhdr _ _ _ len => some len
 | some (.slice _), .nils => some 0
 | some (.slice _), .lits l => some l.length
 | some (.slice _), .pure (.slice l) => some l.length
 | some .string, .pure (.str l) => some l.length
 | some (.map _ _), .pure .nilm => some 0
 | some (.map _ _), .map nm => (match H.get nm with | some (.map es) => some es.length | _ => none)
 | _, _ => none
@[simp] theorem glen_def {t : TypeId} {x : GV} : glen K t H x = lenD (K.P.underlying t) H x := .trans rfl rfl
@[simp] theorem lenD_hdr {e : TypeId} {nm : Nm} {es top lo len : Nat} : lenD (some (.slice e)) H (.hdr nm es top lo len) = some (len : Int) := .trans rfl rfl
@[simp] theorem lenD_rhdr {e : TypeId} {nm : Nm} {es i len : Nat} : lenD (some (.slice e)) H (.rhdr nm es i len) = some (len : Int) := .trans rfl rfl
@[simp] theorem lenD_nils {e : TypeId} : lenD (some (.slice e)) H .nils = some 0 := .trans rfl rfl
@[simp] theorem lenD_lits {e : TypeId} {l : List (List GV)} : lenD (some (.slice e)) H (.lits l) = some (l.length : Int) := .trans rfl rfl
@[simp] theorem lenD_pure {e : TypeId} {l : List (List PV)} : lenD (some (.slice e)) H (.pure (.slice l)) = some (l.length : Int) := .trans rfl rfl
@[simp] theorem lenD_str {l : List UInt8} : lenD (some .string) H (.pure (.str l)) = some (l.length : Int) := .trans rfl rfl
@[simp] theorem gop_extract {t : Operand} {i : Nat} : gop K fn ⟨dst, .extract t i, ty, pos, af, gu⟩ s H = rv H (match ev s t with | .tuple l => l[i]? | .pure (.tuple l) => (match l[i]? with | some v => some (.pure v) | none => none) | _ => none) := by
 simp only [gop]
 cases ev s t with
 | tuple l => simp only; cases l[i]? <;> rfl
 | pure p =>
  cases p with
  | tuple l => simp only; cases l[i]? <;> rfl
  | _ => rfl
 | _ => rfl
@[simp] theorem packG_one {r : GV} : packG [r] = r := .trans rfl rfl
@[simp] theorem packG_nil : packG [] = .pure (.tuple []) := .trans rfl rfl
@[simp] theorem packG_two {a b : GV} {l : List GV} : packG (a :: b :: l) = mkTuple (a :: b :: l) := .trans rfl rfl
@[simp] theorem frzVals_nil : frzVals H [] = ([], H) := .trans rfl rfl
@[simp] theorem frzVal_pure {p : PV} : frzVal H (.pure p) = (.pure p, H) := .trans rfl rfl
@[simp] theorem frzVal_bptr {nm : Nm} {o : Nat} : frzVal H (.bptr nm o) = (.bptr nm o, H) := .trans rfl rfl
@[simp] theorem frzVal_map {nm : Nm} : frzVal H (.map nm) = (.map nm, H) := .trans rfl rfl
@[simp] theorem frzVal_func {f : Nat} {a c : List GV} : frzVal H (.func f a c) = (.func f a c, H) := .trans rfl rfl
@[simp] theorem frzVal_yield {nm : Nm} : frzVal H (.yield nm) = (.yield nm, H) := .trans rfl rfl
@[simp] theorem canon_pure {p : PV} : canon (.pure p) = .pure p := .trans rfl rfl
@[simp] theorem canon_bptr {nm : Nm} {o : Nat} : canon (.bptr nm o) = .bptr nm o := .trans rfl rfl
@[simp] theorem canon_map {nm : Nm} : canon (.map nm) = .map nm := .trans rfl rfl
@[simp] theorem canon_func {f : Nat} {a c : List GV} : canon (.func f a c) = .func f a c := .trans rfl rfl
@[simp] theorem canon_yield {nm : Nm} : canon (.yield nm) = .yield nm := .trans rfl rfl
@[simp] theorem canon_nils : canon .nils = .pure (.slice []) := .trans rfl rfl
@[simp] theorem canon_hdr {nm : Nm} {es top lo len : Nat} : canon (.hdr nm es top lo len) = .hdr nm es top lo len := .trans rfl rfl
@[simp] theorem canon_agg {l : List GV} : canon (.agg l) = mkAgg (l.map canon1) := .trans rfl rfl
@[simp] theorem canon1_pure {p : PV} : canon1 (.pure p) = .pure p := .trans rfl rfl
@[simp] theorem canon1_nils : canon1 .nils = .pure (.slice []) := .trans rfl rfl
@[simp] theorem canon1_hdr {nm : Nm} {es top lo len : Nat} : canon1 (.hdr nm es top lo len) = .hdr nm es top lo len := .trans rfl rfl
@[simp] theorem canon1_bptr {nm : Nm} {o : Nat} : canon1 (.bptr nm o) = .bptr nm o := .trans rfl rfl
@[simp] theorem canon1_func {f : Nat} {a c : List GV} : canon1 (.func f a c) = .func f a c := .trans rfl rfl
@[simp] theorem canon1_map {nm : Nm} : canon1 (.map nm) = .map nm := .trans rfl rfl
@[simp] theorem canon_tuple {l : List GV} : canon (.tuple l) = mkTuple (l.map fun g => match g with | .agg l => mkAgg (l.map canon1) | g => canon1 g) := .trans rfl rfl
@[simp] theorem clean_pure {l0 : Nat} {p : PV} : clean H l0 (.pure p) = .pure p := .trans rfl rfl
@[simp] theorem clean_nils {l0 : Nat} : clean H l0 .nils = .nils := .trans rfl rfl
@[simp] theorem clean_bptr {l0 : Nat} {nm : Nm} {o : Nat} : clean H l0 (.bptr nm o) = if nm.1 ≤ l0 then .bptr nm o else gdead := .trans rfl rfl
@[simp] theorem clean_map {l0 : Nat} {nm : Nm} : clean H l0 (.map nm) = if nm.1 ≤ l0 then .map nm else gdead := .trans rfl rfl
@[simp] theorem clean_yield {l0 : Nat} {nm : Nm} : clean H l0 (.yield nm) = if nm.1 ≤ l0 then .yield nm else gdead := .trans rfl rfl
@[simp] theorem clean_eptr {l0 : Nat} {nm : Nm} {es top i o : Nat} : clean H l0 (.eptr nm es top i o) = if nm.1 ≤ l0 then .eptr nm es top i o else gdead := .trans rfl rfl
@[simp] theorem clean_hdr {l0 : Nat} {nm : Nm} {es top lo len : Nat} : clean H l0 (.hdr nm es top lo len) = if nm.1 ≤ l0 then .hdr nm es top lo len else .pure (sliceOfM H nm es top lo len) := .trans rfl rfl
def capD (f : Nat) (a : List GV) (x : Option (List GV)) : GV := match x with | some c => .func f a c | none => gdead
@[congr] theorem capD_cg {f : Nat} {a : List GV} {x y : Option (List GV)} (h : ∀ _ : Unit, x = y) : capD f a x = capD f a y := by rw [h ()]
@[simp] theorem capD_some {f : Nat} {a c : List GV} : capD f a (some c) = .func f a c := .trans rfl rfl
@[simp] theorem clean_func {l0 : Nat} {f : Nat} {a c : List GV} : clean H l0 (.func f a c) = if allLe l0 a && allLe l0 c then .func f a c else if allLe l0 a then capD f a (capsP H l0 c) else gdead := .trans rfl rfl
@[simp] theorem clean1_func {l0 : Nat} {f : Nat} {a c : List GV} : clean1 H l0 (.func f a c) = if allLe l0 a && allLe l0 c then .func f a c else gdead := .trans rfl rfl
@[simp] theorem allLe_pptr {l0 : Nat} {cs : List PV} {r : List GV} : allLe l0 (.pptr cs :: r) = allLe l0 r := .trans rfl rfl
@[simp] theorem clean_pptr {l0 : Nat} {cs : List PV} : clean H l0 (.pptr cs) = .pptr cs := .trans rfl rfl
@[simp] theorem clean_agg {l0 : Nat} {l : List GV} : clean H l0 (.agg l) = mkAgg (l.map (clean1 H l0)) := .trans rfl rfl
@[simp] theorem clean_tuple {l0 : Nat} {l : List GV} : clean H l0 (.tuple l) = mkTuple (l.map (clean2 H l0)) := .trans rfl rfl
@[simp] theorem clean2_agg {l0 : Nat} {l : List GV} : clean2 H l0 (.agg l) = mkAgg (l.map (clean1 H l0)) := .trans rfl rfl
@[simp] theorem clean2_pure {l0 : Nat} {p : PV} : clean2 H l0 (.pure p) = .pure p := .trans rfl rfl
@[simp] theorem clean2_nils {l0 : Nat} : clean2 H l0 .nils = .nils := .trans rfl rfl
@[simp] theorem clean2_hdr {l0 : Nat} {nm : Nm} {es top lo len : Nat} : clean2 H l0 (.hdr nm es top lo len) = if nm.1 ≤ l0 then .hdr nm es top lo len else .pure (sliceOfM H nm es top lo len) := .trans rfl rfl
@[simp] theorem clean1_pure {l0 : Nat} {p : PV} : clean1 H l0 (.pure p) = .pure p := .trans rfl rfl
@[simp] theorem clean1_nilsE {l0 : Nat} : clean1 H l0 .nils = .nils := .trans rfl rfl
@[simp] theorem clean1_hdr {l0 : Nat} {nm : Nm} {es top lo len : Nat} : clean1 H l0 (.hdr nm es top lo len) = if nm.1 ≤ l0 then .hdr nm es top lo len else .pure (sliceOfM H nm es top lo len) := .trans rfl rfl
@[simp] theorem clean1_bptr {l0 : Nat} {nm : Nm} {o : Nat} : clean1 H l0 (.bptr nm o) = if nm.1 ≤ l0 then .bptr nm o else gdead := .trans rfl rfl
@[simp] theorem clean1_map {l0 : Nat} {nm : Nm} : clean1 H l0 (.map nm) = if nm.1 ≤ l0 then .map nm else gdead := .trans rfl rfl
def slD (es top lo len : Nat) (b : Option Blk) : PV := match b with
 | some (.arr es' elems vf _) => if es' = es ∧ vf ≤ top ∧ lo + len ≤ top ∧ top ≤ elems.length then .slice ((elems.drop lo).take len) else .dead
 | _ => .dead
@[simp] theorem slD_arr {es top lo len es' vf : Nat} {elems : List (List PV)} {ro : Bool} : slD es top lo len (some (.arr es' elems vf ro)) = if es' = es ∧ vf ≤ top ∧ lo + len ≤ top ∧ top ≤ elems.length then .slice ((elems.drop lo).take len) else .dead := .trans rfl rfl
@[simp] theorem sliceOf_def {nm : Nm} {es top lo len : Nat} : sliceOf H nm es top lo len = slD es top lo len (H.get nm) := by
 unfold sliceOf slD
 cases H.get nm with
 | none => rfl
 | some b => cases b <;> rfl
def slM (es top lo len : Nat) (b : Option Blk) : PV := match b with
 | some (.mat _ rows n) => if es = 1 ∧ lo + len ≤ top ∧ top ≤ n then .slice (((rows.drop lo).take len).map fun r => [.slice r]) else .dead
 | b => slD es top lo len b
@[simp] theorem slM_arr {es top lo len es' vf : Nat} {elems : List (List PV)} {ro : Bool} : slM es top lo len (some (.arr es' elems vf ro)) = if es' = es ∧ vf ≤ top ∧ lo + len ≤ top ∧ top ≤ elems.length then .slice ((elems.drop lo).take len) else .dead := .trans rfl rfl
@[simp] theorem slM_mat {es top lo len es' n : Nat} {rows : List (List (List PV))} : slM es top lo len (some (.mat es' rows n)) = if es = 1 ∧ lo + len ≤ top ∧ top ≤ n then .slice (((rows.drop lo).take len).map fun r => [.slice r]) else .dead := .trans rfl rfl
@[simp] theorem sliceOfM_def {nm : Nm} {es top lo len : Nat} : sliceOfM H nm es top lo len = slM es top lo len (H.get nm) := by
 unfold sliceOfM
 rw [sliceOf_def]
 unfold slM
 cases H.get nm with
 | none => rfl
 | some b => cases b <;> rfl
@[simp] theorem allLe_nil {l0 : Nat} : allLe l0 [] = true := .trans rfl rfl
@[simp] theorem allLe_pure {l0 : Nat} {p : PV} {r : List GV} : allLe l0 (.pure p :: r) = allLe l0 r := .trans rfl rfl
@[simp] theorem allLe_nils {l0 : Nat} {r : List GV} : allLe l0 (.nils :: r) = allLe l0 r := .trans rfl rfl
@[simp] theorem allLe_bptr {l0 : Nat} {nm : Nm} {o : Nat} {r : List GV} : allLe l0 (.bptr nm o :: r) = (decide (nm.1 ≤ l0) && allLe l0 r) := .trans rfl rfl
@[simp] theorem allLe_hdr {l0 : Nat} {nm : Nm} {es top lo len : Nat} {r : List GV} : allLe l0 (.hdr nm es top lo len :: r) = (decide (nm.1 ≤ l0) && allLe l0 r) := .trans rfl rfl
@[simp] theorem allLe_map {l0 : Nat} {nm : Nm} {r : List GV} : allLe l0 (.map nm :: r) = (decide (nm.1 ≤ l0) && allLe l0 r) := .trans rfl rfl
@[simp] theorem allLe_yield {l0 : Nat} {nm : Nm} {r : List GV} : allLe l0 (.yield nm :: r) = (decide (nm.1 ≤ l0) && allLe l0 r) := .trans rfl rfl
theorem gleave_free {f : Nat} {c : Nat} {r : GV} {fr : Fr} (h : K.keep f = false) : gleave K f c r (fr :: H) = some (canon (clean (fr :: H) (H.length - 1) r), H) := by
 unfold gleave; simp [h]
end
end
section
section
variable {K : Ctx} {fn : FuncId} {rec : Rec} {dst : Option Tmp} {ty : TypeId} {pos : String} {af : Array Edge} {gu : Option (Nat × Bool)} {s : Slots} {H : Heap}
def tapp (P : Program) (t : TypeId) : Option (Option Nat × Option Nat × Option Nat) := (telem P t).map fun e => (tsize P e, tbytes P e, zsize P e)
def apV (lv : Option Nat) (k : Nat → Option (GV × Heap)) : Option (GV × Heap) := match lv with | some l => k l | none => none
@[congr] theorem apV_cg {lv lv' : Option Nat} {k : Nat → Option (GV × Heap)} (h : ∀ _ : Unit, lv = lv') : apV lv k = apV lv' k := by rw [h ()]
@[simp] theorem apV_some {l : Nat} {k : Nat → Option (GV × Heap)} : apV (some l) k = k l := .trans rfl rfl
def gapE (ta : Option (Option Nat × Option Nat × Option Nat)) (xs : Option (List (List PV) × Heap)) (k : Nat → Nat → List (List PV) → Heap → Option (GV × Heap)) : Option (GV × Heap) :=
 match ta, xs with
 | some (some size, some bytes, zs), some (xs, H) =>
  if zs = some size ∧ (xs.all fun r => r.length == size) = true ∧ 0 < size ∧ 0 < bytes ∧ bytes ≤ 1048576 then k size bytes xs H else none
 | _, _ => none
@[congr] theorem gapE_cg {ta ta' : Option (Option Nat × Option Nat × Option Nat)} {xs xs' : Option (List (List PV) × Heap)} {k : Nat → Nat → List (List PV) → Heap → Option (GV × Heap)} (h : ∀ _ : Unit, ta = ta') (h' : ∀ _ : Unit, xs = xs') : gapE ta xs k = gapE ta' xs' k := by rw [h (), h' ()]
@[simp] theorem gapE_some {size bytes : Nat} {zs : Option Nat} {xs : List (List PV)} {k : Nat → Nat → List (List PV) → Heap → Option (GV × Heap)} : gapE (some (some size, some bytes, zs)) (some (xs, H)) k =
  if zs = some size ∧ (xs.all fun r => r.length == size) = true ∧ 0 < size ∧ 0 < bytes ∧ bytes ≤ 1048576 then k size bytes xs H else none := .trans rfl rfl
def apK (l key : Nat) (s : GV) (size bytes : Nat) (xs : List (List PV)) (H : Heap) : Option (GV × Heap) :=
 match s with
 | .nils =>
  if xs.length * bytes ≤ 1099511627776 then (if xs.isEmpty then some (.nils, H) else rn (gnewU H l key (.arr size xs 0 false)) fun nm => .hdr nm size xs.length 0 xs.length) else none
 | .lits old =>
  (match pureRowsO old with
  | some ps => if ps.isEmpty = false ∧ xs.isEmpty = false ∧ (ps.all fun r => r.length == size) = true ∧ (ps.length + xs.length) * bytes ≤ 1099511627776 then rn (gnewU H l key (.arr size (ps ++ xs) 0 false)) (fun nm => .hdr nm size (ps.length + xs.length) 0 (ps.length + xs.length)) else none
  | none => none)
 | .hdr nm es top lo len =>
  (match H.get nm with
  | some (.arr es' elems vf ro) =>
   if es' = size ∧ es = size ∧ top = elems.length ∧ lo = 0 ∧ len = top ∧ vf ≤ top ∧ ro = false ∧ (len + xs.length) * bytes ≤ 1099511627776 ∧ nm.2 < tyBase then
    (if xs.isEmpty then some (.hdr nm es top lo len, H) else some (.hdr nm es (top + xs.length) 0 (top + xs.length), H.set nm (.arr es' (elems ++ xs) vf false)))
   else if es' = size ∧ es = size ∧ top = elems.length ∧ vf ≤ top ∧ ro = false ∧ lo + len + xs.length ≤ top then
    (if xs.isEmpty then some (.hdr nm es top lo len, H) else some (.hdr nm es top lo (len + xs.length), H.set nm (.arr es' (splice elems (lo + len) xs) top false)))
   else none
  | _ => none)
 | _ => none
@[simp] theorem apK_nils {l key size bytes : Nat} {xs : List (List PV)} : apK l key .nils size bytes xs H =
  if xs.length * bytes ≤ 1099511627776 then (if xs.isEmpty then some (.nils, H) else rn (gnewU H l key (.arr size xs 0 false)) fun nm => .hdr nm size xs.length 0 xs.length) else none := .trans rfl rfl
def apH (H : Heap) (nm : Nm) (es top lo len size bytes : Nat) (xs : List (List PV)) (b : Option Blk) : Option (GV × Heap) := match b with
  | some (.arr es' elems vf ro) =>
   if es' = size ∧ es = size ∧ top = elems.length ∧ lo = 0 ∧ len = top ∧ vf ≤ top ∧ ro = false ∧ (len + xs.length) * bytes ≤ 1099511627776 ∧ nm.2 < tyBase then
    (if xs.isEmpty then some (.hdr nm es top lo len, H) else some (.hdr nm es (top + xs.length) 0 (top + xs.length), H.set nm (.arr es' (elems ++ xs) vf false)))
   else if es' = size ∧ es = size ∧ top = elems.length ∧ vf ≤ top ∧ ro = false ∧ lo + len + xs.length ≤ top then
    (if xs.isEmpty then some (.hdr nm es top lo len, H) else some (.hdr nm es top lo (len + xs.length), H.set nm (.arr es' (splice elems (lo + len) xs) top false)))
   else none
  | _ => none
@[congr] theorem apH_cg {nm : Nm} {es top lo len size bytes : Nat} {xs : List (List PV)} {b b' : Option Blk} (h : ∀ _ : Unit, b = b') : apH H nm es top lo len size bytes xs b = apH H nm es top lo len size bytes xs b' := by rw [h ()]
@[simp] theorem apH_arr {nm : Nm} {es top lo len size bytes : Nat} {xs : List (List PV)} {es' vf : Nat} {elems : List (List PV)} {ro : Bool} : apH H nm es top lo len size bytes xs (some (.arr es' elems vf ro)) =
      if es' = size ∧ es = size ∧ top = elems.length ∧ lo = 0 ∧ len = top ∧ vf ≤ top ∧ ro = false ∧ (len + xs.length) * bytes ≤ 1099511627776 ∧ nm.2 < tyBase then
        (if xs.isEmpty then some (.hdr nm es top lo len, H) else some (.hdr nm es (top + xs.length) 0 (top + xs.length), H.set nm (.arr es' (elems ++ xs) vf false)))
      else if es' = size ∧ es = size ∧ top = elems.length ∧ vf ≤ top ∧ ro = false ∧ lo + len + xs.length ≤ top then
        (if xs.isEmpty then some (.hdr nm es top lo len, H) else some (.hdr nm es top lo (len + xs.length), H.set nm (.arr es' (splice elems (lo + len) xs) top false)))
      else none := .trans rfl rfl
@[simp] theorem apK_hdr {l key size bytes : Nat} {xs : List (List PV)} {nm : Nm} {es top lo len : Nat} : apK l key (.hdr nm es top lo len) size bytes xs H = apH H nm es top lo len size bytes xs (H.get nm) := by
 unfold apK apH
 rfl
def typE (K : Ctx) (t : TypeId) : Bool := match telem K.P t with | some e => K.typ e | none => false
theorem gappend_def {l key : Nat} {t : TypeId} {a x : GV} (hE : typE K t = false) (hk : key < tyBase) : gappend K H l key t a x = gapE (tapp K.P t) (gelems H x) (apK l key a) := by
 unfold gappend tapp
 unfold typE at hE
 cases he : telem K.P t with
 | none => rfl
 | some e =>
  rw [he] at hE
  simp only at hE
  simp only [Option.map_some]
  cases tsize K.P e with
  | none => rfl
  | some size =>
   cases tbytes K.P e with
   | none => rfl
   | some bytes =>
    cases gelems H x with
    | none => rfl
    | some y =>
     obtain ⟨xs, H1⟩ := y
     simp only [gapE]
     by_cases hc : zsize K.P e = some size ∧ (xs.all fun r => r.length == size) = true ∧ 0 < size ∧ 0 < bytes ∧ bytes ≤ 1048576
     ·obtain ⟨h1, h2, h3, h4, h5⟩ := hc
      simp only [h1, h2, h3, h4, h5, decide_true, Bool.and_self, and_self, if_true]
      unfold apK
      cases a with
      | nils =>
       simp only [gnewE, hE, Bool.false_eq_true, if_false, gnewAt_U hk]
       split
       ·split
        ·rfl
        ·cases gnewU H1 l key (.arr size xs 0 false) <;> rfl
       ·rfl
      | lits old =>
       simp only [gnewE, hE, Bool.false_eq_true, if_false, gnewAt_U hk]
       cases pureRowsO old with
       | none => rfl
       | some ps =>
        simp only
        split
        ·cases gnewU H1 l key (.arr size (ps ++ xs) 0 false) <;> rfl
        ·rfl
      | hdr nm es top lo len =>
       simp only [nmOk, hE, Bool.false_eq_true, if_false, decide_eq_true_eq]
       rfl
      | _ => rfl
     ·rw [if_neg hc, if_neg]
      intro h
      simp only [Bool.and_eq_true, decide_eq_true_eq] at h
      exact hc ⟨h.1.1.1.1, h.1.1.1.2, h.1.1.2, h.1.2, h.2⟩
def apR (r : Option Nat) (x : Option (GV × Heap)) (y : Nat → Option (GV × Heap)) : Option (GV × Heap) := match r with | none => x | some key => y key
@[congr] theorem apR_cg {r r' : Option Nat} {x : Option (GV × Heap)} {y : Nat → Option (GV × Heap)} (h : ∀ _ : Unit, r = r') : apR r x y = apR r' x y := by rw [h ()]
@[simp] theorem apR_none {x : Option (GV × Heap)} {y : Nat → Option (GV × Heap)} : apR none x y = x := .trans rfl rfl
@[simp] theorem apR_some {key : Nat} {x : Option (GV × Heap)} {y : Nat → Option (GV × Heap)} : apR (some key) x y = y key := .trans rfl rfl
def upX (bn : Option Nm) (k : Nm → Option (GV × Heap)) : Option (GV × Heap) := match bn with | some l => k l | none => none
@[congr] theorem upX_cg {lv lv' : Option Nm} {k : Nm → Option (GV × Heap)} (h : ∀ _ : Unit, lv = lv') : upX lv k = upX lv' k := by rw [h ()]
@[simp] theorem upX_some {l : Nm} {k : Nm → Option (GV × Heap)} : upX (some l) k = k l := .trans rfl rfl
def upN : GV → Option Nm | .bptr nm _ => some nm | _ => none
@[simp] theorem upN_bptr {nm : Nm} {o : Nat} : upN (.bptr nm o) = some nm := .trans rfl rfl
@[simp] theorem upBox_box {t : Nat} : upBox s (.box t) = upN (look s t) := by
 unfold upBox upN; rfl
@[simp] theorem gop_append {d : Nat} {x y : Operand} {t t2 : TypeId} (hE : typE K t = false) (hd : d < tyBase) : gop K fn ⟨some d, .call ⟨.builtin .append, #[x, y], #[t, t2]⟩, ty, pos, af, gu⟩ s H =
  if spreads K.P (some t2) = true then apR (K.row fn d) (apV (upLevel H s (K.up fn d)) fun l => gapE (tapp K.P t) (gelems H (ev s y)) (apK l d (ev s x))) fun key => upX (upBox s (K.up fn d)) fun bn => gappendR K H bn key t (ev s x) (ev s y) else none := by
 show (if spreads K.P (some t2) = true then (match K.row fn d with | none => (match upLevel H s (K.up fn d) with | some l => gappend K H l d t (ev s x) (ev s y) | none => none) | some key => (match upBox s (K.up fn d) with | some bn => gappendR K H bn key t (ev s x) (ev s y) | none => none)) else none) = _
 split
 ·cases K.row fn d with
  | none =>
   simp only [apR]
   cases upLevel H s (K.up fn d) with
   | none => rfl
   | some l => exact gappend_def hE hd
  | some key => rfl
 ·rfl
@[simp] theorem upLevel_scopes {n : Nat} : upLevel H s (.scopes n) = if H.length ≤ n then none else some (H.length - 1 - n) := .trans rfl rfl
def upB : GV → Option Nat | .bptr nm _ => some nm.1 | _ => none
@[simp] theorem upB_bptr {nm : Nm} {o : Nat} : upB (.bptr nm o) = some nm.1 := .trans rfl rfl
@[simp] theorem upLevel_box {t : Nat} : upLevel H s (.box t) = upB (look s t) := by
 unfold upLevel upB; rfl
@[simp] theorem gnewU_def {l key : Nat} {b : Blk} : gnewU H l key b = if H.length ≤ l then none else if (H.get (l, key)).isSome then none else some ((l, key), H.set (l, key) b) := by
 unfold gnewU
 split
 ·rfl
 ·cases H.get (l, key) <;> simp
@[simp] theorem gelems_nils : gelems H .nils = some ([], H) := .trans rfl rfl
@[simp] theorem gelems_pure {l : List (List PV)} : gelems H (.pure (.slice l)) = some (l, H) := .trans rfl rfl
@[simp] theorem gelems_str {l : List UInt8} : gelems H (.pure (.str l)) = some (l.map fun b => [.int .u8 b.toNat], H) := .trans rfl rfl
@[simp] theorem gelems_lits {l : List (List GV)} : gelems H (.lits l) = some (pureRows H l) := .trans rfl rfl
def elH (H : Heap) (x : PV) : Option (List (List PV) × Heap) := match x with | .slice l => some (l, H) | _ => none
@[simp] theorem elH_slice {l : List (List PV)} : elH H (.slice l) = some (l, H) := .trans rfl rfl
@[simp] theorem gelems_hdr {nm : Nm} {es top lo len : Nat} : gelems H (.hdr nm es top lo len) = elH H (slD es top lo len (H.get nm)) := by
 rw [← sliceOf_def]
 unfold gelems elH
 simp only
 generalize sliceOf H nm es top lo len = q
 cases q <;> rfl
@[simp] theorem pureRows_nil : pureRows H [] = ([], H) := .trans rfl rfl
def prC (r : List (List GV)) (x : List PV × Heap) : List (List PV) × Heap := (x.1 :: (pureRows x.2 r).1, (pureRows x.2 r).2)
@[congr] theorem prC_cg {r : List (List GV)} {x y : List PV × Heap} (h : ∀ _ : Unit, x = y) : prC r x = prC r y := by rw [h ()]
@[simp] theorem prC_pair {r : List (List GV)} {g : List PV} : prC r (g, H) = (g :: (pureRows H r).1, (pureRows H r).2) := .trans rfl rfl
@[simp] theorem pureRows_cons {g : List GV} {r : List (List GV)} : pureRows H (g :: r) = prC r (pureCells H g) := .trans rfl rfl
@[simp] theorem gop_slice {t : TypeId} {x : Operand} {lo hi mx : Option Operand} : gop K fn ⟨dst, .slice t x lo hi mx, ty, pos, af, gu⟩ s H = rv H (gslice K t (ev s x) (lo.map (ev s)) (hi.map (ev s)) (mx.map (ev s))) := by
 simp only [gop, rv]; rfl
def slP (es : Option (Option Nat)) (a b : Option Nat) (l : List (List PV)) : Option GV :=
 match es, a, b with
 | some (some es), some a, some b => if a ≤ b ∧ b ≤ l.length ∧ (l.all fun r => r.length == es) = true then some (.pure (.slice ((l.take b).drop a))) else none
 | _, _, _ => none
@[simp] theorem slP_some {es a b : Nat} {l : List (List PV)} : slP (some (some es)) (some a) (some b) l = if a ≤ b ∧ b ≤ l.length ∧ (l.all fun r => r.length == es) = true then some (.pure (.slice ((l.take b).drop a))) else none := .trans rfl rfl
@[simp] theorem gslice_pure {t : TypeId} {l : List (List PV)} {lo hi : Option GV} : gslice K t (.pure (.slice l)) lo hi none = slP (telemS K.P t) (gbound lo 0) (gbound hi l.length) l := by
 unfold gslice slP telemS
 simp only [Option.isSome_none, Bool.false_eq_true, if_false]
 generalize gbound lo 0 = a
 generalize gbound hi l.length = b
 rcases a with _ | a <;> rcases b with _ | b
 ·cases telem K.P t with
  | none => rfl
  | some e => simp only [Option.map_some]; cases tsize K.P e <;> rfl
 ·cases telem K.P t with
  | none => rfl
  | some e => simp only [Option.map_some]; cases tsize K.P e <;> rfl
 ·cases telem K.P t with
  | none => rfl
  | some e => simp only [Option.map_some]; cases tsize K.P e <;> rfl
 ·cases telem K.P t with
  | none => rfl
  | some e =>
   simp only [Option.map_some]
   cases tsize K.P e with
   | none => simp
   | some es =>
    simp only
    by_cases h : a ≤ b ∧ b ≤ l.length
    ·rw [if_pos h]
     simp only [h.1, h.2, true_and]
    ·rw [if_neg h, if_neg (fun h' => h ⟨h'.1, h'.2.1⟩)]
def slH (es : Option (Option Nat)) (a b : Option Nat) (nm : Nm) (es' top l0 len : Nat) : Option GV :=
 match es, a, b with
 | some es, some a, some b => if a ≤ b ∧ (b ≤ len ∨ l0 + b ≤ top) ∧ es = some es' then (if a = b ∧ 0 < a then some (.pure (.slice [])) else some (.hdr nm es' top (l0 + a) (b - a))) else none
 | _, _, _ => none
@[simp] theorem slH_some {es : Option Nat} {a b : Nat} {nm : Nm} {es' top l0 len : Nat} : slH (some es) (some a) (some b) nm es' top l0 len = if a ≤ b ∧ (b ≤ len ∨ l0 + b ≤ top) ∧ es = some es' then (if a = b ∧ 0 < a then some (.pure (.slice [])) else some (.hdr nm es' top (l0 + a) (b - a))) else none := .trans rfl rfl
@[simp] theorem gslice_hdr {t : TypeId} {nm : Nm} {es top l0 len : Nat} {lo hi : Option GV} : gslice K t (.hdr nm es top l0 len) lo hi none = slH (telemS K.P t) (gbound lo 0) (gbound hi len) nm es top l0 len := by
 unfold gslice slH telemS
 simp only [Option.isSome_none, Bool.false_eq_true, if_false]
 generalize gbound lo 0 = a
 generalize gbound hi len = b
 cases telem K.P t with
 | none => cases a <;> cases b <;> rfl
 | some e => cases a <;> cases b <;> rfl
def slX (es : Option (Option Nat)) (a : Option Nat) (b m : Int) (x : GV) : Option GV :=
 match es, a with
 | some (some es'), some a =>
  (match x with
  | .nils => if a = 0 ∧ b = 0 ∧ m = 0 then some .nils else none
  | .pure (.slice _) => if a = 0 ∧ b = 0 ∧ m = 0 then some .nils else none
  | .hdr nm es top l0 len =>
   if a = 0 ∧ b = 0 ∧ m = 0 then some .nils
   else if (a : Int) < b ∧ b ≤ m ∧ m = len ∧ l0 + len = top ∧ es' = es then some (.hdr nm es top (l0 + a) (b.toNat - a)) else none
  | _ => none)
 | _, _ => none
@[simp] theorem slX_nils {es' a : Nat} {b m : Int} : slX (some (some es')) (some a) b m .nils = if a = 0 ∧ b = 0 ∧ m = 0 then some .nils else none := .trans rfl rfl
@[simp] theorem slX_pure {es' a : Nat} {b m : Int} {l : List (List PV)} : slX (some (some es')) (some a) b m (.pure (.slice l)) = if a = 0 ∧ b = 0 ∧ m = 0 then some .nils else none := .trans rfl rfl
@[simp] theorem slX_hdr {es' a : Nat} {b m : Int} {nm : Nm} {es top l0 len : Nat} : slX (some (some es')) (some a) b m (.hdr nm es top l0 len) =
  if a = 0 ∧ b = 0 ∧ m = 0 then some .nils
  else if (a : Int) < b ∧ b ≤ m ∧ m = len ∧ l0 + len = top ∧ es' = es then some (.hdr nm es top (l0 + a) (b.toNat - a)) else none := .trans rfl rfl
@[simp] theorem gslice_max {t : TypeId} {x : GV} {lo : Option GV} {k k' : IntKind} {b m : Int} : gslice K t x lo (some (.pure (.int k b))) (some (.pure (.int k' m))) = slX (telemS K.P t) (gbound lo 0) b m x := by
 unfold gslice slX telemS
 simp only [Option.isSome_some, if_true]
 generalize gbound lo 0 = a
 cases telem K.P t with
 | none => cases a <;> rfl
 | some e =>
  simp only [Option.map_some]
  cases a with
  | none => cases tsize K.P e <;> rfl
  | some a =>
   simp only
   cases tsize K.P e with
   | none => rfl
   | some es =>
    cases x with
    | pure p => cases p <;> rfl
    | _ => rfl
def clrV (e : Option Nat) (z : Option (List PV)) (H : Heap) (x : GV) : Option Heap :=
 match e, z, x with
 | some size, some ps, .hdr nm es top lo len =>
  (match H.get nm with
  | some (.arr es' elems vf ro) => if es' = size ∧ es = size ∧ ps.length = size ∧ top = elems.length ∧ vf ≤ top ∧ ro = false ∧ lo + len ≤ top ∧ 0 < len then some (H.set nm (.arr es' (splice elems lo (List.replicate len ps)) top false)) else none
  | _ => none)
 | _, _, _ => none
def tclr (P : Program) (t : TypeId) : Option (Option Nat × Option (List PV)) := (telem P t).map fun e => (tsize P e, match tzero P e with | some z => (match cellsO z with | some zs => allPure (zs.map canon1) | none => none) | none => none)
def clrT (r : Option (Option Nat × Option (List PV))) (H : Heap) (x : GV) : Option Heap := match r with | some (e, z) => clrV e z H x | none => none
@[simp] theorem clrT_some {e : Option Nat} {z : Option (List PV)} {x : GV} : clrT (some (e, z)) H x = clrV e z H x := .trans rfl rfl
def clrB (H : Heap) (size : Nat) (ps : List PV) (nm : Nm) (es top lo len : Nat) (b : Option Blk) : Option Heap := match b with
  | some (.arr es' elems vf ro) => if es' = size ∧ es = size ∧ ps.length = size ∧ top = elems.length ∧ vf ≤ top ∧ ro = false ∧ lo + len ≤ top ∧ 0 < len then some (H.set nm (.arr es' (splice elems lo (List.replicate len ps)) top false)) else none
  | _ => none
@[congr] theorem clrB_cg {size : Nat} {ps : List PV} {nm : Nm} {es top lo len : Nat} {b b' : Option Blk} (h : ∀ _ : Unit, b = b') : clrB H size ps nm es top lo len b = clrB H size ps nm es top lo len b' := by rw [h ()]
@[simp] theorem clrB_arr {size : Nat} {ps : List PV} {nm : Nm} {es top lo len : Nat} {es' vf : Nat} {elems : List (List PV)} {ro : Bool} : clrB H size ps nm es top lo len (some (.arr es' elems vf ro)) =
  if es' = size ∧ es = size ∧ ps.length = size ∧ top = elems.length ∧ vf ≤ top ∧ ro = false ∧ lo + len ≤ top ∧ 0 < len then some (H.set nm (.arr es' (splice elems lo (List.replicate len ps)) top false)) else none := .trans rfl rfl
@[simp] theorem clrV_hdr {size : Nat} {ps : List PV} {nm : Nm} {es top lo len : Nat} : clrV (some size) (some ps) H (.hdr nm es top lo len) = clrB H size ps nm es top lo len (H.get nm) := .trans rfl rfl
theorem gclear_def {t : TypeId} {x : GV} : gclear K t H x = clrT (tclr K.P t) H x := by
 unfold gclear tclr
 cases telem K.P t with
 | none => rfl
 | some e =>
  simp only [Option.map_some, clrT]
  cases tsize K.P e with
  | none => rfl
  | some size =>
   cases tzero K.P e with
   | none => cases x <;> rfl
   | some z =>
    cases x with
    | hdr nm es top lo len =>
     simp only
     cases cellsO z with
     | none => rfl
     | some zs =>
      simp only
      cases hg : H.get nm with
      | none => cases allPure (zs.map canon1) <;> simp only [clrV, hg]
      | some b =>
       cases b with
       | arr es' elems vf ro => simp only; cases allPure (zs.map canon1) <;> simp only [clrV, hg]
       | _ => cases allPure (zs.map canon1) <;> simp only [clrV, hg]
    | _ =>
     simp only
     generalize (match cellsO z with | some zs => allPure (zs.map canon1) | none => none) = ps
     cases ps <;> rfl
@[simp] theorem gop_clear {x : Operand} {t : TypeId} : gop K fn ⟨dst, .call ⟨.builtin .clear, #[x], #[t]⟩, ty, pos, af, gu⟩ s H = (clrT (tclr K.P t) H (ev s x)).map fun H => (GV.pure (.tuple []), H) := by
 show (match gclear K t H (ev s x) with | some H => some (GV.pure (.tuple []), H) | none => none) = _
 rw [gclear_def]
 cases clrT (tclr K.P t) H (ev s x) <;> rfl
def slS (un : Option TypeDesc) (a b : Option Nat) (l : List UInt8) : Option GV := match a, b, un with
  | some a, some b, some .string => if a ≤ b ∧ b ≤ l.length then some (.pure (.str ((l.take b).drop a))) else none
  | _, _, _ => none
@[simp] theorem slS_some {a b : Nat} {l : List UInt8} : slS (some .string) (some a) (some b) l = if a ≤ b ∧ b ≤ l.length then some (.pure (.str ((l.take b).drop a))) else none := .trans rfl rfl
@[simp] theorem gslice_str {t : TypeId} {l : List UInt8} {lo hi : Option GV} : gslice K t (.pure (.str l)) lo hi none = slS (K.P.underlying t) (gbound lo 0) (gbound hi l.length) l := by
 unfold gslice slS
 simp only [Option.isSome_none, Bool.false_eq_true, if_false]
 rfl
@[simp] theorem gbound_none {d : Nat} : gbound none d = some d := .trans rfl rfl
@[simp] theorem gbound_some {k : IntKind} {i : Int} {d : Nat} : gbound (some (.pure (.int k i))) d = if i < 0 then none else some i.toNat := .trans rfl rfl
def tlit (P : Program) (t : TypeId) : Option (Option Nat × Option (List GV)) := (telem P t).map fun e => (tsize P e, cellsO' (tzero P e))
def blR (own : Bool) (d : Nat) (H : Heap) (size len : Nat) (cs : List GV) (ps : Option (List PV)) : Option (GV × Heap) :=
 match ps with
 | some ps => if own then rn (gnewV H d (.arr size (chunks size len ps) 0 false)) (fun nm => .hdr nm size len 0 len) else some (.pure (.slice (chunks size len ps)), H)
 | none => if own then rn (gnewV (pureCells H cs).2 d (.arr size (chunks size len (pureCells H cs).1) 0 false)) (fun nm => .hdr nm size len 0 len) else some (.lits (chunks size len cs), H)
def blL (own : Bool) (d : Nat) (H : Heap) (size len : Nat) (x : Option (List GV)) : Option (GV × Heap) := match x with
 | some cs => if len = 0 then some (.nils, H) else blR own d H size len cs (allPure (cs.map canon1))
 | none => none
def blV (own : Bool) (d : Nat) (H : Heap) (len : Nat) (ps : List (Nat × GV)) (tl : Option (Option Nat × Option (List GV))) : Option (GV × Heap) := match tl with
 | some (some size, some zs) => if zs.length = size ∧ 0 < size ∧ len * size ≤ 16777216 then blL own d H size len (gfill (fun i => some (i * size, size)) (List.replicate len zs).flatten ps) else none
 | _ => none
@[simp] theorem blR_own {d size len : Nat} {cs : List GV} {ps : List PV} : blR true d H size len cs (some ps) = rn (gnewV H d (.arr size (chunks size len ps) 0 false)) (fun nm => .hdr nm size len 0 len) := .trans rfl rfl
@[simp] theorem blR_pure {d size len : Nat} {cs : List GV} {ps : List PV} : blR false d H size len cs (some ps) = some (.pure (.slice (chunks size len ps)), H) := .trans rfl rfl
@[simp] theorem blR_lits {d size len : Nat} {cs : List GV} : blR false d H size len cs none = some (.lits (chunks size len cs), H) := .trans rfl rfl
@[simp] theorem blR_litsOwn {d size len : Nat} {cs : List GV} : blR true d H size len cs none = rn (gnewV (pureCells H cs).2 d (.arr size (chunks size len (pureCells H cs).1) 0 false)) (fun nm => .hdr nm size len 0 len) := .trans rfl rfl
@[simp] theorem blL_some {own : Bool} {d size len : Nat} {cs : List GV} : blL own d H size len (some cs) = if len = 0 then some (.nils, H) else blR own d H size len cs (allPure (cs.map canon1)) := .trans rfl rfl
@[simp] theorem blV_some {own : Bool} {d size len : Nat} {zs : List GV} {ps : List (Nat × GV)} : blV own d H len ps (some (some size, some zs)) =
  if zs.length = size ∧ 0 < size ∧ len * size ≤ 16777216 then blL own d H size len (gfill (fun i => some (i * size, size)) (List.replicate len zs).flatten ps) else none := .trans rfl rfl
@[simp] theorem gop_buildSlice {d : Nat} {t : TypeId} {n : Nat} {ps : Array (Nat × Operand)} (hd : d < tyBase) (hlit : K.lit fn d = false) : gop K fn ⟨some d, .buildSlice t n ps, ty, pos, af, gu⟩ s H = blV (K.own fn d) d H n (ps.toList.map (evp s)) (tlit K.P t) := by
 simp only [gop, tlit, gnew_V hd, hlit]
 cases telem K.P t with
 | none => rfl
 | some e =>
  simp only [Option.map_some]
  cases tsize K.P e with
  | none => rfl
  | some size =>
   cases tzero K.P e with
   | none => rfl
   | some z =>
    simp only [cellsO'_some]
    cases cellsO z with
    | none => rfl
    | some zs =>
     simp only [blV_some]
     split
     ·cases gfill (fun i => some (i * size, size)) (List.replicate n zs).flatten (ps.toList.map (evp s)) with
      | none => rfl
      | some cs =>
       simp only [blL_some]
       split
       ·rfl
       ·cases allPure (cs.map canon1) with
        | none =>
         simp only
         cases K.own fn d with
         | true =>
          simp only [if_true, blR_litsOwn]
          cases gnewV (pureCells H cs).2 d (.arr size (chunks size n (pureCells H cs).1) 0 false) <;> rfl
         | false => rfl
        | some qs =>
         simp only
         cases K.own fn d with
         | true =>
          simp only [if_true, blR_own]
          cases gnewV H d (.arr size (chunks size n qs) 0 false) <;> rfl
         | false => rfl
     ·rfl
@[simp] theorem chunks_zero {α : Type} {es : Nat} {l : List α} : chunks es 0 l = [] := .trans rfl rfl
@[simp] theorem chunks_succ {α : Type} {es n : Nat} {l : List α} : chunks es (n + 1) l = l.take es :: chunks es n (l.drop es) := .trans rfl rfl
def tmk (P : Program) (t : TypeId) : Option (Option Nat × Option Nat × Option (List PV)) := (telem P t).map fun e => (tsize P e, tbytes P e, match cellsO' (tzero P e) with | some zs => allPure (zs.map canon1) | none => none)
def mkS (d : Nat) (H : Heap) (a b : GV) (tm : Option (Option Nat × Option Nat × Option (List PV))) : Option (GV × Heap) := match tm, a, b with
 | some (some size, some bytes, some ps), .pure (.int _ l), .pure (.int _ c) => if ps.length = size ∧ 0 < size ∧ 0 < bytes ∧ 0 ≤ l ∧ l ≤ c ∧ c * bytes ≤ 1099511627776 then
   rn (gnewV H d (.arr size (List.replicate l.toNat ps) 0 false)) (fun nm => .hdr nm size l.toNat 0 l.toNat) else none
 | _, _, _ => none
@[simp] theorem mkS_some {d size bytes : Nat} {ps : List PV} {k k' : IntKind} {l c : Int} : mkS d H (.pure (.int k l)) (.pure (.int k' c)) (some (some size, some bytes, some ps)) =
  if ps.length = size ∧ 0 < size ∧ 0 < bytes ∧ 0 ≤ l ∧ l ≤ c ∧ c * bytes ≤ 1099511627776 then
   rn (gnewV H d (.arr size (List.replicate l.toNat ps) 0 false)) (fun nm => .hdr nm size l.toNat 0 l.toNat) else none := .trans rfl rfl
@[simp] theorem gop_makeSlice {d : Nat} {t : TypeId} {l c : Operand} (hd : d < tyBase) : gop K fn ⟨some d, .makeSlice t l c, ty, pos, af, gu⟩ s H = mkS d H (ev s l) (ev s c) (tmk K.P t) := by
  simp only [gop, tmk]
  generalize ev s l = a
  generalize ev s c = b
  cases telem K.P t with
  | none => rfl
  | some e =>
    simp only [Option.map_some]
    cases tsize K.P e with
    | none => rfl
    | some size =>
      cases tbytes K.P e with
      | none => rfl
      | some bytes =>
        cases tzero K.P e with
        | none => rfl
        | some z =>
          simp only [cellsO'_some]
          cases a with
          | pure p =>
            cases p with
            | int k l =>
              cases b with
              | pure q =>
                cases q with
                | int k' c =>
                  simp only
                  cases cellsO z with
                  | none => rfl
                  | some zs =>
                    simp only
                    cases allPure (zs.map canon1) with
                    | none => rfl
                    | some ps =>
                      simp only [mkS_some]
                      split
                      · rw [gnew_V hd]
                        cases gnewV H d (.arr size (List.replicate l.toNat ps) 0 false) <;> rfl
                      · rfl
                | _ => cases cellsO z <;> try rfl
                       all_goals (rename_i zs; simp only; cases allPure (zs.map canon1) <;> rfl)
              | _ => cases cellsO z <;> try rfl
                     all_goals (rename_i zs; simp only; cases allPure (zs.map canon1) <;> rfl)
            | _ => cases cellsO z <;> try rfl
                   all_goals (rename_i zs; simp only; cases allPure (zs.map canon1) <;> rfl)
          | _ => cases cellsO z <;> try rfl
                 all_goals (rename_i zs; simp only; cases allPure (zs.map canon1) <;> rfl)
@[simp] theorem gop_makeMap {d : Nat} {t : TypeId} : gop K fn ⟨some d, .makeMap t none, ty, pos, af, gu⟩ s H = rn (gnewV H d (.map [])) .map := by
 simp only [gop, gnew_map]; cases gnewV H d (.map []) <;> rfl
def luV (ok : Bool) (z : Option GV) (x : Option (Option (Nat × GV))) : Option GV := match x with
 | some (some (_, v)) => some (if ok then mkTuple [v, .pure (.bool true)] else v)
 | some none => (match z with | some z => some (if ok then mkTuple [z, .pure (.bool false)] else z) | none => none)
 | none => none
@[simp] theorem luV_hit {ok : Bool} {z : Option GV} {i : Nat} {v : GV} : luV ok z (some (some (i, v))) = some (if ok then mkTuple [v, .pure (.bool true)] else v) := .trans rfl rfl
@[simp] theorem luV_miss {ok : Bool} {z : GV} : luV ok (some z) (some none) = some (if ok then mkTuple [z, .pure (.bool false)] else z) := .trans rfl rfl
def tmz (P : Program) (t : TypeId) : Option (TypeId × Option GV) := (tmap P t).map fun x => (x.1, tzero P x.2)
def luK (K : Ctx) (ok : Bool) (tm : Option (TypeId × Option GV)) (k : GV) (es : Option (List (PV × GV))) : Option GV := match tm, k, es with
 | some (kt, z), .pure k, some es => if keyFitsK K kt k = false then none else luV ok z (findEntry k es 0)
 | _, _, _ => none
@[simp] theorem luK_some {K : Ctx} {ok : Bool} {kt : TypeId} {z : Option GV} {k : PV} {es : List (PV × GV)} : luK K ok (some (kt, z)) (.pure k) (some es) = if keyFitsK K kt k = false then none else luV ok z (findEntry k es 0) := .trans rfl rfl
@[simp] theorem gop_lookup {t : TypeId} {x k : Operand} {ok : Bool} : gop K fn ⟨dst, .lookup t x k ok, ty, pos, af, gu⟩ s H = rv H (luK K ok (tmz K.P t) (ev s k) (mapOf H (ev s x))) := by
 have h : glookup K t H (ev s x) (ev s k) ok = luK K ok (tmz K.P t) (ev s k) (mapOf H (ev s x)) := by
  unfold glookup luK tmz
  generalize ev s k = g
  generalize mapOf H (ev s x) = m
  cases tmap K.P t with
  | none => rfl
  | some p =>
   obtain ⟨kt, e⟩ := p
   cases g with
   | pure q =>
    cases m with
    | none => rfl
    | some es =>
     simp only [Option.map_some]
     split
     ·rfl
     ·unfold luV
      cases findEntry q es 0 with
      | none => rfl
      | some y => cases y <;> rfl
   | _ => cases m <;> rfl
 simp only [gop, h]
 rfl
def mapB (b : Option Blk) : Option (List (PV × GV)) := match b with | some (.map es) => some es | _ => none
@[simp] theorem mapB_map {es : List (PV × GV)} : mapB (some (.map es)) = some es := .trans rfl rfl
@[simp] theorem mapOf_map {nm : Nm} : mapOf H (.map nm) = mapB (H.get nm) := by
 unfold mapOf mapB
 simp only
 generalize Heap.get H nm = q
 rcases q with _ | b
 ·rfl
 ·cases b <;> rfl
@[simp] theorem mapOf_nilm : mapOf H (.pure .nilm) = some [] := .trans rfl rfl
def muE (nm : Nm) (H : Heap) (k : PV) (v : GV) (es : List (PV × GV)) (x : Option (Option (Nat × GV))) : Option Heap := match x with
 | some (some (i, _)) => some (H.set nm (.map (es.set i (k, v))))
 | some none => some (H.set nm (.map (es ++ [(k, v)])))
 | none => none
@[simp] theorem muE_hit {nm : Nm} {k : PV} {v v' : GV} {es : List (PV × GV)} {i : Nat} : muE nm H k v es (some (some (i, v'))) = some (H.set nm (.map (es.set i (k, v)))) := .trans rfl rfl
@[simp] theorem muE_miss {nm : Nm} {k : PV} {v : GV} {es : List (PV × GV)} : muE nm H k v es (some none) = some (H.set nm (.map (es ++ [(k, v)]))) := .trans rfl rfl
def muK (K : Ctx) (kt : TypeId) (nm : Nm) (k : PV) (x : Option (GV × Heap)) : Option Heap := match x with
 | some (v', H1) => (match mapB (H1.get nm) with | some es => if keyFitsK K kt k = false then none else muE nm H1 k v' es (findEntry k es 0) | none => none)
 | none => none
@[simp] theorem muK_some {K : Ctx} {kt : TypeId} {nm : Nm} {k : PV} {v : GV} : muK K kt nm k (some (v, H)) = (match mapB (H.get nm) with | some es => if keyFitsK K kt k = false then none else muE nm H k v es (findEntry k es 0) | none => none) := .trans rfl rfl
def muV (K : Ctx) (tm : Option (TypeId × TypeId)) (H : Heap) (m k v : GV) : Option Heap := match tm, m, k with
 | some (kt, _), .map nm, .pure k => muK K kt nm k (lowerVal H nm.1 v)
 | _, _, _ => none
@[simp] theorem muV_some {K : Ctx} {kt e : TypeId} {nm : Nm} {k : PV} {v : GV} : muV K (some (kt, e)) H (.map nm) (.pure k) v = muK K kt nm k (lowerVal H nm.1 v) := .trans rfl rfl
@[simp] theorem lowerVal_pure {l0 : Nat} {p : PV} : lowerVal H l0 (.pure p) = some (.pure p, H) := .trans rfl rfl
@[simp] theorem gop_mapUpdate {t : TypeId} {m k v : Operand} : gop K fn ⟨dst, .mapUpdate t m k v, ty, pos, af, gu⟩ s H = rh (muV K (tmap K.P t) H (ev s m) (ev s k) (ev s v)) := by
 have h : gmapUpdate K t H (ev s m) (ev s k) (ev s v) = muV K (tmap K.P t) H (ev s m) (ev s k) (ev s v) := by
  unfold gmapUpdate muV
  generalize ev s m = gm
  generalize ev s k = gk
  cases tmap K.P t with
  | none => rfl
  | some p =>
   obtain ⟨kt, e⟩ := p
   cases gm with
   | map nm =>
    cases gk with
    | pure q =>
     simp only
     cases lowerVal H nm.1 (ev s v) with
     | none => rfl
     | some y =>
      obtain ⟨v', H1⟩ := y
      simp only [muK, mapB]
      cases H1.get nm with
      | none => rfl
      | some b =>
       cases b with
       | map es =>
        simp only
        split
        ·rfl
        ·unfold muE
         cases findEntry q es 0 with
         | none => rfl
         | some y => cases y <;> rfl
       | _ => rfl
    | _ => rfl
   | _ => rfl
 simp only [gop, h]
 rfl
@[simp] theorem gop_makeFunc {f : Nat} {a c : Array Operand} : gop K fn ⟨dst, .makeFunc (.func f) a c, ty, pos, af, gu⟩ s H = rv H (some (mkFunc f (a.toList.map (ev s)) (c.toList.map (ev s)))) := .trans rfl rfl
@[simp] theorem mkFunc_cap {f : Nat} {a : List GV} {g : GV} {c : List GV} : mkFunc f a (g :: c) = .func f a (g :: c) := by unfold mkFunc; simp
@[simp] theorem mkFunc_first {f : Nat} {g : GV} {a c : List GV} : mkFunc f (g :: a) c = .func f (g :: a) c := by unfold mkFunc; simp
@[simp] theorem mkFunc_none {f : Nat} : mkFunc f [] [] = .pure (.fn f) := .trans rfl rfl
@[simp] theorem gop_min {args : Array Operand} {ats : Array TypeId} : gop K fn ⟨dst, .call ⟨.builtin .min, args, ats⟩, ty, pos, af, gu⟩ s H = rv H (gminmax false (args.toList.map (ev s))) := by
 simp only [gop, rv]; rfl
@[simp] theorem gop_max {args : Array Operand} {ats : Array TypeId} : gop K fn ⟨dst, .call ⟨.builtin .max, args, ats⟩, ty, pos, af, gu⟩ s H = rv H (gminmax true (args.toList.map (ev s))) := by
 simp only [gop, rv]; rfl
@[simp] theorem gminmax_one {mx : Bool} {k : IntKind} {a : Int} : gminmax mx [.pure (.int k a)] = some (.pure (.int k a)) := by
 rw [gminmax]
@[simp] theorem gminmax_two {mx : Bool} {k : IntKind} {a b : Int} {r : List GV} : gminmax mx (.pure (.int k a) :: .pure (.int k b) :: r) = gminmax mx (.pure (.int k (if mx = true then (if a < b then b else a) else (if b < a then b else a))) :: r) := by
 rw [gminmax]; simp
def consO (x : Option GV) (r : Option (List GV)) : Option (List GV) := match x, r with | some v, some l => some (v :: l) | _, _ => none
@[simp] theorem consO_some {v : GV} {l : List GV} : consO (some v) (some l) = some (v :: l) := .trans rfl rfl
def resL (K : Ctx) (st : GSt) : List ResultVar → Option (List GV)
 | [] => some []
 | .tmp t :: r => consO (some (look st.s t)) (resL K st r)
 | .cell a t :: r => consO (gload K.P t st.h (look st.s a)) (resL K st r)
@[simp] theorem resL_nil {st : GSt} : resL K st [] = some [] := .trans rfl rfl
@[simp] theorem resL_tmp {st : GSt} {t : Nat} {r : List ResultVar} : resL K st (.tmp t :: r) = consO (some (look st.s t)) (resL K st r) := .trans rfl rfl
@[simp] theorem resL_cell {st : GSt} {a : Nat} {t : TypeId} {r : List ResultVar} : resL K st (.cell a t :: r) = consO (gload K.P t st.h (look st.s a)) (resL K st r) := .trans rfl rfl
@[simp] theorem gresults_def {g : Func} {st : GSt} : gresults K g st = resL K st g.results.toList := by
 unfold gresults
 generalize g.results.toList = l
 induction l with
 | nil => rfl
 | cons x r ih =>
  cases x with
  | tmp t =>
   simp only [List.mapM_cons, resL_tmp, ← ih]
   generalize List.mapM (m := Option) _ r = q
   cases q <;> rfl
  | cell a t =>
   simp only [List.mapM_cons, resL_cell, ← ih]
   cases gload K.P t st.h (look st.s a) with
   | none => rfl
   | some v =>
    generalize List.mapM (m := Option) _ r = q
    cases q <;> rfl
@[simp] theorem firstRegion_region {id : Nat} {ops : Array Oper} {b : Bool} : firstRegion (.region id ops b) = id + 1 := .trans rfl rfl
@[simp] theorem firstRegion_seq {a b : Code} : firstRegion (.seq a b) = if firstRegion a = 0 then firstRegion b else firstRegion a := .trans rfl rfl
@[simp] theorem firstRegion_cond {c : Operand} {a b : Code} : firstRegion (.cond c a b) = if firstRegion a = 0 then firstRegion b else firstRegion a := .trans rfl rfl
@[simp] theorem firstRegion_block {id : Nat} {a : Code} : firstRegion (.block id a) = firstRegion a := .trans rfl rfl
@[simp] theorem firstRegion_loop {a : Code} : firstRegion (.loop a) = firstRegion a + 100000 := .trans rfl rfl
@[simp] theorem firstRegion_skip : firstRegion .skip = 0 := .trans rfl rfl
@[simp] theorem firstRegion_exit {id : Nat} : firstRegion (.exit id) = 0 := .trans rfl rfl
@[simp] theorem firstRegion_ret : firstRegion .ret = 0 := .trans rfl rfl
theorem WPv_eq {α : Type} {x : Option α} {a : α} (h : WPv x (fun r => r = a)) : x = some a := by
 obtain ⟨r, h1, h2⟩ := h; rw [h1, h2]
end
end

section
open Go.Shelf Go.Proofs Go.RowKit
section
variable {w w' : World} {S : Nat → Prop} {μ : Mu} {H : Heap} {P : Program} {ρ : Ren}
theorem below_shp (h : Below w.heap.size w w') (b : Nat) (x : TypeId × Nat) (hx : w.shape? b = some x) : w'.shape? b = some x := by
 have hb : b < w.heap.size := by
  unfold World.shape? at hx
  rcases Nat.lt_or_ge b w.heap.size with h | h
  ·exact h
  ·rw [Array.getElem?_eq_none h] at hx; cases hx
 unfold World.shape? at hx ⊢
 rw [h.block b hb]; exact hx
end
end
section
open Go.RowKit
section
variable {w w' : World} {S : Nat → Prop} {μ : Mu} {H : Heap}
theorem done_quiet (hH : HRel w S μ H) (hB : Below w.heap.size w w') {S' : Nat → Prop} (hsub : ∀ b, S b → S' b) (hrev : ∀ b, b < w.heap.size → S' b → S b) (hlt : ∀ b, S' b → b < w'.heap.size) {u : Value} {p : PV} (hu : PRep w' S' u p) :
  Done (H.length - 1) H.length w S μ (.pure p) H (.returned u) w' := by
 have hw : ∀ b, S b → w'.heap[b]? = w.heap[b]? := fun b hb => hB.block b (hH.slt b hb)
 refine ⟨u, S', μ, rfl, .pure _ _ hu, ⟨fun n x hx t b hb => ?_, hH.bnd, hH.disj, fun n t b h => Nat.lt_of_lt_of_le (hH.lt n t b h) hB.size, hlt, hH.glb.mono hsub hw⟩, ?_, rfl⟩
 ·exact (hH.blk n x hx t b hb).mono hsub hw (below_shp hB) (fun _ _ _ _ h => h) (fun _ => rfl) (fun t b hm => hB.block b (hH.lt _ _ _ hm)) (fun t b hm h => hrev b (hH.lt _ _ _ hm) h)
 ·exact ⟨hB.os, hB.tape, hB.output, hB.size, hsub, fun b hb _ => hB.block b hb, below_shp hB, fun b r hr => ⟨r, by rw [hB.block b (Array.getElem?_eq_some_iff.1 hr).1]; exact hr⟩, fun _ _ _ _ h => h, fun nm t b h _ => ⟨nm, t, h⟩, fun b h hb => .inl (hrev b hb h)⟩
theorem hrel_bare (hS : ∀ b, S b → b < w.heap.size) (hG : GlbRel w S) : HRel w S (fun _ _ => none) [[]] :=
 ⟨fun nm x hx => by simp [Heap.get, Fr.get] at hx, fun nm t b h => by simp at h, fun nm nm' t t' b h => by simp at h, fun nm t b h => by simp at h, hS, hG⟩
def extTold (tab : List (List PV × PV)) (args : List GV) (H : Heap) : Option (GV × Heap) :=
 match allPure ((frzVals H args).1.map canon) with
 | some ps => (match tab.find? fun x => PV.beqL x.1 ps with | some x => some (.pure x.2, (frzVals H args).2) | none => none)
 | none => none
theorem told_ext {K : Ctx} (hK : CtxOk K) {f : FuncId} {tab : List (List PV × PV)} (h : ∀ x ∈ tab, ∃ n H', gcall K (gexec K n) f (x.1.map .pure) 0 [[]] = some (.pure x.2, H')) : ExtOk K.P f (extTold tab) := by
 intro w S μ H H' args v vs he hp hH hvs hrel
 unfold extTold at he
 split at he
 ·rename_i ps hps
  split at he
  ·rename_i x hx
   simp only [Option.some.injEq, Prod.mk.injEq] at he
   obtain ⟨rfl, rfl⟩ := he
   have hm : x ∈ tab := List.mem_of_find?_eq_some hx
   have hb := List.find?_some hx
   have e : x.1 = ps := PV.beqL_eq _ _ hb
   obtain ⟨n, H1, hg⟩ := h x hm
   obtain ⟨S1, a1, a2, a3, a4, a5⟩ := frzVals_rel (H.length - 1) hH hrel
   have hlen : ps.length = vs.size := by
    have := congrArg List.length (allPure_some hps)
    simp at this; omega
   have hr : ∀ j, j < (x.1.map GV.pure).length → VRel w S1 (fun _ _ => none) ([([] : Fr)].length - 1) (vs.getD j undef) ((x.1.map GV.pure).getD j gdead) := fun j hj => by
    have hj1 : j < ps.length := by rw [e] at hj; simpa using hj
    have hj2 : j < (frzVals H args).1.length := by omega
    have h1 := canon_rel (a3 j (by omega))
    have e1 : canon ((frzVals H args).1.getD j gdead) = .pure (ps.getD j .dead) := by
     have e2 := congrArg (fun l => l[j]?) (allPure_some hps)
     simp only [List.getElem?_map, List.getElem?_eq_getElem hj2, List.getElem?_eq_getElem hj1, Option.map_some, Option.some.injEq] at e2
     simp [List.getD_eq_getElem?_getD, hj1, hj2, e2]
    rw [e1] at h1
    have e3 : (x.1.map GV.pure).getD j gdead = .pure (ps.getD j .dead) := by rw [e]; simp [List.getD_eq_getElem?_getD, hj1]
    rw [e3]
    exact .pure _ _ h1.pv
   obtain ⟨b1, b2⟩ := call_ok K hK (gexec_sound K hK n) hg (hrel_bare a1.slt a1.glb) (vs := vs) (by rw [e]; simp [hlen]) hr
   refine ⟨b1, CallsIn.mono b2 fun e' w' hd => ?_⟩
   obtain ⟨u, S', μ', rfl, d2, d3, d4, d5⟩ := hd
   have hB : Below w.heap.size w w' := ⟨d4.os, d4.tape, d4.out, d4.size, fun k hk => d4.same k hk (.inr fun nm t h => by cases h)⟩
   have := done_quiet a1 hB (S' := S') d4.sub (fun b hb hs => by
    rcases d4.snew b hs hb with h | ⟨nm, t, h⟩
    ·exact h
    ·cases h) d3.slt d2.pv
   obtain ⟨u2, S2, μ2, k1, k2, k3, k4, k5⟩ := this
   rw [a4.1] at k4
   exact ⟨u2, S2, μ2, k1, k2, k3, a2.trans k4, a4.1⟩
  ·cases he
 ·cases he
end
end
end Go.Gh
