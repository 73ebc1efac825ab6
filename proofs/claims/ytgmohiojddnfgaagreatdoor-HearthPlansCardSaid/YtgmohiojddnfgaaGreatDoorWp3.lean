/- Operations as equations for simp. -/
import Derived.Test.YtgmohiojddnfgaaGreatDoorWp2
namespace Go.Gh
set_option linter.unusedSimpArgs false
set_option linter.unusedVariables false

section
variable {K : Ctx} {fn : FuncId} {rec : Rec} {dst : Option Tmp} {ty : TypeId} {pos : String} {af : Array Edge} {gu : Option (Nat × Bool)} {s : Slots} {H : Heap}

@[simp] theorem gstep_move (x : Operand) : gstep K rec fn ⟨dst, .move x, ty, pos, af, gu⟩ s H = gop K fn ⟨dst, .move x, ty, pos, af, gu⟩ s H := .trans rfl rfl
@[simp] theorem gstep_assign (x : Operand) : gstep K rec fn ⟨dst, .assign x, ty, pos, af, gu⟩ s H = gop K fn ⟨dst, .assign x, ty, pos, af, gu⟩ s H := .trans rfl rfl
@[simp] theorem gstep_pick (c a b : Operand) : gstep K rec fn ⟨dst, .pick c a b, ty, pos, af, gu⟩ s H = gop K fn ⟨dst, .pick c a b, ty, pos, af, gu⟩ s H := .trans rfl rfl
@[simp] theorem gstep_alloc (t : TypeId) : gstep K rec fn ⟨dst, .alloc t, ty, pos, af, gu⟩ s H = gop K fn ⟨dst, .alloc t, ty, pos, af, gu⟩ s H := .trans rfl rfl
@[simp] theorem gstep_box (t : TypeId) (x : Operand) : gstep K rec fn ⟨dst, .box t x, ty, pos, af, gu⟩ s H = gop K fn ⟨dst, .box t x, ty, pos, af, gu⟩ s H := .trans rfl rfl
@[simp] theorem gstep_build (t : TypeId) (ps : Array (Nat × Operand)) : gstep K rec fn ⟨dst, .build t ps, ty, pos, af, gu⟩ s H = gop K fn ⟨dst, .build t ps, ty, pos, af, gu⟩ s H := .trans rfl rfl
@[simp] theorem gstep_buildSlice (t : TypeId) (n : Nat) (ps : Array (Nat × Operand)) : gstep K rec fn ⟨dst, .buildSlice t n ps, ty, pos, af, gu⟩ s H = gop K fn ⟨dst, .buildSlice t n ps, ty, pos, af, gu⟩ s H := .trans rfl rfl
@[simp] theorem gstep_load (t : TypeId) (a : Operand) : gstep K rec fn ⟨dst, .load t a, ty, pos, af, gu⟩ s H = gop K fn ⟨dst, .load t a, ty, pos, af, gu⟩ s H := .trans rfl rfl
@[simp] theorem gstep_store (t : TypeId) (a x : Operand) : gstep K rec fn ⟨dst, .store t a x, ty, pos, af, gu⟩ s H = gop K fn ⟨dst, .store t a x, ty, pos, af, gu⟩ s H := .trans rfl rfl
@[simp] theorem gstep_nilCheck (x : Operand) : gstep K rec fn ⟨dst, .nilCheck x, ty, pos, af, gu⟩ s H = gop K fn ⟨dst, .nilCheck x, ty, pos, af, gu⟩ s H := .trans rfl rfl
@[simp] theorem gstep_binOp (op : BinOp) (t : TypeId) (x y : Operand) (d : TypeId) : gstep K rec fn ⟨dst, .binOp op t x y d, ty, pos, af, gu⟩ s H = gop K fn ⟨dst, .binOp op t x y d, ty, pos, af, gu⟩ s H := .trans rfl rfl
@[simp] theorem gstep_unOp (op : UnOp) (t : TypeId) (x : Operand) : gstep K rec fn ⟨dst, .unOp op t x, ty, pos, af, gu⟩ s H = gop K fn ⟨dst, .unOp op t x, ty, pos, af, gu⟩ s H := .trans rfl rfl
@[simp] theorem gstep_convert (a b : TypeId) (x : Operand) : gstep K rec fn ⟨dst, .convert a b x, ty, pos, af, gu⟩ s H = gop K fn ⟨dst, .convert a b x, ty, pos, af, gu⟩ s H := .trans rfl rfl
@[simp] theorem gstep_makeFunc (f : Fn) (a c : Array Operand) : gstep K rec fn ⟨dst, .makeFunc f a c, ty, pos, af, gu⟩ s H = gop K fn ⟨dst, .makeFunc f a c, ty, pos, af, gu⟩ s H := .trans rfl rfl
@[simp] theorem gstep_makeMap (t : TypeId) (r : Option Operand) : gstep K rec fn ⟨dst, .makeMap t r, ty, pos, af, gu⟩ s H = gop K fn ⟨dst, .makeMap t r, ty, pos, af, gu⟩ s H := .trans rfl rfl
@[simp] theorem gstep_makeSlice (t : TypeId) (l c : Operand) : gstep K rec fn ⟨dst, .makeSlice t l c, ty, pos, af, gu⟩ s H = gop K fn ⟨dst, .makeSlice t l c, ty, pos, af, gu⟩ s H := .trans rfl rfl
@[simp] theorem gstep_slice (t : TypeId) (x : Operand) (lo hi mx : Option Operand) : gstep K rec fn ⟨dst, .slice t x lo hi mx, ty, pos, af, gu⟩ s H = gop K fn ⟨dst, .slice t x lo hi mx, ty, pos, af, gu⟩ s H := .trans rfl rfl
@[simp] theorem gstep_fieldAddr (t : TypeId) (x : Operand) (f : Nat) : gstep K rec fn ⟨dst, .fieldAddr t x f, ty, pos, af, gu⟩ s H = gop K fn ⟨dst, .fieldAddr t x f, ty, pos, af, gu⟩ s H := .trans rfl rfl
@[simp] theorem gstep_field (t : TypeId) (x : Operand) (f : Nat) : gstep K rec fn ⟨dst, .field t x f, ty, pos, af, gu⟩ s H = gop K fn ⟨dst, .field t x f, ty, pos, af, gu⟩ s H := .trans rfl rfl
@[simp] theorem gstep_indexAddr (t : TypeId) (x i : Operand) : gstep K rec fn ⟨dst, .indexAddr t x i, ty, pos, af, gu⟩ s H = gop K fn ⟨dst, .indexAddr t x i, ty, pos, af, gu⟩ s H := .trans rfl rfl
@[simp] theorem gstep_index (t : TypeId) (x i : Operand) : gstep K rec fn ⟨dst, .index t x i, ty, pos, af, gu⟩ s H = gop K fn ⟨dst, .index t x i, ty, pos, af, gu⟩ s H := .trans rfl rfl
@[simp] theorem gstep_lookup (t : TypeId) (x k : Operand) (ok : Bool) : gstep K rec fn ⟨dst, .lookup t x k ok, ty, pos, af, gu⟩ s H = gop K fn ⟨dst, .lookup t x k ok, ty, pos, af, gu⟩ s H := .trans rfl rfl
@[simp] theorem gstep_mapUpdate (t : TypeId) (m k v : Operand) : gstep K rec fn ⟨dst, .mapUpdate t m k v, ty, pos, af, gu⟩ s H = gop K fn ⟨dst, .mapUpdate t m k v, ty, pos, af, gu⟩ s H := .trans rfl rfl
@[simp] theorem gstep_extract (t : Operand) (i : Nat) : gstep K rec fn ⟨dst, .extract t i, ty, pos, af, gu⟩ s H = gop K fn ⟨dst, .extract t i, ty, pos, af, gu⟩ s H := .trans rfl rfl
@[simp] theorem gstep_builtin (b : Builtin) (args : Array Operand) (ats : Array TypeId) : gstep K rec fn ⟨dst, .call ⟨.builtin b, args, ats⟩, ty, pos, af, gu⟩ s H = gop K fn ⟨dst, .call ⟨.builtin b, args, ats⟩, ty, pos, af, gu⟩ s H := .trans rfl rfl
@[simp] theorem opPure_move (x : Operand) : opPure K fn ⟨dst, .move x, ty, pos, af, gu⟩ = true := .trans rfl rfl
@[simp] theorem opPure_assign (x : Operand) : opPure K fn ⟨dst, .assign x, ty, pos, af, gu⟩ = true := .trans rfl rfl
@[simp] theorem opPure_pick (c a b : Operand) : opPure K fn ⟨dst, .pick c a b, ty, pos, af, gu⟩ = true := .trans rfl rfl
@[simp] theorem opPure_alloc (t : TypeId) : opPure K fn ⟨dst, .alloc t, ty, pos, af, gu⟩ = false := .trans rfl rfl
@[simp] theorem opPure_box (t : TypeId) (x : Operand) : opPure K fn ⟨dst, .box t x, ty, pos, af, gu⟩ = false := .trans rfl rfl
@[simp] theorem opPure_build (t : TypeId) (ps : Array (Nat × Operand)) : opPure K fn ⟨dst, .build t ps, ty, pos, af, gu⟩ = true := .trans rfl rfl
@[simp] theorem opPure_load (t : TypeId) (a : Operand) : opPure K fn ⟨dst, .load t a, ty, pos, af, gu⟩ = true := .trans rfl rfl
@[simp] theorem opPure_store (t : TypeId) (a x : Operand) : opPure K fn ⟨dst, .store t a x, ty, pos, af, gu⟩ = false := .trans rfl rfl
@[simp] theorem opPure_nilCheck (x : Operand) : opPure K fn ⟨dst, .nilCheck x, ty, pos, af, gu⟩ = true := .trans rfl rfl
@[simp] theorem opPure_binOp (op : BinOp) (t : TypeId) (x y : Operand) (d : TypeId) : opPure K fn ⟨dst, .binOp op t x y d, ty, pos, af, gu⟩ = true := .trans rfl rfl
@[simp] theorem opPure_unOp (op : UnOp) (t : TypeId) (x : Operand) : opPure K fn ⟨dst, .unOp op t x, ty, pos, af, gu⟩ = true := .trans rfl rfl
@[simp] theorem opPure_convert (a b : TypeId) (x : Operand) : opPure K fn ⟨dst, .convert a b x, ty, pos, af, gu⟩ = true := .trans rfl rfl
@[simp] theorem opPure_makeFunc (f : Fn) (a c : Array Operand) : opPure K fn ⟨dst, .makeFunc f a c, ty, pos, af, gu⟩ = true := .trans rfl rfl
@[simp] theorem opPure_makeMap (t : TypeId) (r : Option Operand) : opPure K fn ⟨dst, .makeMap t r, ty, pos, af, gu⟩ = false := .trans rfl rfl
@[simp] theorem opPure_makeSlice (t : TypeId) (l c : Operand) : opPure K fn ⟨dst, .makeSlice t l c, ty, pos, af, gu⟩ = false := .trans rfl rfl
@[simp] theorem opPure_slice (t : TypeId) (x : Operand) (lo hi mx : Option Operand) : opPure K fn ⟨dst, .slice t x lo hi mx, ty, pos, af, gu⟩ = true := .trans rfl rfl
@[simp] theorem opPure_fieldAddr (t : TypeId) (x : Operand) (f : Nat) : opPure K fn ⟨dst, .fieldAddr t x f, ty, pos, af, gu⟩ = true := .trans rfl rfl
@[simp] theorem opPure_field (t : TypeId) (x : Operand) (f : Nat) : opPure K fn ⟨dst, .field t x f, ty, pos, af, gu⟩ = true := .trans rfl rfl
@[simp] theorem opPure_indexAddr (t : TypeId) (x i : Operand) : opPure K fn ⟨dst, .indexAddr t x i, ty, pos, af, gu⟩ = true := .trans rfl rfl
@[simp] theorem opPure_index (t : TypeId) (x i : Operand) : opPure K fn ⟨dst, .index t x i, ty, pos, af, gu⟩ = true := .trans rfl rfl
@[simp] theorem opPure_lookup (t : TypeId) (x k : Operand) (ok : Bool) : opPure K fn ⟨dst, .lookup t x k ok, ty, pos, af, gu⟩ = true := .trans rfl rfl
@[simp] theorem opPure_mapUpdate (t : TypeId) (m k v : Operand) : opPure K fn ⟨dst, .mapUpdate t m k v, ty, pos, af, gu⟩ = false := .trans rfl rfl
@[simp] theorem opPure_extract (t : Operand) (i : Nat) : opPure K fn ⟨dst, .extract t i, ty, pos, af, gu⟩ = true := .trans rfl rfl
@[simp] theorem opPure_buildSlice (t : TypeId) (n : Nat) (ps : Array (Nat × Operand)) : opPure K fn ⟨dst, .buildSlice t n ps, ty, pos, af, gu⟩ = (match dst with | some d => !K.own fn d | none => true) := .trans rfl rfl
@[simp] theorem opPure_len (args : Array Operand) (ats : Array TypeId) : opPure K fn ⟨dst, .call ⟨.builtin .len, args, ats⟩, ty, pos, af, gu⟩ = true := .trans rfl rfl
@[simp] theorem opPure_min (args : Array Operand) (ats : Array TypeId) : opPure K fn ⟨dst, .call ⟨.builtin .min, args, ats⟩, ty, pos, af, gu⟩ = true := .trans rfl rfl
@[simp] theorem opPure_max (args : Array Operand) (ats : Array TypeId) : opPure K fn ⟨dst, .call ⟨.builtin .max, args, ats⟩, ty, pos, af, gu⟩ = true := .trans rfl rfl
@[simp] theorem opPure_append (args : Array Operand) (ats : Array TypeId) : opPure K fn ⟨dst, .call ⟨.builtin .append, args, ats⟩, ty, pos, af, gu⟩ = false := .trans rfl rfl
@[simp] theorem opPure_call (f : Operand) (args : Array Operand) (ats : Array TypeId) : opPure K fn ⟨dst, .call ⟨.value f, args, ats⟩, ty, pos, af, gu⟩ = false := .trans rfl rfl
@[simp] theorem isAlloc_move (x : Operand) : isAlloc ⟨dst, .move x, ty, pos, af, gu⟩ = false := by cases dst <;> rfl
@[simp] theorem isAlloc_assign (x : Operand) : isAlloc ⟨dst, .assign x, ty, pos, af, gu⟩ = false := by cases dst <;> rfl
@[simp] theorem isAlloc_pick (c a b : Operand) : isAlloc ⟨dst, .pick c a b, ty, pos, af, gu⟩ = false := by cases dst <;> rfl
@[simp] theorem isAlloc_box (t : TypeId) (x : Operand) : isAlloc ⟨dst, .box t x, ty, pos, af, gu⟩ = false := by cases dst <;> rfl
@[simp] theorem isAlloc_build (t : TypeId) (ps : Array (Nat × Operand)) : isAlloc ⟨dst, .build t ps, ty, pos, af, gu⟩ = false := by cases dst <;> rfl
@[simp] theorem isAlloc_buildSlice (t : TypeId) (n : Nat) (ps : Array (Nat × Operand)) : isAlloc ⟨dst, .buildSlice t n ps, ty, pos, af, gu⟩ = false := by cases dst <;> rfl
@[simp] theorem isAlloc_load (t : TypeId) (a : Operand) : isAlloc ⟨dst, .load t a, ty, pos, af, gu⟩ = false := by cases dst <;> rfl
@[simp] theorem isAlloc_store (t : TypeId) (a x : Operand) : isAlloc ⟨dst, .store t a x, ty, pos, af, gu⟩ = false := by cases dst <;> rfl
@[simp] theorem isAlloc_nilCheck (x : Operand) : isAlloc ⟨dst, .nilCheck x, ty, pos, af, gu⟩ = false := by cases dst <;> rfl
@[simp] theorem isAlloc_binOp (op : BinOp) (t : TypeId) (x y : Operand) (d : TypeId) : isAlloc ⟨dst, .binOp op t x y d, ty, pos, af, gu⟩ = false := by cases dst <;> rfl
@[simp] theorem isAlloc_unOp (op : UnOp) (t : TypeId) (x : Operand) : isAlloc ⟨dst, .unOp op t x, ty, pos, af, gu⟩ = false := by cases dst <;> rfl
@[simp] theorem isAlloc_convert (a b : TypeId) (x : Operand) : isAlloc ⟨dst, .convert a b x, ty, pos, af, gu⟩ = false := by cases dst <;> rfl
@[simp] theorem isAlloc_makeFunc (f : Fn) (a c : Array Operand) : isAlloc ⟨dst, .makeFunc f a c, ty, pos, af, gu⟩ = false := by cases dst <;> rfl
@[simp] theorem isAlloc_makeMap (t : TypeId) (r : Option Operand) : isAlloc ⟨dst, .makeMap t r, ty, pos, af, gu⟩ = false := by cases dst <;> rfl
@[simp] theorem isAlloc_makeSlice (t : TypeId) (l c : Operand) : isAlloc ⟨dst, .makeSlice t l c, ty, pos, af, gu⟩ = false := by cases dst <;> rfl
@[simp] theorem isAlloc_slice (t : TypeId) (x : Operand) (lo hi mx : Option Operand) : isAlloc ⟨dst, .slice t x lo hi mx, ty, pos, af, gu⟩ = false := by cases dst <;> rfl
@[simp] theorem isAlloc_fieldAddr (t : TypeId) (x : Operand) (f : Nat) : isAlloc ⟨dst, .fieldAddr t x f, ty, pos, af, gu⟩ = false := by cases dst <;> rfl
@[simp] theorem isAlloc_field (t : TypeId) (x : Operand) (f : Nat) : isAlloc ⟨dst, .field t x f, ty, pos, af, gu⟩ = false := by cases dst <;> rfl
@[simp] theorem isAlloc_indexAddr (t : TypeId) (x i : Operand) : isAlloc ⟨dst, .indexAddr t x i, ty, pos, af, gu⟩ = false := by cases dst <;> rfl
@[simp] theorem isAlloc_index (t : TypeId) (x i : Operand) : isAlloc ⟨dst, .index t x i, ty, pos, af, gu⟩ = false := by cases dst <;> rfl
@[simp] theorem isAlloc_lookup (t : TypeId) (x k : Operand) (ok : Bool) : isAlloc ⟨dst, .lookup t x k ok, ty, pos, af, gu⟩ = false := by cases dst <;> rfl
@[simp] theorem isAlloc_mapUpdate (t : TypeId) (m k v : Operand) : isAlloc ⟨dst, .mapUpdate t m k v, ty, pos, af, gu⟩ = false := by cases dst <;> rfl
@[simp] theorem isAlloc_extract (t : Operand) (i : Nat) : isAlloc ⟨dst, .extract t i, ty, pos, af, gu⟩ = false := by cases dst <;> rfl
@[simp] theorem isAlloc_call (c : Call) : isAlloc ⟨dst, .call c, ty, pos, af, gu⟩ = false := by cases dst <;> rfl
@[simp] theorem isAlloc_alloc {d : Nat} (t : TypeId) : isAlloc ⟨some d, .alloc t, ty, pos, af, none⟩ = true := .trans rfl rfl

/-! ### what operations tell -/
/-- A value, the heap as it was. -/
def rv (H : Heap) (x : Option GV) : Option (GV × Heap) := match x with | some v => some (v, H) | none => none
@[congr] theorem rv_cg {x y : Option GV} (h : ∀ _ : Unit, x = y) : rv H x = rv H y := by rw [h ()]
@[simp] theorem rv_some {v : GV} : rv H (some v) = some (v, H) := .trans rfl rfl
@[simp] theorem rv_none : rv H none = none := .trans rfl rfl
def rp (H : Heap) (x : Option PV) : Option (GV × Heap) := match x with | some v => some (.pure v, H) | none => none
@[congr] theorem rp_cg {x y : Option PV} (h : ∀ _ : Unit, x = y) : rp H x = rp H y := by rw [h ()]
@[simp] theorem rp_some {v : PV} : rp H (some v) = some (.pure v, H) := .trans rfl rfl
@[simp] theorem rp_none : rp H none = none := .trans rfl rfl
def rh (x : Option Heap) : Option (GV × Heap) := match x with | some H => some (gdead, H) | none => none
@[simp] theorem rh_some : rh (some H) = some (gdead, H) := .trans rfl rfl
@[simp] theorem rh_none : rh none = none := .trans rfl rfl
def rn (x : Option (Nm × Heap)) (g : Nm → GV) : Option (GV × Heap) := match x with | some (nm, H) => some (g nm, H) | none => none
@[simp] theorem rn_some {nm : Nm} {g : Nm → GV} : rn (some (nm, H)) g = some (g nm, H) := .trans rfl rfl
@[simp] theorem rn_none {g : Nm → GV} : rn none g = none := .trans rfl rfl

@[simp] theorem gop_move {x : Operand} : gop K fn ⟨dst, .move x, ty, pos, af, gu⟩ s H = rv H (some (ev s x)) := .trans rfl rfl
@[simp] theorem gop_assign {x : Operand} : gop K fn ⟨dst, .assign x, ty, pos, af, gu⟩ s H = rv H (some (ev s x)) := .trans rfl rfl
def pickV (c a b : GV) : Option GV := match c with | .pure (.bool t) => some (if t then a else b) | _ => none
@[simp] theorem pickV_bool {t : Bool} {a b : GV} : pickV (.pure (.bool t)) a b = some (if t = true then a else b) := .trans rfl rfl
@[simp] theorem gop_pick {c a b : Operand} : gop K fn ⟨dst, .pick c a b, ty, pos, af, gu⟩ s H = rv H (pickV (ev s c) (ev s a) (ev s b)) := by
  simp only [gop]; unfold pickV; generalize ev s c = g; cases g with
  | pure p => cases p <;> rfl
  | _ => rfl
/-- A new block of a key that tells no type. -/
def gnewU (H : Heap) (l key : Nat) (b : Blk) : Option (Nm × Heap) :=
  if H.length ≤ l then none else
  match H.get (l, key) with
  | some _ => none
  | none => some ((l, key), H.set (l, key) b)
def gnewV (H : Heap) (key : Nat) (b : Blk) : Option (Nm × Heap) := gnewU H (H.length - 1) key b
theorem tyOk_lt {key : Nat} {b : Blk} (h : key < tyBase) : tyOk key b = true := by unfold tyOk; split <;> simp [h]
theorem gnewAt_U {l key : Nat} {b : Blk} (h : key < tyBase) : gnewAt H l key b = gnewU H l key b := by
  unfold gnewAt gnewU; rw [tyOk_lt h]
  by_cases hl : H.length ≤ l
  · rw [if_pos hl, if_pos hl]
  · rw [if_neg hl, if_neg hl]; cases H.get (l, key) <;> simp
theorem gnew_V {d : Nat} {b : Blk} (h : d < tyBase) : gnew H d b = gnewV H d b := gnewAt_U h
theorem gnew_map {d : Nat} {es : List (PV × GV)} : gnew H d (.map es) = gnewV H d (.map es) := by
  unfold gnew gnewAt gnewV gnewU
  by_cases hl : H.length ≤ H.length - 1
  · rw [if_pos hl, if_pos hl]
  · rw [if_neg hl, if_neg hl]; cases H.get (H.length - 1, d) <;> simp [tyOk]
theorem gnew_loop {d : Nat} {l : GLoop} : gnew H d (.loop l) = gnewV H d (.loop l) := by
  unfold gnew gnewAt gnewV gnewU
  by_cases hl : H.length ≤ H.length - 1
  · rw [if_pos hl, if_pos hl]
  · rw [if_neg hl, if_neg hl]; cases H.get (H.length - 1, d) <;> simp [tyOk]
@[simp] theorem lt_tyBase {n : Nat} : (n < tyBase) = (n < 1329227995784915872903807060280344576) := .trans rfl rfl
def newBox (H : Heap) (d : Nat) (x : Option (List GV)) : Option (GV × Heap) := match x with | some cs => rn (gnewV H d (.box cs)) (fun nm => .bptr nm 0) | none => none
@[simp] theorem newBox_some {d : Nat} {cs : List GV} : newBox H d (some cs) = rn (gnewV H d (.box cs)) (fun nm => .bptr nm 0) := .trans rfl rfl
def cellsO' (x : Option GV) : Option (List GV) := match x with | some z => cellsO z | none => none
@[simp] theorem cellsO'_some {z : GV} : cellsO' (some z) = cellsO z := .trans rfl rfl
@[simp] theorem gop_alloc {d : Nat} {t : TypeId} (ht : K.typ t = false) (hd : d < tyBase) : gop K fn ⟨some d, .alloc t, ty, pos, af, gu⟩ s H = newBox H d (cellsO' (tzero K.P t)) := by
  simp only [gop]
  cases h : tzero K.P t with
  | none => rfl
  | some z =>
    simp only [cellsO'_some, newBox]
    cases cellsO z with
    | none => rfl
    | some cs =>
      simp only [gnewE, ht, Bool.false_eq_true, if_false]
      show (match gnew H d (.box cs) with | some (nm, H) => some (GV.bptr nm 0, H) | none => none) = _
      rw [gnew_V hd]
      cases gnewV H d (.box cs) with
      | none => rfl
      | some x => rfl
@[simp] theorem gop_box {d : Nat} {t : TypeId} {x : Operand} (hd : d < tyBase) : gop K fn ⟨some d, .box t x, ty, pos, af, gu⟩ s H = newBox H d (cellsO (ev s x)) := by
  simp only [gop, newBox]
  cases cellsO (ev s x) with
  | none => rfl
  | some cs =>
    simp only [gnew_V hd]
    cases gnewV H d (.box cs) with
    | none => rfl
    | some x => rfl
@[simp] theorem gnew_cons {fr : Fr} {d : Nat} {b : Blk} : gnewV (fr :: H) d b = if (fr.get d).isSome then none else some ((H.length, d), fr.ins d b :: H) := by
  unfold gnewV gnewU
  simp only [List.length_cons, Nat.add_sub_cancel]
  rw [if_neg (by omega)]
  simp only [Heap.get, Heap.set, if_true]
  cases fr.get d <;> simp
@[simp] theorem Fr.get_nil {q : Nat} : Fr.get [] q = none := .trans rfl rfl
@[simp] theorem Fr.get_cons {k q : Nat} {b : Blk} {r : Fr} : Fr.get ((k, b) :: r) q = if q = k then some b else Fr.get r q := .trans rfl rfl
@[simp] theorem Fr.ins_nil {q : Nat} {x : Blk} : Fr.ins q x [] = [(q, x)] := .trans rfl rfl
@[simp] theorem Fr.ins_cons {k q : Nat} {x b : Blk} {r : Fr} : Fr.ins q x ((k, b) :: r) = if q = k then (q, x) :: r else if q < k then (q, x) :: (k, b) :: r else (k, b) :: Fr.ins q x r := .trans rfl rfl
@[simp] theorem Heap.get_cons' {fr : Fr} {nm : Nm} : Heap.get (fr :: H) nm = if nm.1 = H.length then fr.get nm.2 else Heap.get H nm := .trans rfl rfl
@[simp] theorem Heap.set_cons' {fr : Fr} {nm : Nm} {b : Blk} : Heap.set (fr :: H) nm b = if nm.1 = H.length then fr.ins nm.2 b :: H else fr :: Heap.set H nm b := .trans rfl rfl

/-! values -/
@[simp] theorem cellsO_agg {l : List GV} : cellsO (.agg l) = some l := .trans rfl rfl
@[simp] theorem cellsO_pagg {l : List PV} : cellsO (.pure (.agg l)) = some (l.map .pure) := .trans rfl rfl
@[simp] theorem cellsO_int {k : IntKind} {n : Int} : cellsO (.pure (.int k n)) = some [.pure (.int k n)] := .trans rfl rfl
@[simp] theorem cellsO_bool {b : Bool} : cellsO (.pure (.bool b)) = some [.pure (.bool b)] := .trans rfl rfl
@[simp] theorem cellsO_str {l : List UInt8} : cellsO (.pure (.str l)) = some [.pure (.str l)] := .trans rfl rfl
@[simp] theorem cellsO_slice {l : List (List PV)} : cellsO (.pure (.slice l)) = some [.pure (.slice l)] := .trans rfl rfl
@[simp] theorem cellsO_fn {f : Nat} : cellsO (.pure (.fn f)) = some [.pure (.fn f)] := .trans rfl rfl
@[simp] theorem cellsO_nilm : cellsO (.pure .nilm) = some [.pure .nilm] := .trans rfl rfl
@[simp] theorem cellsO_nilf : cellsO (.pure .nilf) = some [.pure .nilf] := .trans rfl rfl
@[simp] theorem cellsO_nilp : cellsO (.pure .nilp) = some [.pure .nilp] := .trans rfl rfl
@[simp] theorem cellsO_nils : cellsO .nils = some [.nils] := .trans rfl rfl
@[simp] theorem cellsO_hdr {nm : Nm} {es top lo len : Nat} : cellsO (.hdr nm es top lo len) = some [.hdr nm es top lo len] := .trans rfl rfl
@[simp] theorem cellsO_bptr {nm : Nm} {o : Nat} : cellsO (.bptr nm o) = some [.bptr nm o] := .trans rfl rfl
@[simp] theorem cellsO_map {nm : Nm} : cellsO (.map nm) = some [.map nm] := .trans rfl rfl
@[simp] theorem cellsO_func {f : Nat} {a c : List GV} : cellsO (.func f a c) = some [.func f a c] := .trans rfl rfl
@[simp] theorem cellsO_yield {nm : Nm} : cellsO (.yield nm) = some [.yield nm] := .trans rfl rfl
@[simp] theorem cellsO_lits {l : List (List GV)} : cellsO (.lits l) = some [.lits l] := .trans rfl rfl
@[simp] theorem allPure_nil : allPure [] = some [] := .trans rfl rfl
@[simp] theorem allPure_pure {p : PV} {r : List GV} : allPure (.pure p :: r) = (allPure r).map (p :: ·) := by
  simp only [allPure]; cases allPure r <;> rfl
@[simp] theorem allPure_map' (l : List PV) : allPure (l.map .pure) = some l := allPure_map l
@[simp] theorem allPure_agg {l : List GV} {r : List GV} : allPure (.agg l :: r) = none := .trans rfl rfl
@[simp] theorem allPure_nils {r : List GV} : allPure (.nils :: r) = none := .trans rfl rfl
@[simp] theorem allPure_hdr {nm : Nm} {es top lo len : Nat} {r : List GV} : allPure (.hdr nm es top lo len :: r) = none := .trans rfl rfl
@[simp] theorem allPure_bptr {nm : Nm} {o : Nat} {r : List GV} : allPure (.bptr nm o :: r) = none := .trans rfl rfl
@[simp] theorem allPure_mapn {nm : Nm} {r : List GV} : allPure (.map nm :: r) = none := .trans rfl rfl
@[simp] theorem allPure_func {f : Nat} {a c : List GV} {r : List GV} : allPure (.func f a c :: r) = none := .trans rfl rfl
def mkA (x : Option (List PV)) (l : List GV) : GV := match x with | some ps => .pure (.agg ps) | none => .agg l
@[congr] theorem mkA_cg {x y : Option (List PV)} {l : List GV} (h : ∀ _ : Unit, x = y) : mkA x l = mkA y l := by rw [h ()]
@[simp] theorem mkA_some {ps : List PV} {l : List GV} : mkA (some ps) l = .pure (.agg ps) := .trans rfl rfl
@[simp] theorem mkA_none {l : List GV} : mkA none l = .agg l := .trans rfl rfl
@[simp] theorem mkAgg_def {l : List GV} : mkAgg l = mkA (allPure l) l := .trans rfl rfl
def mkT (x : Option (List PV)) (l : List GV) : GV := match x with | some ps => .pure (.tuple ps) | none => .tuple l
@[congr] theorem mkT_cg {x y : Option (List PV)} {l : List GV} (h : ∀ _ : Unit, x = y) : mkT x l = mkT y l := by rw [h ()]
@[simp] theorem mkT_some {ps : List PV} {l : List GV} : mkT (some ps) l = .pure (.tuple ps) := .trans rfl rfl
@[simp] theorem mkT_none {l : List GV} : mkT none l = .tuple l := .trans rfl rfl
@[simp] theorem mkTuple_def {l : List GV} : mkTuple l = mkT (allPure l) l := .trans rfl rfl

/-! memory -/
@[simp] theorem gop_load {t : TypeId} {a : Operand} : gop K fn ⟨dst, .load t a, ty, pos, af, gu⟩ s H = rv H (gload K.P t H (ev s a)) := .trans rfl rfl
@[simp] theorem gop_store {t : TypeId} {a x : Operand} : gop K fn ⟨dst, .store t a x, ty, pos, af, gu⟩ s H = rh (gstore K.P t H (ev s a) (ev s x)) := .trans rfl rfl
def ldBox (ag : Option Bool) (sz : Option Nat) (off : Nat) (b : Option Blk) : Option GV :=
  match ag, sz, b with
  | some true, some size, some (.box cs) => if off + size ≤ cs.length then some (mkAgg ((cs.drop off).take size)) else none
  | some false, some _, some (.box cs) => cs[off]?
  | _, _, _ => none
@[simp] theorem ldBox_agg {sz off : Nat} {cs : List GV} : ldBox (some true) (some sz) off (some (.box cs)) = if off + sz ≤ cs.length then some (mkAgg ((cs.drop off).take sz)) else none := .trans rfl rfl
@[simp] theorem ldBox_one {sz off : Nat} {cs : List GV} : ldBox (some false) (some sz) off (some (.box cs)) = cs[off]? := .trans rfl rfl
@[simp] theorem gload_bptr {P : Program} {t : TypeId} {nm : Nm} {off : Nat} : gload P t H (.bptr nm off) = ldBox (tagg P t) (tsize P t) off (H.get nm) := by
  unfold gload ldBox; generalize tagg P t = x; generalize tsize P t = y; simp only; generalize Heap.get H nm = z
  rcases x with _ | ag <;> rcases y with _ | sz <;> rcases z with _ | b <;> try rfl
  all_goals (cases ag <;> try rfl)
  all_goals (cases b <;> rfl)
def ldP (ag : Option Bool) (sz : Option Nat) (cs : List PV) : Option GV :=
  match ag, sz with
  | some true, some size => if size ≤ cs.length then some (.pure (.agg (cs.take size))) else none
  | some false, some _ => (match cs[0]? with | some p => some (.pure p) | none => none)
  | _, _ => none
@[simp] theorem ldP_agg {sz : Nat} {cs : List PV} : ldP (some true) (some sz) cs = if sz ≤ cs.length then some (.pure (.agg (cs.take sz))) else none := .trans rfl rfl
@[simp] theorem ldP_one {sz : Nat} {p : PV} {cs : List PV} : ldP (some false) (some sz) (p :: cs) = some (.pure p) := .trans rfl rfl
@[simp] theorem gload_pptr {P : Program} {t : TypeId} {cs : List PV} : gload P t H (.pptr cs) = ldP (tagg P t) (tsize P t) cs := by
  unfold gload ldP; generalize tagg P t = x; generalize tsize P t = y
  rcases x with _ | ag <;> rcases y with _ | sz <;> try rfl
  all_goals (cases ag <;> rfl)
def ldL (ag : Option Bool) (sz : Option Nat) (cs : List GV) : Option GV :=
  match ag, sz with
  | some true, some size => if size ≤ cs.length then some (mkAgg (cs.take size)) else none
  | some false, some _ => cs[0]?
  | _, _ => none
@[simp] theorem ldL_agg {sz : Nat} {cs : List GV} : ldL (some true) (some sz) cs = if sz ≤ cs.length then some (mkAgg (cs.take sz)) else none := .trans rfl rfl
@[simp] theorem ldL_one {sz : Nat} {cs : List GV} : ldL (some false) (some sz) cs = cs[0]? := .trans rfl rfl
@[simp] theorem gload_lptr {P : Program} {t : TypeId} {cs : List GV} : gload P t H (.lptr cs) = ldL (tagg P t) (tsize P t) cs := by
  unfold gload ldL; generalize tagg P t = x; generalize tsize P t = y
  rcases x with _ | ag <;> rcases y with _ | sz <;> try rfl
  all_goals (cases ag <;> rfl)
def ldE (ag : Option Bool) (sz : Option Nat) (es top i off : Nat) (b : Option Blk) : Option GV :=
  match ag, sz, b with
  | some ag, some size, some (.arr es' elems vf _) => if es' = es ∧ vf ≤ top ∧ i < top ∧ top ≤ elems.length then
        (match elems[i]? with
        | some e => if ag then (if off + size ≤ e.length then some (.pure (.agg ((e.drop off).take size))) else none) else (match e[off]? with | some p => some (.pure p) | none => none)
        | none => none)
      else none
  | _, _, _ => none
def ldM (ag : Option Bool) (sz : Option Nat) (nm : Nm) (es top i off : Nat) (b : Option Blk) : Option GV :=
  match ag, sz, b with
  | some ag, some _, some (.mat es' rows n) => if ag = false ∧ es = 1 ∧ off = 0 ∧ i < top ∧ top ≤ n then (match rows[i]? with | some r => some (.rhdr nm es' i r.length) | none => none) else none
  | ag, sz, b => ldE ag sz es top i off b
@[congr] theorem ldM_cg {ag : Option Bool} {sz : Option Nat} {nm : Nm} {es top i off : Nat} {b b' : Option Blk} (h : ∀ _ : Unit, b = b') : ldM ag sz nm es top i off b = ldM ag sz nm es top i off b' := by rw [h ()]
@[simp] theorem ldM_mat {sz : Nat} {nm : Nm} {top i es' n : Nat} {rows : List (List (List PV))} : ldM (some false) (some sz) nm 1 top i 0 (some (.mat es' rows n)) = if i < top ∧ top ≤ n then (match rows[i]? with | some r => some (.rhdr nm es' i r.length) | none => none) else none := by
  simp only [ldM, true_and]
@[simp] theorem ldM_arr {ag sz : Option _} {nm : Nm} {es top i off es' vf : Nat} {elems : List (List PV)} {ro : Bool} : ldM ag sz nm es top i off (some (.arr es' elems vf ro)) = ldE ag sz es top i off (some (.arr es' elems vf ro)) := by
  cases ag <;> cases sz <;> rfl
@[simp] theorem gload_eptr {P : Program} {t : TypeId} {nm : Nm} {es top i off : Nat} : gload P t H (.eptr nm es top i off) = ldM (tagg P t) (tsize P t) nm es top i off (H.get nm) := by
  unfold gload ldM ldE; generalize tagg P t = x; generalize tsize P t = y; simp only; generalize Heap.get H nm = z
  rcases x with _ | ag <;> rcases y with _ | sz <;> rcases z with _ | b <;> try rfl
  all_goals (cases b <;> rfl)
@[simp] theorem ldE_agg {sz es top i off es' vf : Nat} {elems : List (List PV)} {ro : Bool} : ldE (some true) (some sz) es top i off (some (.arr es' elems vf ro)) = if es' = es ∧ vf ≤ top ∧ i < top ∧ top ≤ elems.length then
        (match elems[i]? with
        | some e => if off + sz ≤ e.length then some (.pure (.agg ((e.drop off).take sz))) else none
        | none => none)
      else none := .trans rfl rfl
@[simp] theorem ldE_one {sz es top i off es' vf : Nat} {elems : List (List PV)} {ro : Bool} : ldE (some false) (some sz) es top i off (some (.arr es' elems vf ro)) = if es' = es ∧ vf ≤ top ∧ i < top ∧ top ≤ elems.length then
        (match elems[i]? with
        | some e => (match e[off]? with | some p => some (.pure p) | none => none)
        | none => none)
      else none := by
  simp only [ldE]
  split <;> simp

/-! numbers -/
def band (k : IntKind) (a b : Int) : Int := k.wrap (BitVec.ofInt k.bits a &&& BitVec.ofInt k.bits b).toNat
def bor (k : IntKind) (a b : Int) : Int := k.wrap (BitVec.ofInt k.bits a ||| BitVec.ofInt k.bits b).toNat
def bxor (k : IntKind) (a b : Int) : Int := k.wrap (BitVec.ofInt k.bits a ^^^ BitVec.ofInt k.bits b).toNat
@[simp] theorem isNilC_tmp {t : Nat} : isNilC (.tmp t) = false := .trans rfl rfl
@[simp] theorem isNilC_int {k : IntKind} {n : Int} : isNilC (.const (.int k n)) = false := .trans rfl rfl
@[simp] theorem isNilC_bool {b : Bool} : isNilC (.const (.bool b)) = false := .trans rfl rfl
@[simp] theorem isNilC_str {b : ByteArray} : isNilC (.const (.string b)) = false := .trans rfl rfl
@[simp] theorem isNilC_agg {a : Array Value} : isNilC (.const (.agg a)) = false := .trans rfl rfl
@[simp] theorem isNilC_nil : isNilC (.const (.slice none 0 0)) = true := .trans rfl rfl
@[simp] theorem isNilC_func {f : Nat} : isNilC (.func f) = false := .trans rfl rfl
@[simp] theorem isNilC_ptr {p : Option Addr} : isNilC (.const (.pointer p)) = false := .trans rfl rfl
@[simp] theorem isNilC_iface : isNilC (.const .nilIface) = false := .trans rfl rfl
@[simp] theorem isNilI_tmp {t : Nat} : isNilI (.tmp t) = false := .trans rfl rfl
@[simp] theorem isNilI_int {k : IntKind} {n : Int} : isNilI (.const (.int k n)) = false := .trans rfl rfl
@[simp] theorem isNilI_bool {b : Bool} : isNilI (.const (.bool b)) = false := .trans rfl rfl
@[simp] theorem isNilI_str {b : ByteArray} : isNilI (.const (.string b)) = false := .trans rfl rfl
@[simp] theorem isNilI_agg {a : Array Value} : isNilI (.const (.agg a)) = false := .trans rfl rfl
@[simp] theorem isNilI_func {f : Nat} : isNilI (.func f) = false := .trans rfl rfl
@[simp] theorem isNilI_ptr {p : Option Addr} : isNilI (.const (.pointer p)) = false := .trans rfl rfl
@[simp] theorem isNilI_iface : isNilI (.const .nilIface) = true := .trans rfl rfl
def niV (a : Option TypeDesc) (op : BinOp) (x : GV) : Option PV := match a, op, x with
  | some (.interface _), .eql, .pure .nili => some (.bool true)
  | some (.interface _), .neq, .pure .nili => some (.bool false)
  | some (.interface _), .eql, .pure (.iface _ _) => some (.bool false)
  | some (.interface _), .neq, .pure (.iface _ _) => some (.bool true)
  | _, _, _ => none
@[simp] theorem niV_1 {m : Array (String × TypeId)} : niV (some (.interface m)) .eql (.pure .nili) = some (.bool true) := .trans rfl rfl
@[simp] theorem niV_2 {m : Array (String × TypeId)} : niV (some (.interface m)) .neq (.pure .nili) = some (.bool false) := .trans rfl rfl
@[simp] theorem niV_3 {m : Array (String × TypeId)} {t : TypeId} {v : PV} : niV (some (.interface m)) .eql (.pure (.iface t v)) = some (.bool false) := .trans rfl rfl
@[simp] theorem niV_4 {m : Array (String × TypeId)} {t : TypeId} {v : PV} : niV (some (.interface m)) .neq (.pure (.iface t v)) = some (.bool true) := .trans rfl rfl
@[simp] theorem gnilI_def {op : BinOp} {t : TypeId} {x : GV} : gnilI K op t x = niV (K.P.underlying t) op x := by
  unfold gnilI niV; rfl
theorem gop_binOp0 {op : BinOp} {t d : TypeId} {x y : Operand} : gop K fn ⟨dst, .binOp op t x y d, ty, pos, af, gu⟩ s H = rp H (gbinN K op t s x y) := .trans rfl rfl
@[simp] theorem gop_binOp {op : BinOp} {t d : TypeId} {x y : Operand} : gop K fn ⟨dst, .binOp op t x y d, ty, pos, af, gu⟩ s H = rp H (if isNilC y = true then gnilEq K op t (ev s x) else if isNilI y = true then gnilI K op t (ev s x) else gbin K op t (ev s x) (ev s y)) := by
  rw [gop_binOp0]; rfl
section
variable {t : TypeId} {k : IntKind} {a b : Int}
@[simp] theorem gbin_add : gbin K .add t (.pure (.int k a)) (.pure (.int k b)) = some (.int k (k.wrap (a + b))) := by simp [gbin, gint]
@[simp] theorem gbin_sub : gbin K .sub t (.pure (.int k a)) (.pure (.int k b)) = some (.int k (k.wrap (a - b))) := by simp [gbin, gint]
@[simp] theorem gbin_mul : gbin K .mul t (.pure (.int k a)) (.pure (.int k b)) = some (.int k (k.wrap (a * b))) := by simp [gbin, gint]
@[simp] theorem gbin_quo : gbin K .quo t (.pure (.int k a)) (.pure (.int k b)) = if b = 0 then none else some (.int k (k.wrap (a.tdiv b))) := by simp [gbin, gint]
@[simp] theorem gbin_rem : gbin K .rem t (.pure (.int k a)) (.pure (.int k b)) = if b = 0 then none else some (.int k (a.tmod b)) := by simp [gbin, gint]
@[simp] theorem gbin_and : gbin K .and t (.pure (.int k a)) (.pure (.int k b)) = some (.int k (band k a b)) := by simp [gbin, gint, band]
@[simp] theorem gbin_or : gbin K .or t (.pure (.int k a)) (.pure (.int k b)) = some (.int k (bor k a b)) := by simp [gbin, gint, bor]
@[simp] theorem gbin_xor : gbin K .xor t (.pure (.int k a)) (.pure (.int k b)) = some (.int k (bxor k a b)) := by simp [gbin, gint, bxor]
@[simp] theorem gbin_eql : gbin K .eql t (.pure (.int k a)) (.pure (.int k b)) = some (.bool (a == b)) := by simp [gbin, gint]
@[simp] theorem gbin_neq : gbin K .neq t (.pure (.int k a)) (.pure (.int k b)) = some (.bool (a != b)) := by simp [gbin, gint]
@[simp] theorem gbin_lss : gbin K .lss t (.pure (.int k a)) (.pure (.int k b)) = some (.bool (decide (a < b))) := by simp [gbin, gint]
@[simp] theorem gbin_leq : gbin K .leq t (.pure (.int k a)) (.pure (.int k b)) = some (.bool (decide (a ≤ b))) := by simp [gbin, gint]
@[simp] theorem gbin_gtr : gbin K .gtr t (.pure (.int k a)) (.pure (.int k b)) = some (.bool (decide (b < a))) := by simp [gbin, gint]
@[simp] theorem gbin_geq : gbin K .geq t (.pure (.int k a)) (.pure (.int k b)) = some (.bool (decide (b ≤ a))) := by simp [gbin, gint]
@[simp] theorem gbin_shl {k' : IntKind} : gbin K .shl t (.pure (.int k a)) (.pure (.int k' b)) = if b < 0 then none else some (.int k (k.wrap (a * 2 ^ (min b.toNat k.bits)))) := by simp [gbin, gshift]
@[simp] theorem gbin_shr {k' : IntKind} : gbin K .shr t (.pure (.int k a)) (.pure (.int k' b)) = if b < 0 then none else some (.int k (a.fdiv (2 ^ (min b.toNat k.bits)))) := by simp [gbin, gshift]
end
@[simp] theorem gbin_str {op : BinOp} {t : TypeId} {a b : List UInt8} : gbin K op t (.pure (.str a)) (.pure (.str b)) = gstr op a b := .trans rfl rfl
@[simp] theorem gbin_beql {t : TypeId} {a b : Bool} : gbin K .eql t (.pure (.bool a)) (.pure (.bool b)) = (match K.P.underlying t with | some .bool => some (.bool (a == b)) | _ => none) := by
  simp only [gbin]; cases K.P.underlying t with
  | none => rfl
  | some x => cases x <;> rfl
@[simp] theorem gbin_bneq {t : TypeId} {a b : Bool} : gbin K .neq t (.pure (.bool a)) (.pure (.bool b)) = (match K.P.underlying t with | some .bool => some (.bool (!(a == b))) | _ => none) := by
  simp only [gbin]; cases K.P.underlying t with
  | none => rfl
  | some x => cases x <;> rfl
def eqA (neg : Bool) (ks : Option (List SK)) (a b : List PV) : Option PV := match ks with | some ks => (match eqRow ks a b with | some q => some (.bool (if neg then !q else q)) | none => none) | none => none
@[simp] theorem gbin_aeql {t : TypeId} {a b : List PV} : gbin K .eql t (.pure (.agg a)) (.pure (.agg b)) = eqA false (K.eqs t) a b := by
  simp only [gbin, eqA]; cases K.eqs t with
  | none => rfl
  | some ks => simp only; cases eqRow ks a b <;> rfl
@[simp] theorem gbin_aneq {t : TypeId} {a b : List PV} : gbin K .neq t (.pure (.agg a)) (.pure (.agg b)) = eqA true (K.eqs t) a b := by
  simp only [gbin, eqA]; cases K.eqs t with
  | none => rfl
  | some ks => simp only; cases eqRow ks a b <;> rfl
@[simp] theorem eqA_some {neg : Bool} {ks : List SK} {a b : List PV} : eqA neg (some ks) a b = (eqRow ks a b).map (fun q => .bool (if neg then !q else q)) := by
  simp only [eqA]; cases eqRow ks a b <;> rfl
@[simp] theorem eqRow_nil : eqRow [] [] [] = some true := .trans rfl rfl
@[simp] theorem eqRow_int {k : IntKind} {ks : List SK} {x y : Int} {a b : List PV} : eqRow (.int k :: ks) (.int k x :: a) (.int k y :: b) = (eqRow ks a b).map (x == y && ·) := by
  simp only [eqRow, and_self, if_true]; cases eqRow ks a b <;> rfl
@[simp] theorem eqRow_bool {ks : List SK} {x y : Bool} {a b : List PV} : eqRow (.bool :: ks) (.bool x :: a) (.bool y :: b) = (eqRow ks a b).map (x == y && ·) := by
  simp only [eqRow]; cases eqRow ks a b <;> rfl
@[simp] theorem eqRow_str {ks : List SK} {x y : List UInt8} {a b : List PV} : eqRow (.str :: ks) (.str x :: a) (.str y :: b) = (eqRow ks a b).map (x == y && ·) := by
  simp only [eqRow]; cases eqRow ks a b <;> rfl
def unV (op : UnOp) (x : GV) : Option GV := match op, x with
  | .not, .pure (.bool b) => some (.pure (.bool (!b)))
  | .neg, .pure (.int k n) => some (.pure (.int k (k.wrap (-n))))
  | _, _ => none
@[simp] theorem unV_not {b : Bool} : unV .not (.pure (.bool b)) = some (.pure (.bool (!b))) := .trans rfl rfl
@[simp] theorem unV_neg {k : IntKind} {n : Int} : unV .neg (.pure (.int k n)) = some (.pure (.int k (k.wrap (-n)))) := .trans rfl rfl
@[simp] theorem gop_unOp {op : UnOp} {t : TypeId} {x : Operand} : gop K fn ⟨dst, .unOp op t x, ty, pos, af, gu⟩ s H = rv H (unV op (ev s x)) := by
  simp only [gop]; unfold unV; generalize ev s x = g; cases op <;> cases g <;> try rfl
  all_goals (rename_i p; cases p <;> rfl)
def cvV (P : Program) (a b : Option TypeDesc) (x : GV) : Option GV := match a, b, x with
  | some _, some (.int k), .pure (.int _ n) => some (.pure (.int k (k.wrap n)))
  | some _, some .string, .pure (.str l) => some (.pure (.str l))
  | some (.slice e), some .string, .pure (.slice rows) => (match P.underlying e, bytesOf rows with | some (.int .u8), some l => if rows.isEmpty then none else some (.pure (.str l)) | _, _ => none)
  | _, _, _ => none
@[simp] theorem cvV_int {P : Program} {d : TypeDesc} {k k' : IntKind} {n : Int} : cvV P (some d) (some (.int k)) (.pure (.int k' n)) = some (.pure (.int k (k.wrap n))) := .trans rfl rfl
@[simp] theorem cvV_str {P : Program} {d : TypeDesc} {l : List UInt8} : cvV P (some d) (some .string) (.pure (.str l)) = some (.pure (.str l)) := .trans rfl rfl
theorem cvV_bytes {P : Program} {e : TypeId} {rows : List (List PV)} {l : List UInt8} (h1 : P.underlying e = some (.int .u8)) (h2 : bytesOf rows = some l) (h3 : rows ≠ []) : cvV P (some (.slice e)) (some .string) (.pure (.slice rows)) = some (.pure (.str l)) := by
  simp [cvV, h1, h2, h3]
@[simp] theorem gop_convert {a b : TypeId} {x : Operand} : gop K fn ⟨dst, .convert a b x, ty, pos, af, gu⟩ s H = rv H (cvV K.P (K.P.underlying a) (K.P.underlying b) (ev s x)) := by
  simp only [gop]; unfold cvV; generalize ev s x = g; generalize K.P.underlying a = x1; generalize K.P.underlying b = x2
  rcases x1 with _ | d1 <;> rcases x2 with _ | d2 <;> try rfl
  cases d2 <;> cases g <;> try rfl
  all_goals (rename_i p; cases p <;> try rfl)
  all_goals
    rename_i rows
    cases d1 <;> try rfl
    rename_i e
    simp only
    cases K.P.underlying e with
    | none => rfl
    | some d =>
      cases d <;> try rfl
      rename_i k
      cases k <;> try rfl
      cases bytesOf rows with
      | none => rfl
      | some l => simp only; split <;> rfl
def ncV (x : GV) : Option GV := match x with
  | .bptr nm off => some (.bptr nm off)
  | .eptr nm es top i off => some (.eptr nm es top i off)
  | .pptr cs => some (.pptr cs)
  | .lptr cs => some (.lptr cs)
  | .func f first cap => some (.func f first cap)
  | .pure (.fn f) => some (.pure (.fn f))
  | .yield nm => some (.yield nm)
  | _ => none
@[simp] theorem ncV_bptr {nm : Nm} {o : Nat} : ncV (.bptr nm o) = some (.bptr nm o) := .trans rfl rfl
@[simp] theorem ncV_eptr {nm : Nm} {es top i o : Nat} : ncV (.eptr nm es top i o) = some (.eptr nm es top i o) := .trans rfl rfl
@[simp] theorem ncV_pptr {cs : List PV} : ncV (.pptr cs) = some (.pptr cs) := .trans rfl rfl
@[simp] theorem ncV_lptr {cs : List GV} : ncV (.lptr cs) = some (.lptr cs) := .trans rfl rfl
@[simp] theorem ncV_func {f : Nat} {a c : List GV} : ncV (.func f a c) = some (.func f a c) := .trans rfl rfl
@[simp] theorem ncV_fn {f : Nat} : ncV (.pure (.fn f)) = some (.pure (.fn f)) := .trans rfl rfl
@[simp] theorem ncV_yield {nm : Nm} : ncV (.yield nm) = some (.yield nm) := .trans rfl rfl
@[simp] theorem gop_nilCheck {x : Operand} : gop K fn ⟨dst, .nilCheck x, ty, pos, af, gu⟩ s H = rv H (ncV (ev s x)) := by
  simp only [gop]; unfold ncV; generalize ev s x = g; cases g <;> try rfl
  all_goals (rename_i p; cases p <;> rfl)
/-! structs, arrays -/
@[simp] theorem gmoved_bptr {q : Nat} {nm : Nm} {o : Nat} : gmoved q (.bptr nm o) = some (.bptr nm (o + q)) := .trans rfl rfl
@[simp] theorem gmoved_eptr {q : Nat} {nm : Nm} {es top i o : Nat} : gmoved q (.eptr nm es top i o) = some (.eptr nm es top i (o + q)) := .trans rfl rfl
@[simp] theorem gmoved_pptr {q : Nat} {cs : List PV} : gmoved q (.pptr cs) = if q ≤ cs.length then some (.pptr (cs.drop q)) else none := .trans rfl rfl
@[simp] theorem gmoved_lptr {q : Nat} {cs : List GV} : gmoved q (.lptr cs) = if q ≤ cs.length then some (.lptr (cs.drop q)) else none := .trans rfl rfl
@[simp] theorem gmoved_rptr {q : Nat} {nm : Nm} {es i j o : Nat} : gmoved q (.rptr nm es i j o) = some (.rptr nm es i j (o + q)) := .trans rfl rfl
def faV (f : Option (Nat × Option Nat)) (x : GV) : Option GV := match f with | some (off, some size) => if size = 0 then none else gmoved off x | _ => none
@[simp] theorem faV_some {off size : Nat} {x : GV} : faV (some (off, some size)) x = if size = 0 then none else gmoved off x := .trans rfl rfl
/-- A field: offset, size. -/
def tfs (P : Program) (t : TypeId) (f : Nat) : Option (Nat × Option Nat) := (tfield P t f).map fun x => (x.1, tsize P x.2)
/-- A field: offset, is it made of cells, size. -/
def tfa (P : Program) (t : TypeId) (f : Nat) : Option (Nat × Option Bool × Option Nat) := (tfield P t f).map fun x => (x.1, tagg P x.2, tsize P x.2)
@[simp] theorem gop_fieldAddr {t : TypeId} {x : Operand} {f : Nat} : gop K fn ⟨dst, .fieldAddr t x f, ty, pos, af, gu⟩ s H = rv H (faV (tfs K.P t f) (ev s x)) := by
  simp only [gop, faV, tfs]
  cases tfield K.P t f with
  | none => rfl
  | some p =>
    obtain ⟨off, ft⟩ := p
    simp only [Option.map_some]
    cases tsize K.P ft with
    | none => rfl
    | some size =>
      simp only
      split
      · rfl
      · cases gmoved off (ev s x) <;> rfl
def fdV (f : Option (Nat × Option Bool × Option Nat)) (x : GV) : Option GV := match f, x with
  | some (off, some ag, some size), .agg cs => if off + size ≤ cs.length then (if ag then some (mkAgg ((cs.drop off).take size)) else cs[off]?) else none
  | some (off, some ag, some size), .pure (.agg cs) => if off + size ≤ cs.length then (if ag then some (.pure (.agg ((cs.drop off).take size))) else (match cs[off]? with | some v => some (.pure v) | none => none)) else none
  | _, _ => none
@[simp] theorem fdV_agg {off size : Nat} {cs : List GV} : fdV (some (off, some true, some size)) (.agg cs) = if off + size ≤ cs.length then some (mkAgg ((cs.drop off).take size)) else none := by simp [fdV]
@[simp] theorem fdV_one {off size : Nat} {cs : List GV} : fdV (some (off, some false, some size)) (.agg cs) = if off + size ≤ cs.length then cs[off]? else none := by simp [fdV]
@[simp] theorem fdV_pagg {off size : Nat} {cs : List PV} : fdV (some (off, some true, some size)) (.pure (.agg cs)) = if off + size ≤ cs.length then some (.pure (.agg ((cs.drop off).take size))) else none := by simp [fdV]
@[simp] theorem fdV_pone {off size : Nat} {cs : List PV} : fdV (some (off, some false, some size)) (.pure (.agg cs)) = if off + size ≤ cs.length then (match cs[off]? with | some v => some (.pure v) | none => none) else none := by simp [fdV]
@[simp] theorem gop_field {t : TypeId} {x : Operand} {f : Nat} : gop K fn ⟨dst, .field t x f, ty, pos, af, gu⟩ s H = rv H (fdV (tfa K.P t f) (ev s x)) := by
  simp only [gop, tfa]
  cases tfield K.P t f with
  | none => rfl
  | some p =>
    obtain ⟨off, ft⟩ := p
    simp only [Option.map_some]
    unfold fdV
    cases tagg K.P ft with
    | none => rfl
    | some ag =>
      cases tsize K.P ft with
      | none => rfl
      | some size =>
        cases ev s x with
        | pure p =>
          cases p with
          | agg cs =>
            simp only
            split
            · cases ag
              · simp only [Bool.false_eq_true, if_false]; cases cs[off]? <;> rfl
              · rfl
            · rfl
          | _ => rfl
        | agg cs =>
          simp only
          split
          · cases ag
            · simp only [Bool.false_eq_true, if_false]; cases cs[off]? <;> rfl
            · rfl
          · rfl
        | _ => rfl
/-- An array's type: how many, size of an element, is it made of cells. -/
def tarrS (P : Program) (t : TypeId) : Option (Nat × Option Nat × Option Bool) := (tarr P t).map fun x => (x.1, tsize P x.2, tagg P x.2)
/-- A slice's type: the size of an element. -/
def telemS (P : Program) (t : TypeId) : Option (Option Nat) := (telem P t).map fun e => tsize P e
def iaS (es : Option (Option Nat)) (x : GV) (i : Int) : Option GV := match es with
  | some (some size) => (match x with
          | .hdr nm es top lo len => if es = size ∧ i < len then some (.eptr nm es top (lo + i.toNat) 0) else none
          | .pure (.slice l) => (match l[i.toNat]? with | some cs => if cs.length = size then some (.pptr cs) else none | none => none)
          | .lits l => (match l[i.toNat]? with | some cs => if cs.length = size then some (.lptr cs) else none | none => none)
          | .rhdr nm es q len => if es = size ∧ i < len then some (.rptr nm es q i.toNat 0) else none
          | _ => none)
  | _ => none
def iaV (ar : Option (Nat × Option Nat × Option Bool)) (es : Option (Option Nat)) (x i : GV) : Option GV := match i with
  | .pure (.int _ i) => if i < 0 then none else
    (match ar with
    | some (n, some size, _) => if (n : Int) ≤ i then none else gmoved (i.toNat * size) x
    | some (_, none, _) => none
    | none => iaS es x i)
  | _ => none
@[simp] theorem iaV_arr {n size : Nat} {ag : Option Bool} {es : Option (Option Nat)} {x : GV} {k : IntKind} {i : Int} : iaV (some (n, some size, ag)) es x (.pure (.int k i)) = if i < 0 then none else if (n : Int) ≤ i then none else gmoved (i.toNat * size) x := .trans rfl rfl
@[simp] theorem iaV_slice {es : Option (Option Nat)} {x : GV} {k : IntKind} {i : Int} : iaV none es x (.pure (.int k i)) = if i < 0 then none else iaS es x i := .trans rfl rfl
@[simp] theorem iaS_hdr {size : Nat} {nm : Nm} {es top lo len : Nat} {i : Int} : iaS (some (some size)) (.hdr nm es top lo len) i = if es = size ∧ i < len then some (.eptr nm es top (lo + i.toNat) 0) else none := .trans rfl rfl
@[simp] theorem iaS_pure {size : Nat} {l : List (List PV)} {i : Int} : iaS (some (some size)) (.pure (.slice l)) i = (match l[i.toNat]? with | some cs => if cs.length = size then some (.pptr cs) else none | none => none) := .trans rfl rfl
@[simp] theorem iaS_lits {size : Nat} {l : List (List GV)} {i : Int} : iaS (some (some size)) (.lits l) i = (match l[i.toNat]? with | some cs => if cs.length = size then some (.lptr cs) else none | none => none) := .trans rfl rfl
@[simp] theorem iaS_rhdr {size : Nat} {nm : Nm} {es q len : Nat} {i : Int} : iaS (some (some size)) (.rhdr nm es q len) i = if es = size ∧ i < (len : Int) then some (.rptr nm es q i.toNat 0) else none := .trans rfl rfl
@[simp] theorem gop_indexAddr {t : TypeId} {x i : Operand} : gop K fn ⟨dst, .indexAddr t x i, ty, pos, af, gu⟩ s H = rv H (iaV (tarrS K.P t) (telemS K.P t) (ev s x) (ev s i)) := by
  have h : gindexAddr K t (ev s x) (ev s i) = iaV (tarrS K.P t) (telemS K.P t) (ev s x) (ev s i) := by
    unfold gindexAddr iaV tarrS telemS
    generalize ev s i = g
    generalize ev s x = gx
    cases g with
    | pure p =>
      cases p with
      | int k n =>
        simp only
        split
        · rfl
        · cases tarr K.P t with
          | some p =>
            obtain ⟨n, e⟩ := p
            simp only [Option.map_some]
            cases tsize K.P e <;> rfl
          | none =>
            simp only [Option.map_none]
            cases telem K.P t with
            | none => rfl
            | some e =>
              simp only [Option.map_some]
              cases tsize K.P e <;> rfl
      | _ => rfl
    | _ => rfl
  simp only [gop, h]
  cases iaV (tarrS K.P t) (telemS K.P t) (ev s x) (ev s i) <;> rfl
def ixV (ar : Option (Nat × Option Nat × Option Bool)) (un : Option TypeDesc) (x i : GV) : Option GV := match i with
  | .pure (.int _ i) => if i < 0 then none else
    (match ar with
    | some (n, some size, some ag) => if (n : Int) ≤ i then none else
        (match x with
        | .agg cs => if (i.toNat * size) + size ≤ cs.length then (if ag then some (mkAgg ((cs.drop (i.toNat * size)).take size)) else cs[i.toNat * size]?) else none
        | .pure (.agg cs) => if (i.toNat * size) + size ≤ cs.length then (if ag then some (.pure (.agg ((cs.drop (i.toNat * size)).take size))) else (match cs[i.toNat * size]? with | some p => some (.pure p) | none => none)) else none
        | _ => none)
    | some _ => none
    | none => (match x, un with
      | .pure (.str l), some .string => (match l[i.toNat]? with | some b => some (.pure (.int .u8 b.toNat)) | none => none)
      | _, _ => none))
  | _ => none
@[simp] theorem ixV_one {n size : Nat} {un : Option TypeDesc} {cs : List PV} {k : IntKind} {i : Int} : ixV (some (n, some size, some false)) un (.pure (.agg cs)) (.pure (.int k i)) =
    if i < 0 then none else if (n : Int) ≤ i then none else if (i.toNat * size) + size ≤ cs.length then (match cs[i.toNat * size]? with | some p => some (.pure p) | none => none) else none := by simp [ixV]
@[simp] theorem ixV_agg {n size : Nat} {un : Option TypeDesc} {cs : List PV} {k : IntKind} {i : Int} : ixV (some (n, some size, some true)) un (.pure (.agg cs)) (.pure (.int k i)) =
    if i < 0 then none else if (n : Int) ≤ i then none else if (i.toNat * size) + size ≤ cs.length then some (.pure (.agg ((cs.drop (i.toNat * size)).take size))) else none := by simp [ixV]
@[simp] theorem ixV_gone {n size : Nat} {un : Option TypeDesc} {cs : List GV} {k : IntKind} {i : Int} : ixV (some (n, some size, some false)) un (.agg cs) (.pure (.int k i)) =
    if i < 0 then none else if (n : Int) ≤ i then none else if (i.toNat * size) + size ≤ cs.length then cs[i.toNat * size]? else none := by simp [ixV]
@[simp] theorem ixV_gagg {n size : Nat} {un : Option TypeDesc} {cs : List GV} {k : IntKind} {i : Int} : ixV (some (n, some size, some true)) un (.agg cs) (.pure (.int k i)) =
    if i < 0 then none else if (n : Int) ≤ i then none else if (i.toNat * size) + size ≤ cs.length then some (mkAgg ((cs.drop (i.toNat * size)).take size)) else none := by simp [ixV]
@[simp] theorem ixV_str {l : List UInt8} {k : IntKind} {i : Int} : ixV none (some .string) (.pure (.str l)) (.pure (.int k i)) = if i < 0 then none else (match l[i.toNat]? with | some b => some (.pure (.int .u8 b.toNat)) | none => none) := .trans rfl rfl
@[simp] theorem gop_index {t : TypeId} {x i : Operand} : gop K fn ⟨dst, .index t x i, ty, pos, af, gu⟩ s H = rv H (ixV (tarrS K.P t) (K.P.underlying t) (ev s x) (ev s i)) := by
  have h : gindex K (ev s x) (ev s i) t = ixV (tarrS K.P t) (K.P.underlying t) (ev s x) (ev s i) := by
    unfold gindex ixV tarrS
    generalize ev s i = g
    generalize ev s x = gx
    cases g with
    | pure p =>
      cases p with
      | int k n =>
        simp only
        split
        · rfl
        · cases tarr K.P t with
          | some p =>
            obtain ⟨n, e⟩ := p
            simp only [Option.map_some]
            cases tagg K.P e with
            | none => cases tsize K.P e <;> rfl
            | some ag =>
              cases tsize K.P e with
              | none => rfl
              | some size => rfl
          | none => rfl
      | _ => rfl
    | _ => rfl
  simp only [gop, h]
  cases ixV (tarrS K.P t) (K.P.underlying t) (ev s x) (ev s i) <;> rfl
def bdV (ar : Option (Option Nat)) (pl : Option (List (Nat × Nat))) (z : Option (List GV)) (ps : List (Nat × GV)) : Option GV :=
  match z with
  | some zs =>
    (match (match ar with
      | some (some size) => gfill (fun i => some (i * size, size)) zs ps
      | some none => none
      | none => (match pl with | some l => gfill (fun i => l[i]?) zs ps | none => none)) with
    | some cs => some (mkAgg cs)
    | none => none)
  | none => none
def bdM (x : Option (List GV)) : Option GV := match x with | some cs => some (mkAgg cs) | none => none
@[simp] theorem bdM_some {cs : List GV} : bdM (some cs) = some (mkAgg cs) := .trans rfl rfl
@[simp] theorem bdV_arr {size : Nat} {pl : Option (List (Nat × Nat))} {zs : List GV} {ps : List (Nat × GV)} : bdV (some (some size)) pl (some zs) ps = bdM (gfill (fun i => some (i * size, size)) zs ps) := .trans rfl rfl
@[simp] theorem bdV_struct {l : List (Nat × Nat)} {zs : List GV} {ps : List (Nat × GV)} : bdV none (some l) (some zs) ps = bdM (gfill (fun i => l[i]?) zs ps) := .trans rfl rfl
@[simp] theorem gop_build {t : TypeId} {ps : Array (Nat × Operand)} : gop K fn ⟨dst, .build t ps, ty, pos, af, gu⟩ s H = rv H (bdV ((tarrS K.P t).map (·.2.1)) (tplaces K.P t) (cellsO' (tzero K.P t)) (ps.toList.map (evp s))) := by
  simp only [gop, bdV, tarrS]
  cases tzero K.P t with
  | none => rfl
  | some z =>
    simp only [cellsO'_some]
    cases cellsO z with
    | none => rfl
    | some zs =>
      simp only
      cases tarr K.P t with
      | some p =>
        obtain ⟨n, e⟩ := p
        simp only [Option.map_some]
        cases tsize K.P e with
        | none => rfl
        | some size =>
          simp only
          cases gfill (fun i => some (i * size, size)) zs (ps.toList.map (evp s)) <;> rfl
      | none =>
        simp only [Option.map_none]
        cases tplaces K.P t with
        | none => rfl
        | some l =>
          simp only
          cases gfill (fun i => l[i]?) zs (ps.toList.map (evp s)) <;> rfl
@[simp] theorem evp_def {x : Nat × Operand} : evp s x = (x.1, ev s x.2) := .trans rfl rfl
@[simp] theorem gfill_nil {place : Nat → Option (Nat × Nat)} {cells : List GV} : gfill place cells [] = some cells := .trans rfl rfl
def gfillC (place : Nat → Option (Nat × Nat)) (cells : List GV) (rest : List (Nat × GV)) (p : Option (Nat × Nat)) (vs : Option (List GV)) : Option (List GV) :=
  match p, vs with
  | some (off, size), some vs => if vs.length ≠ size ∨ off + vs.length > cells.length then none else gfill place (splice cells off vs) rest
  | _, _ => none
@[congr] theorem gfillC_cg {place : Nat → Option (Nat × Nat)} {cells : List GV} {rest : List (Nat × GV)} {p p' : Option (Nat × Nat)} {vs vs' : Option (List GV)} (h : ∀ _ : Unit, p = p') (h' : ∀ _ : Unit, vs = vs') : gfillC place cells rest p vs = gfillC place cells rest p' vs' := by rw [h (), h' ()]
@[simp] theorem gfillC_some {place : Nat → Option (Nat × Nat)} {cells : List GV} {rest : List (Nat × GV)} {off size : Nat} {vs : List GV} : gfillC place cells rest (some (off, size)) (some vs) =
    if vs.length ≠ size ∨ off + vs.length > cells.length then none else gfill place (splice cells off vs) rest := .trans rfl rfl
@[simp] theorem gfill_cons {place : Nat → Option (Nat × Nat)} {cells : List GV} {i : Nat} {v : GV} {rest : List (Nat × GV)} : gfill place cells ((i, v) :: rest) = gfillC place cells rest (place i) (cellsO v) := by
  simp only [gfill]
  cases place i with
  | none => rfl
  | some p => obtain ⟨off, size⟩ := p; cases cellsO v <;> rfl
@[simp] theorem splice_def {α : Type} {l xs : List α} {off : Nat} : splice l off xs = l.take off ++ xs ++ l.drop (off + xs.length) := .trans rfl rfl

/-! stores -/
def stBox (size off : Nat) (cells' : List GV × Heap) (nm : Nm) : Option Heap := match cells'.2.get nm with
  | some (.box cs) => if off + size ≤ cs.length then some (cells'.2.set nm (.box (splice cs off cells'.1))) else none
  | _ => none
def stB (size off : Nat) (cs' : List GV) (H : Heap) (nm : Nm) (b : Option Blk) : Option Heap := match b with
  | some (.box cs) => if off + size ≤ cs.length then some (H.set nm (.box (splice cs off cs'))) else none
  | _ => none
@[congr] theorem stB_cg {size off : Nat} {cs' : List GV} {nm : Nm} {b b' : Option Blk} (h : ∀ _ : Unit, b = b') : stB size off cs' H nm b = stB size off cs' H nm b' := by rw [h ()]
@[simp] theorem stB_box {size off : Nat} {cs' cs : List GV} {nm : Nm} : stB size off cs' H nm (some (.box cs)) = if off + size ≤ cs.length then some (H.set nm (.box (splice cs off cs'))) else none := .trans rfl rfl
@[simp] theorem stBox_def {size off : Nat} {cs' : List GV} {nm : Nm} : stBox size off (cs', H) nm = stB size off cs' H nm (H.get nm) := by
  unfold stBox stB; rfl
def stV (sz : Option Nat) (cells : Option (List GV)) (k : Nat → List GV → Option Heap) : Option Heap := match sz, cells with | some size, some cells => if cells.length ≠ size then none else k size cells | _, _ => none
@[congr] theorem stV_cg {sz sz' : Option Nat} {cells cells' : Option (List GV)} {k : Nat → List GV → Option Heap} (h : ∀ _ : Unit, sz = sz') (h' : ∀ _ : Unit, cells = cells') : stV sz cells k = stV sz' cells' k := by rw [h (), h' ()]
@[simp] theorem stV_some {size : Nat} {cells : List GV} {k : Nat → List GV → Option Heap} : stV (some size) (some cells) k = if cells.length ≠ size then none else k size cells := .trans rfl rfl
@[simp] theorem gstore_bptr {P : Program} {t : TypeId} {nm : Nm} {off : Nat} {v : GV} : gstore P t H (.bptr nm off) v = stV (tsize P t) (cellsO v) fun size cells => stBox size off (lowerCells H nm.1 cells) nm := by
  unfold gstore stV
  cases tsize P t with
  | none => rfl
  | some size =>
    cases cellsO v with
    | none => rfl
    | some cells => rfl
def stArr (size es top i off : Nat) (ps : List PV × Heap) (nm : Nm) : Option Heap := match ps.2.get nm with
  | some (.arr es' elems _ ro) => if es' = es ∧ ro = false ∧ top = elems.length ∧ i < top then
          (match elems[i]? with
          | some e => if off + size ≤ e.length then some (ps.2.set nm (.arr es' (elems.set i (splice e off ps.1)) elems.length false)) else none
          | none => none)
        else none
  | _ => none
@[simp] theorem gstore_eptr {P : Program} {t : TypeId} {nm : Nm} {es top i off : Nat} {v : GV} : gstore P t H (.eptr nm es top i off) v = stV (tsize P t) (cellsO v) fun size cells => stArr size es top i off (pureCells H cells) nm := by
  unfold gstore stV
  cases tsize P t with
  | none => rfl
  | some size =>
    cases cellsO v with
    | none => rfl
    | some cells => rfl
def stA (size es top i off : Nat) (ps : List PV) (H : Heap) (nm : Nm) (b : Option Blk) : Option Heap := match b with
  | some (.arr es' elems _ ro) => if es' = es ∧ ro = false ∧ top = elems.length ∧ i < top then
          (match elems[i]? with
          | some e => if off + size ≤ e.length then some (H.set nm (.arr es' (elems.set i (splice e off ps)) elems.length false)) else none
          | none => none)
        else none
  | _ => none
@[congr] theorem stA_cg {size es top i off : Nat} {ps : List PV} {nm : Nm} {b b' : Option Blk} (h : ∀ _ : Unit, b = b') : stA size es top i off ps H nm b = stA size es top i off ps H nm b' := by rw [h ()]
@[simp] theorem stA_arr {size es top i off es' vf : Nat} {ps : List PV} {nm : Nm} {elems : List (List PV)} {ro : Bool} : stA size es top i off ps H nm (some (.arr es' elems vf ro)) = if es' = es ∧ ro = false ∧ top = elems.length ∧ i < top then
          (match elems[i]? with
          | some e => if off + size ≤ e.length then some (H.set nm (.arr es' (elems.set i (splice e off ps)) elems.length false)) else none
          | none => none)
        else none := .trans rfl rfl
@[simp] theorem stArr_def {size es top i off : Nat} {ps : List PV} {nm : Nm} : stArr size es top i off (ps, H) nm = stA size es top i off ps H nm (H.get nm) := by
  unfold stArr stA; rfl
@[simp] theorem lowerCells_nil {l0 : Nat} : lowerCells H l0 [] = ([], H) := .trans rfl rfl
def lcC (l0 : Nat) (r : List GV) (x : GV × Heap) : List GV × Heap := (x.1 :: (lowerCells x.2 l0 r).1, (lowerCells x.2 l0 r).2)
@[congr] theorem lcC_cg {l0 : Nat} {r : List GV} {x y : GV × Heap} (h : ∀ _ : Unit, x = y) : lcC l0 r x = lcC l0 r y := by rw [h ()]
@[simp] theorem lcC_pair {l0 : Nat} {r : List GV} {g : GV} : lcC l0 r (g, H) = (g :: (lowerCells H l0 r).1, (lowerCells H l0 r).2) := .trans rfl rfl
@[simp] theorem lowerCells_cons {l0 : Nat} {g : GV} {r : List GV} : lowerCells H l0 (g :: r) = lcC l0 r (lowerCell H l0 g) := .trans rfl rfl
@[simp] theorem lowerCells_pures {l0 : Nat} : ∀ {ps : List PV}, lowerCells H l0 (ps.map .pure) = (ps.map .pure, H)
  | [] => rfl
  | p :: ps => by rw [List.map_cons, lowerCells_cons]; show lcC l0 _ (.pure p, H) = _; rw [lcC_pair, lowerCells_pures]
@[simp] theorem lowerCell_pure {l0 : Nat} {p : PV} : lowerCell H l0 (.pure p) = (.pure p, H) := .trans rfl rfl
@[simp] theorem lowerCell_nils {l0 : Nat} : lowerCell H l0 .nils = (.nils, H) := .trans rfl rfl
@[simp] theorem lowerCell_bptr {l0 : Nat} {nm : Nm} {o : Nat} : lowerCell H l0 (.bptr nm o) = (if nm.1 ≤ l0 then .bptr nm o else gdead, H) := .trans rfl rfl
@[simp] theorem lowerCell_map {l0 : Nat} {nm : Nm} : lowerCell H l0 (.map nm) = (if nm.1 ≤ l0 then .map nm else gdead, H) := .trans rfl rfl
@[simp] theorem lowerCell_func {l0 : Nat} {f : Nat} {a c : List GV} : lowerCell H l0 (.func f a c) = (if allLe l0 a && allLe l0 c then .func f a c else gdead, H) := .trans rfl rfl
@[simp] theorem lowerCell_hdr {l0 : Nat} {nm : Nm} {es top lo len : Nat} : lowerCell H l0 (.hdr nm es top lo len) = if nm.1 ≤ l0 then (.hdr nm es top lo len, H) else (.pure (pureCell H (.hdr nm es top lo len)).1, (pureCell H (.hdr nm es top lo len)).2) := .trans rfl rfl
@[simp] theorem pureCells_nil : pureCells H [] = ([], H) := .trans rfl rfl
def pcC (r : List GV) (x : PV × Heap) : List PV × Heap := (x.1 :: (pureCells x.2 r).1, (pureCells x.2 r).2)
@[congr] theorem pcC_cg {r : List GV} {x y : PV × Heap} (h : ∀ _ : Unit, x = y) : pcC r x = pcC r y := by rw [h ()]
@[simp] theorem pcC_pair {r : List GV} {g : PV} : pcC r (g, H) = (g :: (pureCells H r).1, (pureCells H r).2) := .trans rfl rfl
@[simp] theorem pureCells_cons {g : GV} {r : List GV} : pureCells H (g :: r) = pcC r (pureCell H g) := .trans rfl rfl
@[simp] theorem pureCell_pure {p : PV} : pureCell H (.pure p) = (p, H) := .trans rfl rfl
@[simp] theorem pureCell_nils : pureCell H .nils = (.slice [], H) := .trans rfl rfl
@[simp] theorem pureCells_pures : ∀ {ps : List PV}, pureCells H (ps.map .pure) = (ps, H)
  | [] => rfl
  | p :: ps => by rw [List.map_cons, pureCells_cons, pureCell_pure, pcC_pair, pureCells_pures]
def pcHdr (es top lo len : Nat) (H : Heap) (nm : Nm) (b : Option Blk) : PV × Heap := match b with
    | some (.arr es' elems vf _) => if es' = es ∧ vf ≤ top ∧ lo + len ≤ top ∧ top ≤ elems.length then (.slice ((elems.drop lo).take len), H.set nm (.arr es' elems vf true)) else (.dead, H)
    | _ => (.dead, H)
@[congr] theorem pcHdr_cg {es top lo len : Nat} {nm : Nm} {b b' : Option Blk} (h : ∀ _ : Unit, b = b') : pcHdr es top lo len H nm b = pcHdr es top lo len H nm b' := by rw [h ()]
@[simp] theorem pcHdr_arr {es top lo len es' vf : Nat} {nm : Nm} {elems : List (List PV)} {ro : Bool} : pcHdr es top lo len H nm (some (.arr es' elems vf ro)) =
    if es' = es ∧ vf ≤ top ∧ lo + len ≤ top ∧ top ≤ elems.length then (.slice ((elems.drop lo).take len), H.set nm (.arr es' elems vf true)) else (.dead, H) := .trans rfl rfl
@[simp] theorem pureCell_hdr {nm : Nm} {es top lo len : Nat} : pureCell H (.hdr nm es top lo len) = pcHdr es top lo len H nm (H.get nm) := by
  rw [pureCell_hdr_get]; unfold pcHdr
  cases H.get nm with
  | none => rfl
  | some b => cases b <;> rfl

/-! slices -/
/-- A slice's type: its element's size, bytes, zero cells' number. -/
@[simp] theorem gop_len {x : Operand} {t : TypeId} : gop K fn ⟨dst, .call ⟨.builtin .len, #[x], #[t]⟩, ty, pos, af, gu⟩ s H = rp H ((glen K t H (ev s x)).map (.int .i64)) := by
  show (match glen K t H (ev s x) with | some n => some (GV.pure (.int .i64 n), H) | none => none) = _
  cases glen K t H (ev s x) <;> rfl
def lenD (d : Option TypeDesc) (H : Heap) (x : GV) : Option Int :=
  match d, x with
  | some (.array n _), _ => some n
  | some (.slice _), .hdr _ _ _ _ len => some len
  | some (.slice _), .rhdr _ _ _ len => some len
  | some (.slice _), .nils => some 0
  | some (.slice _), .lits l => some l.length
  | some (.slice _), .pure (.slice l) => some l.length
  | some .string, .pure (.str l) => some l.length
  | some (.map _ _), .pure .nilm => some 0
  | some (.map _ _), .map nm => (match H.get nm with | some (.map es) => some es.length | _ => none)
  | _, _ => none
@[simp] theorem glen_def {t : TypeId} {x : GV} : glen K t H x = lenD (K.P.underlying t) H x := .trans rfl rfl
@[simp] theorem lenD_hdr {e : TypeId} {nm : Nm} {es top lo len : Nat} : lenD (some (.slice e)) H (.hdr nm es top lo len) = some (len : Int) := .trans rfl rfl
@[simp] theorem lenD_rhdr {e : TypeId} {nm : Nm} {es i len : Nat} : lenD (some (.slice e)) H (.rhdr nm es i len) = some (len : Int) := .trans rfl rfl
@[simp] theorem lenD_nils {e : TypeId} : lenD (some (.slice e)) H .nils = some 0 := .trans rfl rfl
@[simp] theorem lenD_lits {e : TypeId} {l : List (List GV)} : lenD (some (.slice e)) H (.lits l) = some (l.length : Int) := .trans rfl rfl
@[simp] theorem lenD_pure {e : TypeId} {l : List (List PV)} : lenD (some (.slice e)) H (.pure (.slice l)) = some (l.length : Int) := .trans rfl rfl
@[simp] theorem lenD_str {l : List UInt8} : lenD (some .string) H (.pure (.str l)) = some (l.length : Int) := .trans rfl rfl

/-! results, leaving -/
@[simp] theorem gop_extract {t : Operand} {i : Nat} : gop K fn ⟨dst, .extract t i, ty, pos, af, gu⟩ s H = rv H (match ev s t with | .tuple l => l[i]? | .pure (.tuple l) => (match l[i]? with | some v => some (.pure v) | none => none) | _ => none) := by
  simp only [gop]
  cases ev s t with
  | tuple l => simp only; cases l[i]? <;> rfl
  | pure p =>
    cases p with
    | tuple l => simp only; cases l[i]? <;> rfl
    | _ => rfl
  | _ => rfl
@[simp] theorem packG_one {r : GV} : packG [r] = r := .trans rfl rfl
@[simp] theorem packG_nil : packG [] = .pure (.tuple []) := .trans rfl rfl
@[simp] theorem packG_two {a b : GV} {l : List GV} : packG (a :: b :: l) = mkTuple (a :: b :: l) := .trans rfl rfl

/-! freezing at a call -/
@[simp] theorem frzVals_nil : frzVals H [] = ([], H) := .trans rfl rfl
theorem frzVals_self : ∀ {l : List GV}, (∀ g ∈ l, frzVal H g = (g, H)) → frzVals H l = (l, H)
  | [], _ => rfl
  | g :: l, h => by simp only [frzVals, h g (List.mem_cons_self ..), frzVals_self fun g hg => h g (List.mem_cons_of_mem _ hg)]
@[simp] theorem frzVal_pure {p : PV} : frzVal H (.pure p) = (.pure p, H) := .trans rfl rfl
@[simp] theorem frzVal_bptr {nm : Nm} {o : Nat} : frzVal H (.bptr nm o) = (.bptr nm o, H) := .trans rfl rfl
@[simp] theorem frzVal_map {nm : Nm} : frzVal H (.map nm) = (.map nm, H) := .trans rfl rfl
@[simp] theorem frzVal_func {f : Nat} {a c : List GV} : frzVal H (.func f a c) = (.func f a c, H) := .trans rfl rfl
@[simp] theorem frzVal_yield {nm : Nm} : frzVal H (.yield nm) = (.yield nm, H) := .trans rfl rfl
@[simp] theorem canon_pure {p : PV} : canon (.pure p) = .pure p := .trans rfl rfl
@[simp] theorem canon_bptr {nm : Nm} {o : Nat} : canon (.bptr nm o) = .bptr nm o := .trans rfl rfl
@[simp] theorem canon_map {nm : Nm} : canon (.map nm) = .map nm := .trans rfl rfl
@[simp] theorem canon_func {f : Nat} {a c : List GV} : canon (.func f a c) = .func f a c := .trans rfl rfl
@[simp] theorem canon_yield {nm : Nm} : canon (.yield nm) = .yield nm := .trans rfl rfl
@[simp] theorem canon_nils : canon .nils = .pure (.slice []) := .trans rfl rfl
@[simp] theorem canon_hdr {nm : Nm} {es top lo len : Nat} : canon (.hdr nm es top lo len) = .hdr nm es top lo len := .trans rfl rfl
@[simp] theorem canon_agg {l : List GV} : canon (.agg l) = mkAgg (l.map canon1) := .trans rfl rfl
@[simp] theorem canon1_pure {p : PV} : canon1 (.pure p) = .pure p := .trans rfl rfl
@[simp] theorem canon1_nils : canon1 .nils = .pure (.slice []) := .trans rfl rfl
@[simp] theorem canon1_hdr {nm : Nm} {es top lo len : Nat} : canon1 (.hdr nm es top lo len) = .hdr nm es top lo len := .trans rfl rfl
@[simp] theorem canon1_bptr {nm : Nm} {o : Nat} : canon1 (.bptr nm o) = .bptr nm o := .trans rfl rfl
@[simp] theorem canon1_func {f : Nat} {a c : List GV} : canon1 (.func f a c) = .func f a c := .trans rfl rfl
@[simp] theorem canon1_map {nm : Nm} : canon1 (.map nm) = .map nm := .trans rfl rfl
@[simp] theorem canon_tuple {l : List GV} : canon (.tuple l) = mkTuple (l.map fun g => match g with | .agg l => mkAgg (l.map canon1) | g => canon1 g) := .trans rfl rfl
@[simp] theorem clean_pure {l0 : Nat} {p : PV} : clean H l0 (.pure p) = .pure p := .trans rfl rfl
@[simp] theorem clean_nils {l0 : Nat} : clean H l0 .nils = .nils := .trans rfl rfl
@[simp] theorem clean_bptr {l0 : Nat} {nm : Nm} {o : Nat} : clean H l0 (.bptr nm o) = if nm.1 ≤ l0 then .bptr nm o else gdead := .trans rfl rfl
@[simp] theorem clean_map {l0 : Nat} {nm : Nm} : clean H l0 (.map nm) = if nm.1 ≤ l0 then .map nm else gdead := .trans rfl rfl
@[simp] theorem clean_yield {l0 : Nat} {nm : Nm} : clean H l0 (.yield nm) = if nm.1 ≤ l0 then .yield nm else gdead := .trans rfl rfl
@[simp] theorem clean_eptr {l0 : Nat} {nm : Nm} {es top i o : Nat} : clean H l0 (.eptr nm es top i o) = if nm.1 ≤ l0 then .eptr nm es top i o else gdead := .trans rfl rfl
@[simp] theorem clean_hdr {l0 : Nat} {nm : Nm} {es top lo len : Nat} : clean H l0 (.hdr nm es top lo len) = if nm.1 ≤ l0 then .hdr nm es top lo len else .pure (sliceOfM H nm es top lo len) := .trans rfl rfl
def capD (f : Nat) (a : List GV) (x : Option (List GV)) : GV := match x with | some c => .func f a c | none => gdead
@[congr] theorem capD_cg {f : Nat} {a : List GV} {x y : Option (List GV)} (h : ∀ _ : Unit, x = y) : capD f a x = capD f a y := by rw [h ()]
@[simp] theorem capD_some {f : Nat} {a c : List GV} : capD f a (some c) = .func f a c := .trans rfl rfl
@[simp] theorem clean_func {l0 : Nat} {f : Nat} {a c : List GV} : clean H l0 (.func f a c) = if allLe l0 a && allLe l0 c then .func f a c else if allLe l0 a then capD f a (capsP H l0 c) else gdead := .trans rfl rfl
@[simp] theorem clean1_func {l0 : Nat} {f : Nat} {a c : List GV} : clean1 H l0 (.func f a c) = if allLe l0 a && allLe l0 c then .func f a c else gdead := .trans rfl rfl
@[simp] theorem allLe_pptr {l0 : Nat} {cs : List PV} {r : List GV} : allLe l0 (.pptr cs :: r) = allLe l0 r := .trans rfl rfl
@[simp] theorem clean_pptr {l0 : Nat} {cs : List PV} : clean H l0 (.pptr cs) = .pptr cs := .trans rfl rfl
@[simp] theorem clean_agg {l0 : Nat} {l : List GV} : clean H l0 (.agg l) = mkAgg (l.map (clean1 H l0)) := .trans rfl rfl
@[simp] theorem clean_tuple {l0 : Nat} {l : List GV} : clean H l0 (.tuple l) = mkTuple (l.map (clean2 H l0)) := .trans rfl rfl
@[simp] theorem clean2_agg {l0 : Nat} {l : List GV} : clean2 H l0 (.agg l) = mkAgg (l.map (clean1 H l0)) := .trans rfl rfl
@[simp] theorem clean2_pure {l0 : Nat} {p : PV} : clean2 H l0 (.pure p) = .pure p := .trans rfl rfl
@[simp] theorem clean2_nils {l0 : Nat} : clean2 H l0 .nils = .nils := .trans rfl rfl
@[simp] theorem clean2_hdr {l0 : Nat} {nm : Nm} {es top lo len : Nat} : clean2 H l0 (.hdr nm es top lo len) = if nm.1 ≤ l0 then .hdr nm es top lo len else .pure (sliceOfM H nm es top lo len) := .trans rfl rfl
@[simp] theorem clean1_pure {l0 : Nat} {p : PV} : clean1 H l0 (.pure p) = .pure p := .trans rfl rfl
@[simp] theorem clean1_nilsE {l0 : Nat} : clean1 H l0 .nils = .nils := .trans rfl rfl
@[simp] theorem clean1_hdr {l0 : Nat} {nm : Nm} {es top lo len : Nat} : clean1 H l0 (.hdr nm es top lo len) = if nm.1 ≤ l0 then .hdr nm es top lo len else .pure (sliceOfM H nm es top lo len) := .trans rfl rfl
@[simp] theorem clean1_bptr {l0 : Nat} {nm : Nm} {o : Nat} : clean1 H l0 (.bptr nm o) = if nm.1 ≤ l0 then .bptr nm o else gdead := .trans rfl rfl
@[simp] theorem clean1_map {l0 : Nat} {nm : Nm} : clean1 H l0 (.map nm) = if nm.1 ≤ l0 then .map nm else gdead := .trans rfl rfl
def slD (es top lo len : Nat) (b : Option Blk) : PV := match b with
  | some (.arr es' elems vf _) => if es' = es ∧ vf ≤ top ∧ lo + len ≤ top ∧ top ≤ elems.length then .slice ((elems.drop lo).take len) else .dead
  | _ => .dead
@[simp] theorem slD_arr {es top lo len es' vf : Nat} {elems : List (List PV)} {ro : Bool} : slD es top lo len (some (.arr es' elems vf ro)) = if es' = es ∧ vf ≤ top ∧ lo + len ≤ top ∧ top ≤ elems.length then .slice ((elems.drop lo).take len) else .dead := .trans rfl rfl
@[simp] theorem sliceOf_def {nm : Nm} {es top lo len : Nat} : sliceOf H nm es top lo len = slD es top lo len (H.get nm) := by
  unfold sliceOf slD
  cases H.get nm with
  | none => rfl
  | some b => cases b <;> rfl
def slM (es top lo len : Nat) (b : Option Blk) : PV := match b with
  | some (.mat _ rows n) => if es = 1 ∧ lo + len ≤ top ∧ top ≤ n then .slice (((rows.drop lo).take len).map fun r => [.slice r]) else .dead
  | b => slD es top lo len b
@[simp] theorem slM_arr {es top lo len es' vf : Nat} {elems : List (List PV)} {ro : Bool} : slM es top lo len (some (.arr es' elems vf ro)) = if es' = es ∧ vf ≤ top ∧ lo + len ≤ top ∧ top ≤ elems.length then .slice ((elems.drop lo).take len) else .dead := .trans rfl rfl
@[simp] theorem slM_mat {es top lo len es' n : Nat} {rows : List (List (List PV))} : slM es top lo len (some (.mat es' rows n)) = if es = 1 ∧ lo + len ≤ top ∧ top ≤ n then .slice (((rows.drop lo).take len).map fun r => [.slice r]) else .dead := .trans rfl rfl
@[simp] theorem sliceOfM_def {nm : Nm} {es top lo len : Nat} : sliceOfM H nm es top lo len = slM es top lo len (H.get nm) := by
  unfold sliceOfM
  rw [sliceOf_def]
  unfold slM
  cases H.get nm with
  | none => rfl
  | some b => cases b <;> rfl
@[simp] theorem allLe_nil {l0 : Nat} : allLe l0 [] = true := .trans rfl rfl
@[simp] theorem allLe_pure {l0 : Nat} {p : PV} {r : List GV} : allLe l0 (.pure p :: r) = allLe l0 r := .trans rfl rfl
@[simp] theorem allLe_nils {l0 : Nat} {r : List GV} : allLe l0 (.nils :: r) = allLe l0 r := .trans rfl rfl
@[simp] theorem allLe_bptr {l0 : Nat} {nm : Nm} {o : Nat} {r : List GV} : allLe l0 (.bptr nm o :: r) = (decide (nm.1 ≤ l0) && allLe l0 r) := .trans rfl rfl
@[simp] theorem allLe_hdr {l0 : Nat} {nm : Nm} {es top lo len : Nat} {r : List GV} : allLe l0 (.hdr nm es top lo len :: r) = (decide (nm.1 ≤ l0) && allLe l0 r) := .trans rfl rfl
@[simp] theorem allLe_map {l0 : Nat} {nm : Nm} {r : List GV} : allLe l0 (.map nm :: r) = (decide (nm.1 ≤ l0) && allLe l0 r) := .trans rfl rfl
@[simp] theorem allLe_yield {l0 : Nat} {nm : Nm} {r : List GV} : allLe l0 (.yield nm :: r) = (decide (nm.1 ≤ l0) && allLe l0 r) := .trans rfl rfl
theorem gleave_free {f : Nat} {c : Nat} {r : GV} {fr : Fr} (h : K.keep f = false) : gleave K f c r (fr :: H) = some (canon (clean (fr :: H) (H.length - 1) r), H) := by
  unfold gleave; simp [h]
end
end Go.Gh
