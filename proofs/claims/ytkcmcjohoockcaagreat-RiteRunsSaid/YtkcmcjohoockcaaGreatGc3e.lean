/- Texts joined: the evaluator over ghost values, its soundness, the walks. -/
import Derived.Test.YtkcmcjohoockcaaGreatGc3d
import Derived.Test.YtkcmcjohoockcaaGreatProg
import Derived.KernelRfl
import Derived.IntWalk
namespace Go.Gh
open Go.Proofs
set_option linter.unusedVariables false
set_option linter.unusedSimpArgs false
set_option linter.unnecessarySimpa false
set_option maxRecDepth 100000
set_option maxHeartbeats 8000000
section
section
variable {K : Ctx} {fn : FuncId} {rec : Rec} {dst : Option Tmp} {ty : TypeId} {pos : String} {af : Array Edge} {gu : Option (Nat × Bool)} {s : Slots} {H : Heap}
@[simp] theorem gstep_move (x : Operand) : gstep K rec fn ⟨dst, .move x, ty, pos, af, gu⟩ s H = gop K fn ⟨dst, .move x, ty, pos, af, gu⟩ s H := .trans rfl rfl
@[simp] theorem gstep_assign (x : Operand) : gstep K rec fn ⟨dst, .assign x, ty, pos, af, gu⟩ s H = gop K fn ⟨dst, .assign x, ty, pos, af, gu⟩ s H := .trans rfl rfl
@[simp] theorem gstep_pick (c a b : Operand) : gstep K rec fn ⟨dst, .pick c a b, ty, pos, af, gu⟩ s H = gop K fn ⟨dst, .pick c a b, ty, pos, af, gu⟩ s H := .trans rfl rfl
@[simp] theorem gstep_alloc (t : TypeId) : gstep K rec fn ⟨dst, .alloc t, ty, pos, af, gu⟩ s H = gop K fn ⟨dst, .alloc t, ty, pos, af, gu⟩ s H := .trans rfl rfl
@[simp] theorem gstep_box (t : TypeId) (x : Operand) : gstep K rec fn ⟨dst, .box t x, ty, pos, af, gu⟩ s H = gop K fn ⟨dst, .box t x, ty, pos, af, gu⟩ s H := .trans rfl rfl
@[simp] theorem gstep_build (t : TypeId) (ps : Array (Nat × Operand)) : gstep K rec fn ⟨dst, .build t ps, ty, pos, af, gu⟩ s H = gop K fn ⟨dst, .build t ps, ty, pos, af, gu⟩ s H := .trans rfl rfl
@[simp] theorem gstep_buildSlice (t : TypeId) (n : Nat) (ps : Array (Nat × Operand)) : gstep K rec fn ⟨dst, .buildSlice t n ps, ty, pos, af, gu⟩ s H = gop K fn ⟨dst, .buildSlice t n ps, ty, pos, af, gu⟩ s H := .trans rfl rfl
@[simp] theorem gstep_load (t : TypeId) (a : Operand) : gstep K rec fn ⟨dst, .load t a, ty, pos, af, gu⟩ s H = gop K fn ⟨dst, .load t a, ty, pos, af, gu⟩ s H := .trans rfl rfl
@[simp] theorem gstep_store (t : TypeId) (a x : Operand) : gstep K rec fn ⟨dst, .store t a x, ty, pos, af, gu⟩ s H = gop K fn ⟨dst, .store t a x, ty, pos, af, gu⟩ s H := .trans rfl rfl
@[simp] theorem gstep_nilCheck (x : Operand) : gstep K rec fn ⟨dst, .nilCheck x, ty, pos, af, gu⟩ s H = gop K fn ⟨dst, .nilCheck x, ty, pos, af, gu⟩ s H := .trans rfl rfl
@[simp] theorem gstep_binOp (op : BinOp) (t : TypeId) (x y : Operand) (d : TypeId) : gstep K rec fn ⟨dst, .binOp op t x y d, ty, pos, af, gu⟩ s H = gop K fn ⟨dst, .binOp op t x y d, ty, pos, af, gu⟩ s H := .trans rfl rfl
@[simp] theorem gstep_unOp (op : UnOp) (t : TypeId) (x : Operand) : gstep K rec fn ⟨dst, .unOp op t x, ty, pos, af, gu⟩ s H = gop K fn ⟨dst, .unOp op t x, ty, pos, af, gu⟩ s H := .trans rfl rfl
@[simp] theorem gstep_convert (a b : TypeId) (x : Operand) : gstep K rec fn ⟨dst, .convert a b x, ty, pos, af, gu⟩ s H = gop K fn ⟨dst, .convert a b x, ty, pos, af, gu⟩ s H := .trans rfl rfl
@[simp] theorem gstep_makeFunc (f : Fn) (a c : Array Operand) : gstep K rec fn ⟨dst, .makeFunc f a c, ty, pos, af, gu⟩ s H = gop K fn ⟨dst, .makeFunc f a c, ty, pos, af, gu⟩ s H := .trans rfl rfl
@[simp] theorem gstep_makeMap (t : TypeId) (r : Option Operand) : gstep K rec fn ⟨dst, .makeMap t r, ty, pos, af, gu⟩ s H = gop K fn ⟨dst, .makeMap t r, ty, pos, af, gu⟩ s H := .trans rfl rfl
@[simp] theorem gstep_slice (t : TypeId) (x : Operand) (lo hi mx : Option Operand) : gstep K rec fn ⟨dst, .slice t x lo hi mx, ty, pos, af, gu⟩ s H = gop K fn ⟨dst, .slice t x lo hi mx, ty, pos, af, gu⟩ s H := .trans rfl rfl
@[simp] theorem gstep_fieldAddr (t : TypeId) (x : Operand) (f : Nat) : gstep K rec fn ⟨dst, .fieldAddr t x f, ty, pos, af, gu⟩ s H = gop K fn ⟨dst, .fieldAddr t x f, ty, pos, af, gu⟩ s H := .trans rfl rfl
@[simp] theorem gstep_indexAddr (t : TypeId) (x i : Operand) : gstep K rec fn ⟨dst, .indexAddr t x i, ty, pos, af, gu⟩ s H = gop K fn ⟨dst, .indexAddr t x i, ty, pos, af, gu⟩ s H := .trans rfl rfl
@[simp] theorem gstep_lookup (t : TypeId) (x k : Operand) (ok : Bool) : gstep K rec fn ⟨dst, .lookup t x k ok, ty, pos, af, gu⟩ s H = gop K fn ⟨dst, .lookup t x k ok, ty, pos, af, gu⟩ s H := .trans rfl rfl
@[simp] theorem gstep_mapUpdate (t : TypeId) (m k v : Operand) : gstep K rec fn ⟨dst, .mapUpdate t m k v, ty, pos, af, gu⟩ s H = gop K fn ⟨dst, .mapUpdate t m k v, ty, pos, af, gu⟩ s H := .trans rfl rfl
@[simp] theorem gstep_extract (t : Operand) (i : Nat) : gstep K rec fn ⟨dst, .extract t i, ty, pos, af, gu⟩ s H = gop K fn ⟨dst, .extract t i, ty, pos, af, gu⟩ s H := .trans rfl rfl
@[simp] theorem gstep_builtin (b : Builtin) (args : Array Operand) (ats : Array TypeId) : gstep K rec fn ⟨dst, .call ⟨.builtin b, args, ats⟩, ty, pos, af, gu⟩ s H = gop K fn ⟨dst, .call ⟨.builtin b, args, ats⟩, ty, pos, af, gu⟩ s H := .trans rfl rfl
@[simp] theorem opPure_move (x : Operand) : opPure K fn ⟨dst, .move x, ty, pos, af, gu⟩ = true := .trans rfl rfl
@[simp] theorem opPure_assign (x : Operand) : opPure K fn ⟨dst, .assign x, ty, pos, af, gu⟩ = true := .trans rfl rfl
@[simp] theorem opPure_pick (c a b : Operand) : opPure K fn ⟨dst, .pick c a b, ty, pos, af, gu⟩ = true := .trans rfl rfl
@[simp] theorem opPure_alloc (t : TypeId) : opPure K fn ⟨dst, .alloc t, ty, pos, af, gu⟩ = false := .trans rfl rfl
@[simp] theorem opPure_build (t : TypeId) (ps : Array (Nat × Operand)) : opPure K fn ⟨dst, .build t ps, ty, pos, af, gu⟩ = true := .trans rfl rfl
@[simp] theorem opPure_load (t : TypeId) (a : Operand) : opPure K fn ⟨dst, .load t a, ty, pos, af, gu⟩ = true := .trans rfl rfl
@[simp] theorem opPure_store (t : TypeId) (a x : Operand) : opPure K fn ⟨dst, .store t a x, ty, pos, af, gu⟩ = false := .trans rfl rfl
@[simp] theorem opPure_nilCheck (x : Operand) : opPure K fn ⟨dst, .nilCheck x, ty, pos, af, gu⟩ = true := .trans rfl rfl
@[simp] theorem opPure_binOp (op : BinOp) (t : TypeId) (x y : Operand) (d : TypeId) : opPure K fn ⟨dst, .binOp op t x y d, ty, pos, af, gu⟩ = true := .trans rfl rfl
@[simp] theorem opPure_unOp (op : UnOp) (t : TypeId) (x : Operand) : opPure K fn ⟨dst, .unOp op t x, ty, pos, af, gu⟩ = true := .trans rfl rfl
@[simp] theorem opPure_convert (a b : TypeId) (x : Operand) : opPure K fn ⟨dst, .convert a b x, ty, pos, af, gu⟩ = true := .trans rfl rfl
@[simp] theorem opPure_slice (t : TypeId) (x : Operand) (lo hi mx : Option Operand) : opPure K fn ⟨dst, .slice t x lo hi mx, ty, pos, af, gu⟩ = true := .trans rfl rfl
@[simp] theorem opPure_fieldAddr (t : TypeId) (x : Operand) (f : Nat) : opPure K fn ⟨dst, .fieldAddr t x f, ty, pos, af, gu⟩ = true := .trans rfl rfl
@[simp] theorem opPure_field (t : TypeId) (x : Operand) (f : Nat) : opPure K fn ⟨dst, .field t x f, ty, pos, af, gu⟩ = true := .trans rfl rfl
@[simp] theorem opPure_indexAddr (t : TypeId) (x i : Operand) : opPure K fn ⟨dst, .indexAddr t x i, ty, pos, af, gu⟩ = true := .trans rfl rfl
@[simp] theorem opPure_extract (t : Operand) (i : Nat) : opPure K fn ⟨dst, .extract t i, ty, pos, af, gu⟩ = true := .trans rfl rfl
@[simp] theorem opPure_buildSlice (t : TypeId) (n : Nat) (ps : Array (Nat × Operand)) : opPure K fn ⟨dst, .buildSlice t n ps, ty, pos, af, gu⟩ = (match dst with | some d => !K.own fn d | none => true) := .trans rfl rfl
@[simp] theorem opPure_len (args : Array Operand) (ats : Array TypeId) : opPure K fn ⟨dst, .call ⟨.builtin .len, args, ats⟩, ty, pos, af, gu⟩ = true := .trans rfl rfl
@[simp] theorem opPure_append (args : Array Operand) (ats : Array TypeId) : opPure K fn ⟨dst, .call ⟨.builtin .append, args, ats⟩, ty, pos, af, gu⟩ = false := .trans rfl rfl
@[simp] theorem opPure_call (f : Operand) (args : Array Operand) (ats : Array TypeId) : opPure K fn ⟨dst, .call ⟨.value f, args, ats⟩, ty, pos, af, gu⟩ = false := .trans rfl rfl
@[simp] theorem isAlloc_store (t : TypeId) (a x : Operand) : isAlloc ⟨dst, .store t a x, ty, pos, af, gu⟩ = false := by cases dst <;> rfl
@[simp] theorem isAlloc_call (c : Call) : isAlloc ⟨dst, .call c, ty, pos, af, gu⟩ = false := by cases dst <;> rfl
@[simp] theorem isAlloc_alloc {d : Nat} (t : TypeId) : isAlloc ⟨some d, .alloc t, ty, pos, af, none⟩ = true := .trans rfl rfl
def rv (H : Heap) (x : Option GV) : Option (GV × Heap) := match x with | some v => some (v, H) | none => none
@[congr] theorem rv_cg {x y : Option GV} (h : ∀ _ : Unit, x = y) : rv H x = rv H y := by rw [h ()]
@[simp] theorem rv_some {v : GV} : rv H (some v) = some (v, H) := .trans rfl rfl
def rp (H : Heap) (x : Option PV) : Option (GV × Heap) := match x with | some v => some (.pure v, H) | none => none
@[congr] theorem rp_cg {x y : Option PV} (h : ∀ _ : Unit, x = y) : rp H x = rp H y := by rw [h ()]
@[simp] theorem rp_some {v : PV} : rp H (some v) = some (.pure v, H) := .trans rfl rfl
def rh (x : Option Heap) : Option (GV × Heap) := match x with | some H => some (gdead, H) | none => none
@[simp] theorem rh_some : rh (some H) = some (gdead, H) := .trans rfl rfl
def rn (x : Option (Nm × Heap)) (g : Nm → GV) : Option (GV × Heap) := match x with | some (nm, H) => some (g nm, H) | none => none
@[simp] theorem rn_some {nm : Nm} {g : Nm → GV} : rn (some (nm, H)) g = some (g nm, H) := .trans rfl rfl
@[simp] theorem gop_move {x : Operand} : gop K fn ⟨dst, .move x, ty, pos, af, gu⟩ s H = rv H (some (ev s x)) := .trans rfl rfl
@[simp] theorem gop_assign {x : Operand} : gop K fn ⟨dst, .assign x, ty, pos, af, gu⟩ s H = rv H (some (ev s x)) := .trans rfl rfl
def pickV (c a b : GV) : Option GV := match c with | .pure (.bool t) => some (if t then a else b) | _ => none
@[simp] theorem pickV_bool {t : Bool} {a b : GV} : pickV (.pure (.bool t)) a b = some (if t = true then a else b) := .trans rfl rfl
@[simp] theorem gop_pick {c a b : Operand} : gop K fn ⟨dst, .pick c a b, ty, pos, af, gu⟩ s H = rv H (pickV (ev s c) (ev s a) (ev s b)) := by
 simp only [gop]; unfold pickV; generalize ev s c = g; cases g with
 | pure p => cases p <;> rfl
 | _ => rfl
def newBox (H : Heap) (d : Nat) (x : Option (List GV)) : Option (GV × Heap) := match x with | some cs => rn (gnew H d (.box cs)) (fun nm => .bptr nm 0) | none => none
@[simp] theorem newBox_some {d : Nat} {cs : List GV} : newBox H d (some cs) = rn (gnew H d (.box cs)) (fun nm => .bptr nm 0) := .trans rfl rfl
def cellsO' (x : Option GV) : Option (List GV) := match x with | some z => cellsO z | none => none
@[simp] theorem cellsO'_some {z : GV} : cellsO' (some z) = cellsO z := .trans rfl rfl
@[simp] theorem gop_alloc {d : Nat} {t : TypeId} : gop K fn ⟨some d, .alloc t, ty, pos, af, gu⟩ s H = newBox H d (cellsO' (tzero K.P t)) := by
  simp only [gop]
  cases h : tzero K.P t with
  | none => rfl
  | some z =>
    simp only [cellsO'_some, newBox]
    cases cellsO z with
    | none => rfl
    | some cs =>
      simp only
      cases gnew H d (.box cs) with
      | none => rfl
      | some x => rfl
@[simp] theorem gop_box {d : Nat} {t : TypeId} {x : Operand} : gop K fn ⟨some d, .box t x, ty, pos, af, gu⟩ s H = newBox H d (cellsO (ev s x)) := by
  simp only [gop, newBox]
  cases cellsO (ev s x) with
  | none => rfl
  | some cs =>
    simp only
    cases gnew H d (.box cs) with
    | none => rfl
    | some x => rfl
@[simp] theorem gnew_cons {fr : Fr} {d : Nat} {b : Blk} : gnew (fr :: H) d b = if (fr.get d).isSome then none else some ((H.length, d), fr.ins d b :: H) := by
 unfold gnew gnewAt
 simp only [List.length_cons, Nat.add_sub_cancel]
 rw [if_neg (by omega)]
 simp only [Heap.get, Heap.set, if_true]
 cases fr.get d <;> simp
@[simp] theorem Fr.get_nil {q : Nat} : Fr.get [] q = none := .trans rfl rfl
@[simp] theorem Fr.get_cons {k q : Nat} {b : Blk} {r : Fr} : Fr.get ((k, b) :: r) q = if q = k then some b else Fr.get r q := .trans rfl rfl
@[simp] theorem Fr.ins_nil {q : Nat} {x : Blk} : Fr.ins q x [] = [(q, x)] := .trans rfl rfl
@[simp] theorem Fr.ins_cons {k q : Nat} {x b : Blk} {r : Fr} : Fr.ins q x ((k, b) :: r) = if q = k then (q, x) :: r else if q < k then (q, x) :: (k, b) :: r else (k, b) :: Fr.ins q x r := .trans rfl rfl
@[simp] theorem Heap.get_cons' {fr : Fr} {nm : Nm} : Heap.get (fr :: H) nm = if nm.1 = H.length then fr.get nm.2 else Heap.get H nm := .trans rfl rfl
@[simp] theorem Heap.set_cons' {fr : Fr} {nm : Nm} {b : Blk} : Heap.set (fr :: H) nm b = if nm.1 = H.length then fr.ins nm.2 b :: H else fr :: Heap.set H nm b := .trans rfl rfl
@[simp] theorem cellsO_agg {l : List GV} : cellsO (.agg l) = some l := .trans rfl rfl
@[simp] theorem cellsO_pagg {l : List PV} : cellsO (.pure (.agg l)) = some (l.map .pure) := .trans rfl rfl
@[simp] theorem cellsO_int {k : IntKind} {n : Int} : cellsO (.pure (.int k n)) = some [.pure (.int k n)] := .trans rfl rfl
@[simp] theorem cellsO_bool {b : Bool} : cellsO (.pure (.bool b)) = some [.pure (.bool b)] := .trans rfl rfl
@[simp] theorem cellsO_slice {l : List (List PV)} : cellsO (.pure (.slice l)) = some [.pure (.slice l)] := .trans rfl rfl
@[simp] theorem cellsO_fn {f : Nat} : cellsO (.pure (.fn f)) = some [.pure (.fn f)] := .trans rfl rfl
@[simp] theorem cellsO_nils : cellsO .nils = some [.nils] := .trans rfl rfl
@[simp] theorem cellsO_hdr {nm : Nm} {es top lo len : Nat} : cellsO (.hdr nm es top lo len) = some [.hdr nm es top lo len] := .trans rfl rfl
@[simp] theorem allPure_nil : allPure [] = some [] := .trans rfl rfl
@[simp] theorem allPure_pure {p : PV} {r : List GV} : allPure (.pure p :: r) = (allPure r).map (p :: ·) := by
 simp only [allPure]; cases allPure r <;> rfl
@[simp] theorem allPure_map' (l : List PV) : allPure (l.map .pure) = some l := allPure_map l
@[simp] theorem allPure_agg {l : List GV} {r : List GV} : allPure (.agg l :: r) = none := .trans rfl rfl
@[simp] theorem allPure_nils {r : List GV} : allPure (.nils :: r) = none := .trans rfl rfl
@[simp] theorem allPure_hdr {nm : Nm} {es top lo len : Nat} {r : List GV} : allPure (.hdr nm es top lo len :: r) = none := .trans rfl rfl
def mkA (x : Option (List PV)) (l : List GV) : GV := match x with | some ps => .pure (.agg ps) | none => .agg l
@[congr] theorem mkA_cg {x y : Option (List PV)} {l : List GV} (h : ∀ _ : Unit, x = y) : mkA x l = mkA y l := by rw [h ()]
@[simp] theorem mkA_some {ps : List PV} {l : List GV} : mkA (some ps) l = .pure (.agg ps) := .trans rfl rfl
@[simp] theorem mkA_none {l : List GV} : mkA none l = .agg l := .trans rfl rfl
@[simp] theorem mkAgg_def {l : List GV} : mkAgg l = mkA (allPure l) l := .trans rfl rfl
def mkT (x : Option (List PV)) (l : List GV) : GV := match x with | some ps => .pure (.tuple ps) | none => .tuple l
@[congr] theorem mkT_cg {x y : Option (List PV)} {l : List GV} (h : ∀ _ : Unit, x = y) : mkT x l = mkT y l := by rw [h ()]
@[simp] theorem mkT_some {ps : List PV} {l : List GV} : mkT (some ps) l = .pure (.tuple ps) := .trans rfl rfl
@[simp] theorem mkT_none {l : List GV} : mkT none l = .tuple l := .trans rfl rfl
@[simp] theorem mkTuple_def {l : List GV} : mkTuple l = mkT (allPure l) l := .trans rfl rfl
@[simp] theorem gop_load {t : TypeId} {a : Operand} : gop K fn ⟨dst, .load t a, ty, pos, af, gu⟩ s H = rv H (gload K.P t H (ev s a)) := .trans rfl rfl
@[simp] theorem gop_store {t : TypeId} {a x : Operand} : gop K fn ⟨dst, .store t a x, ty, pos, af, gu⟩ s H = rh (gstore K.P t H (ev s a) (ev s x)) := .trans rfl rfl
def ldBox (ag : Option Bool) (sz : Option Nat) (off : Nat) (b : Option Blk) : Option GV :=
 match ag, sz, b with
 | some true, some size, some (.box cs) => if off + size ≤ cs.length then some (mkAgg ((cs.drop off).take size)) else none
 | some false, some _, some (.box cs) => cs[off]?
 | _, _, _ => none
@[simp] theorem ldBox_agg {sz off : Nat} {cs : List GV} : ldBox (some true) (some sz) off (some (.box cs)) = if off + sz ≤ cs.length then some (mkAgg ((cs.drop off).take sz)) else none := .trans rfl rfl
@[simp] theorem ldBox_one {sz off : Nat} {cs : List GV} : ldBox (some false) (some sz) off (some (.box cs)) = cs[off]? := .trans rfl rfl
@[simp] theorem gload_bptr {P : Program} {t : TypeId} {nm : Nm} {off : Nat} : gload P t H (.bptr nm off) = ldBox (tagg P t) (tsize P t) off (H.get nm) := by
 unfold gload ldBox; generalize tagg P t = x; generalize tsize P t = y; simp only; generalize Heap.get H nm = z
 rcases x with _ | ag <;> rcases y with _ | sz <;> rcases z with _ | b <;> try rfl
 all_goals (cases ag <;> try rfl)
 all_goals (cases b <;> rfl)
def ldP (ag : Option Bool) (sz : Option Nat) (cs : List PV) : Option GV :=
 match ag, sz with
 | some true, some size => if size ≤ cs.length then some (.pure (.agg (cs.take size))) else none
 | some false, some _ => (match cs[0]? with | some p => some (.pure p) | none => none)
 | _, _ => none
@[simp] theorem ldP_agg {sz : Nat} {cs : List PV} : ldP (some true) (some sz) cs = if sz ≤ cs.length then some (.pure (.agg (cs.take sz))) else none := .trans rfl rfl
@[simp] theorem ldP_one {sz : Nat} {p : PV} {cs : List PV} : ldP (some false) (some sz) (p :: cs) = some (.pure p) := .trans rfl rfl
@[simp] theorem gload_pptr {P : Program} {t : TypeId} {cs : List PV} : gload P t H (.pptr cs) = ldP (tagg P t) (tsize P t) cs := by
 unfold gload ldP; generalize tagg P t = x; generalize tsize P t = y
 rcases x with _ | ag <;> rcases y with _ | sz <;> try rfl
 all_goals (cases ag <;> rfl)
def ldL (ag : Option Bool) (sz : Option Nat) (cs : List GV) : Option GV :=
 match ag, sz with
 | some true, some size => if size ≤ cs.length then some (mkAgg (cs.take size)) else none
 | some false, some _ => cs[0]?
 | _, _ => none
@[simp] theorem ldL_agg {sz : Nat} {cs : List GV} : ldL (some true) (some sz) cs = if sz ≤ cs.length then some (mkAgg (cs.take sz)) else none := .trans rfl rfl
@[simp] theorem gload_lptr {P : Program} {t : TypeId} {cs : List GV} : gload P t H (.lptr cs) = ldL (tagg P t) (tsize P t) cs := by
 unfold gload ldL; generalize tagg P t = x; generalize tsize P t = y
 rcases x with _ | ag <;> rcases y with _ | sz <;> try rfl
 all_goals (cases ag <;> rfl)
def ldE (ag : Option Bool) (sz : Option Nat) (es top i off : Nat) (b : Option Blk) : Option GV :=
  match ag, sz, b with
  | some ag, some size, some (.arr es' elems vf _) => if es' = es ∧ vf ≤ top ∧ i < top ∧ top ≤ elems.length then
        (match elems[i]? with
        | some e => if ag then (if off + size ≤ e.length then some (.pure (.agg ((e.drop off).take size))) else none) else (match e[off]? with | some p => some (.pure p) | none => none)
        | none => none)
      else none
  | _, _, _ => none
@[simp] theorem gload_eptr {P : Program} {t : TypeId} {nm : Nm} {es top i off : Nat} : gload P t H (.eptr nm es top i off) = ldE (tagg P t) (tsize P t) es top i off (H.get nm) := by
 unfold gload ldE; generalize tagg P t = x; generalize tsize P t = y; simp only; generalize Heap.get H nm = z
 rcases x with _ | ag <;> rcases y with _ | sz <;> rcases z with _ | b <;> try rfl
 all_goals (cases b <;> rfl)
@[simp] theorem ldE_agg {sz es top i off es' vf : Nat} {elems : List (List PV)} {ro : Bool} : ldE (some true) (some sz) es top i off (some (.arr es' elems vf ro)) = if es' = es ∧ vf ≤ top ∧ i < top ∧ top ≤ elems.length then
        (match elems[i]? with
        | some e => if off + sz ≤ e.length then some (.pure (.agg ((e.drop off).take sz))) else none
        | none => none)
      else none := .trans rfl rfl
@[simp] theorem ldE_one {sz es top i off es' vf : Nat} {elems : List (List PV)} {ro : Bool} : ldE (some false) (some sz) es top i off (some (.arr es' elems vf ro)) = if es' = es ∧ vf ≤ top ∧ i < top ∧ top ≤ elems.length then
        (match elems[i]? with
        | some e => (match e[off]? with | some p => some (.pure p) | none => none)
        | none => none)
      else none := by
  simp only [ldE]
  split <;> simp
def band (k : IntKind) (a b : Int) : Int := k.wrap (BitVec.ofInt k.bits a &&& BitVec.ofInt k.bits b).toNat
def bor (k : IntKind) (a b : Int) : Int := k.wrap (BitVec.ofInt k.bits a ||| BitVec.ofInt k.bits b).toNat
def bxor (k : IntKind) (a b : Int) : Int := k.wrap (BitVec.ofInt k.bits a ^^^ BitVec.ofInt k.bits b).toNat
@[simp] theorem isNilC_tmp {t : Nat} : isNilC (.tmp t) = false := .trans rfl rfl
@[simp] theorem isNilC_int {k : IntKind} {n : Int} : isNilC (.const (.int k n)) = false := .trans rfl rfl
@[simp] theorem isNilC_nil : isNilC (.const (.slice none 0 0)) = true := .trans rfl rfl
theorem gop_binOp0 {op : BinOp} {t d : TypeId} {x y : Operand} : gop K fn ⟨dst, .binOp op t x y d, ty, pos, af, gu⟩ s H = rp H (gbinN K op t s x y) := .trans rfl rfl
@[simp] theorem gop_binOp {op : BinOp} {t d : TypeId} {x y : Operand} : gop K fn ⟨dst, .binOp op t x y d, ty, pos, af, gu⟩ s H = rp H (if isNilC y = true then gnilEq K op t (ev s x) else gbin K op t (ev s x) (ev s y)) := by
 rw [gop_binOp0]; rfl
section
variable {t : TypeId} {k : IntKind} {a b : Int}
@[simp] theorem gbin_add : gbin K .add t (.pure (.int k a)) (.pure (.int k b)) = some (.int k (k.wrap (a + b))) := by simp [gbin, gint]
@[simp] theorem gbin_sub : gbin K .sub t (.pure (.int k a)) (.pure (.int k b)) = some (.int k (k.wrap (a - b))) := by simp [gbin, gint]
@[simp] theorem gbin_mul : gbin K .mul t (.pure (.int k a)) (.pure (.int k b)) = some (.int k (k.wrap (a * b))) := by simp [gbin, gint]
@[simp] theorem gbin_quo : gbin K .quo t (.pure (.int k a)) (.pure (.int k b)) = if b = 0 then none else some (.int k (k.wrap (a.tdiv b))) := by simp [gbin, gint]
@[simp] theorem gbin_rem : gbin K .rem t (.pure (.int k a)) (.pure (.int k b)) = if b = 0 then none else some (.int k (a.tmod b)) := by simp [gbin, gint]
@[simp] theorem gbin_and : gbin K .and t (.pure (.int k a)) (.pure (.int k b)) = some (.int k (band k a b)) := by simp [gbin, gint, band]
@[simp] theorem gbin_or : gbin K .or t (.pure (.int k a)) (.pure (.int k b)) = some (.int k (bor k a b)) := by simp [gbin, gint, bor]
@[simp] theorem gbin_xor : gbin K .xor t (.pure (.int k a)) (.pure (.int k b)) = some (.int k (bxor k a b)) := by simp [gbin, gint, bxor]
@[simp] theorem gbin_eql : gbin K .eql t (.pure (.int k a)) (.pure (.int k b)) = some (.bool (a == b)) := by simp [gbin, gint]
@[simp] theorem gbin_neq : gbin K .neq t (.pure (.int k a)) (.pure (.int k b)) = some (.bool (a != b)) := by simp [gbin, gint]
@[simp] theorem gbin_lss : gbin K .lss t (.pure (.int k a)) (.pure (.int k b)) = some (.bool (decide (a < b))) := by simp [gbin, gint]
@[simp] theorem gbin_leq : gbin K .leq t (.pure (.int k a)) (.pure (.int k b)) = some (.bool (decide (a ≤ b))) := by simp [gbin, gint]
@[simp] theorem gbin_gtr : gbin K .gtr t (.pure (.int k a)) (.pure (.int k b)) = some (.bool (decide (b < a))) := by simp [gbin, gint]
@[simp] theorem gbin_geq : gbin K .geq t (.pure (.int k a)) (.pure (.int k b)) = some (.bool (decide (b ≤ a))) := by simp [gbin, gint]
@[simp] theorem gbin_shr {k' : IntKind} : gbin K .shr t (.pure (.int k a)) (.pure (.int k' b)) = if b < 0 then none else some (.int k (a.fdiv (2 ^ (min b.toNat k.bits)))) := by simp [gbin, gshift]
end
@[simp] theorem gbin_beql {t : TypeId} {a b : Bool} : gbin K .eql t (.pure (.bool a)) (.pure (.bool b)) = (match K.P.underlying t with | some .bool => some (.bool (a == b)) | _ => none) := by
 simp only [gbin]; cases K.P.underlying t with
 | none => rfl
 | some x => cases x <;> rfl
def eqA (neg : Bool) (ks : Option (List SK)) (a b : List PV) : Option PV := match ks with | some ks => (match eqRow ks a b with | some q => some (.bool (if neg then !q else q)) | none => none) | none => none
@[simp] theorem gbin_aneq {t : TypeId} {a b : List PV} : gbin K .neq t (.pure (.agg a)) (.pure (.agg b)) = eqA true (K.eqs t) a b := by
 simp only [gbin, eqA]; cases K.eqs t with
 | none => rfl
 | some ks => simp only; cases eqRow ks a b <;> rfl
@[simp] theorem eqA_some {neg : Bool} {ks : List SK} {a b : List PV} : eqA neg (some ks) a b = (eqRow ks a b).map (fun q => .bool (if neg then !q else q)) := by
 simp only [eqA]; cases eqRow ks a b <;> rfl
@[simp] theorem eqRow_nil : eqRow [] [] [] = some true := .trans rfl rfl
@[simp] theorem eqRow_int {k : IntKind} {ks : List SK} {x y : Int} {a b : List PV} : eqRow (.int k :: ks) (.int k x :: a) (.int k y :: b) = (eqRow ks a b).map (x == y && ·) := by
 simp only [eqRow, and_self, if_true]; cases eqRow ks a b <;> rfl
@[simp] theorem eqRow_bool {ks : List SK} {x y : Bool} {a b : List PV} : eqRow (.bool :: ks) (.bool x :: a) (.bool y :: b) = (eqRow ks a b).map (x == y && ·) := by
 simp only [eqRow]; cases eqRow ks a b <;> rfl
def unV (op : UnOp) (x : GV) : Option GV := match op, x with
 | .not, .pure (.bool b) => some (.pure (.bool (!b)))
 | .neg, .pure (.int k n) => some (.pure (.int k (k.wrap (-n))))
 | _, _ => none
@[simp] theorem unV_not {b : Bool} : unV .not (.pure (.bool b)) = some (.pure (.bool (!b))) := .trans rfl rfl
@[simp] theorem gop_unOp {op : UnOp} {t : TypeId} {x : Operand} : gop K fn ⟨dst, .unOp op t x, ty, pos, af, gu⟩ s H = rv H (unV op (ev s x)) := by
 simp only [gop]; unfold unV; generalize ev s x = g; cases op <;> cases g <;> try rfl
 all_goals (rename_i p; cases p <;> rfl)
def cvV (a b : Option TypeDesc) (x : GV) : Option GV := match a, b, x with
 | some _, some (.int k), .pure (.int _ n) => some (.pure (.int k (k.wrap n)))
 | some _, some .string, .pure (.str l) => some (.pure (.str l))
 | _, _, _ => none
@[simp] theorem cvV_int {d : TypeDesc} {k k' : IntKind} {n : Int} : cvV (some d) (some (.int k)) (.pure (.int k' n)) = some (.pure (.int k (k.wrap n))) := .trans rfl rfl
@[simp] theorem gop_convert {a b : TypeId} {x : Operand} : gop K fn ⟨dst, .convert a b x, ty, pos, af, gu⟩ s H = rv H (cvV (K.P.underlying a) (K.P.underlying b) (ev s x)) := by
 simp only [gop]; unfold cvV; generalize ev s x = g; generalize K.P.underlying a = x1; generalize K.P.underlying b = x2
 rcases x1 with _ | d1 <;> rcases x2 with _ | d2 <;> try rfl
 cases d2 <;> cases g <;> try rfl
 all_goals (rename_i p; cases p <;> rfl)
def ncV (x : GV) : Option GV := match x with
 | .bptr nm off => some (.bptr nm off)
 | .eptr nm es top i off => some (.eptr nm es top i off)
 | .pptr cs => some (.pptr cs)
 | .lptr cs => some (.lptr cs)
 | .func f first cap => some (.func f first cap)
 | .pure (.fn f) => some (.pure (.fn f))
 | .yield nm => some (.yield nm)
 | _ => none
@[simp] theorem ncV_bptr {nm : Nm} {o : Nat} : ncV (.bptr nm o) = some (.bptr nm o) := .trans rfl rfl
@[simp] theorem gop_nilCheck {x : Operand} : gop K fn ⟨dst, .nilCheck x, ty, pos, af, gu⟩ s H = rv H (ncV (ev s x)) := by
 simp only [gop]; unfold ncV; generalize ev s x = g; cases g <;> try rfl
 all_goals (rename_i p; cases p <;> rfl)
@[simp] theorem gmoved_bptr {q : Nat} {nm : Nm} {o : Nat} : gmoved q (.bptr nm o) = some (.bptr nm (o + q)) := .trans rfl rfl
@[simp] theorem gmoved_eptr {q : Nat} {nm : Nm} {es top i o : Nat} : gmoved q (.eptr nm es top i o) = some (.eptr nm es top i (o + q)) := .trans rfl rfl
@[simp] theorem gmoved_pptr {q : Nat} {cs : List PV} : gmoved q (.pptr cs) = if q ≤ cs.length then some (.pptr (cs.drop q)) else none := .trans rfl rfl
def faV (f : Option (Nat × Option Nat)) (x : GV) : Option GV := match f with | some (off, some size) => if size = 0 then none else gmoved off x | _ => none
@[simp] theorem faV_some {off size : Nat} {x : GV} : faV (some (off, some size)) x = if size = 0 then none else gmoved off x := .trans rfl rfl
def tfs (P : Program) (t : TypeId) (f : Nat) : Option (Nat × Option Nat) := (tfield P t f).map fun x => (x.1, tsize P x.2)
def tfa (P : Program) (t : TypeId) (f : Nat) : Option (Nat × Option Bool × Option Nat) := (tfield P t f).map fun x => (x.1, tagg P x.2, tsize P x.2)
@[simp] theorem gop_fieldAddr {t : TypeId} {x : Operand} {f : Nat} : gop K fn ⟨dst, .fieldAddr t x f, ty, pos, af, gu⟩ s H = rv H (faV (tfs K.P t f) (ev s x)) := by
  simp only [gop, faV, tfs]
  cases tfield K.P t f with
  | none => rfl
  | some p =>
    obtain ⟨off, ft⟩ := p
    simp only [Option.map_some]
    cases tsize K.P ft with
    | none => rfl
    | some size =>
      simp only
      split
      · rfl
      · cases gmoved off (ev s x) <;> rfl
def fdV (f : Option (Nat × Option Bool × Option Nat)) (x : GV) : Option GV := match f, x with
 | some (off, some ag, some size), .agg cs => if off + size ≤ cs.length then (if ag then some (mkAgg ((cs.drop off).take size)) else cs[off]?) else none
 | some (off, some ag, some size), .pure (.agg cs) => if off + size ≤ cs.length then (if ag then some (.pure (.agg ((cs.drop off).take size))) else (match cs[off]? with | some v => some (.pure v) | none => none)) else none
 | _, _ => none
@[simp] theorem fdV_agg {off size : Nat} {cs : List GV} : fdV (some (off, some true, some size)) (.agg cs) = if off + size ≤ cs.length then some (mkAgg ((cs.drop off).take size)) else none := by simp [fdV]
@[simp] theorem fdV_pone {off size : Nat} {cs : List PV} : fdV (some (off, some false, some size)) (.pure (.agg cs)) = if off + size ≤ cs.length then (match cs[off]? with | some v => some (.pure v) | none => none) else none := by simp [fdV]
@[simp] theorem gop_field {t : TypeId} {x : Operand} {f : Nat} : gop K fn ⟨dst, .field t x f, ty, pos, af, gu⟩ s H = rv H (fdV (tfa K.P t f) (ev s x)) := by
  simp only [gop, tfa]
  cases tfield K.P t f with
  | none => rfl
  | some p =>
    obtain ⟨off, ft⟩ := p
    simp only [Option.map_some]
    unfold fdV
    cases tagg K.P ft with
    | none => rfl
    | some ag =>
      cases tsize K.P ft with
      | none => rfl
      | some size =>
        cases ev s x with
        | pure p =>
          cases p with
          | agg cs =>
            simp only
            split
            · cases ag
              · simp only [Bool.false_eq_true, if_false]; cases cs[off]? <;> rfl
              · rfl
            · rfl
          | _ => rfl
        | agg cs =>
          simp only
          split
          · cases ag
            · simp only [Bool.false_eq_true, if_false]; cases cs[off]? <;> rfl
            · rfl
          · rfl
        | _ => rfl
def tarrS (P : Program) (t : TypeId) : Option (Nat × Option Nat × Option Bool) := (tarr P t).map fun x => (x.1, tsize P x.2, tagg P x.2)
def telemS (P : Program) (t : TypeId) : Option (Option Nat) := (telem P t).map fun e => tsize P e
def iaS (es : Option (Option Nat)) (x : GV) (i : Int) : Option GV := match es with
  | some (some size) => (match x with
          | .hdr nm es top lo len => if es = size ∧ i < len then some (.eptr nm es top (lo + i.toNat) 0) else none
          | .pure (.slice l) => (match l[i.toNat]? with | some cs => if cs.length = size then some (.pptr cs) else none | none => none)
          | .lits l => (match l[i.toNat]? with | some cs => if cs.length = size then some (.lptr cs) else none | none => none)
          | _ => none)
  | _ => none
def iaV (ar : Option (Nat × Option Nat × Option Bool)) (es : Option (Option Nat)) (x i : GV) : Option GV := match i with
  | .pure (.int _ i) => if i < 0 then none else
    (match ar with
    | some (n, some size, _) => if (n : Int) ≤ i then none else gmoved (i.toNat * size) x
    | some (_, none, _) => none
    | none => iaS es x i)
  | _ => none
@[simp] theorem iaV_arr {n size : Nat} {ag : Option Bool} {es : Option (Option Nat)} {x : GV} {k : IntKind} {i : Int} : iaV (some (n, some size, ag)) es x (.pure (.int k i)) = if i < 0 then none else if (n : Int) ≤ i then none else gmoved (i.toNat * size) x := .trans rfl rfl
@[simp] theorem iaV_slice {es : Option (Option Nat)} {x : GV} {k : IntKind} {i : Int} : iaV none es x (.pure (.int k i)) = if i < 0 then none else iaS es x i := .trans rfl rfl
@[simp] theorem iaS_hdr {size : Nat} {nm : Nm} {es top lo len : Nat} {i : Int} : iaS (some (some size)) (.hdr nm es top lo len) i = if es = size ∧ i < len then some (.eptr nm es top (lo + i.toNat) 0) else none := .trans rfl rfl
@[simp] theorem iaS_pure {size : Nat} {l : List (List PV)} {i : Int} : iaS (some (some size)) (.pure (.slice l)) i = (match l[i.toNat]? with | some cs => if cs.length = size then some (.pptr cs) else none | none => none) := .trans rfl rfl
@[simp] theorem iaS_lits {size : Nat} {l : List (List GV)} {i : Int} : iaS (some (some size)) (.lits l) i = (match l[i.toNat]? with | some cs => if cs.length = size then some (.lptr cs) else none | none => none) := .trans rfl rfl
@[simp] theorem gop_indexAddr {t : TypeId} {x i : Operand} : gop K fn ⟨dst, .indexAddr t x i, ty, pos, af, gu⟩ s H = rv H (iaV (tarrS K.P t) (telemS K.P t) (ev s x) (ev s i)) := by
  have h : gindexAddr K t (ev s x) (ev s i) = iaV (tarrS K.P t) (telemS K.P t) (ev s x) (ev s i) := by
    unfold gindexAddr iaV tarrS telemS
    generalize ev s i = g
    generalize ev s x = gx
    cases g with
    | pure p =>
      cases p with
      | int k n =>
        simp only
        split
        · rfl
        · cases tarr K.P t with
          | some p =>
            obtain ⟨n, e⟩ := p
            simp only [Option.map_some]
            cases tsize K.P e <;> rfl
          | none =>
            simp only [Option.map_none]
            cases telem K.P t with
            | none => rfl
            | some e =>
              simp only [Option.map_some]
              cases tsize K.P e <;> rfl
      | _ => rfl
    | _ => rfl
  simp only [gop, h]
  cases iaV (tarrS K.P t) (telemS K.P t) (ev s x) (ev s i) <;> rfl
def bdV (ar : Option (Option Nat)) (pl : Option (List (Nat × Nat))) (z : Option (List GV)) (ps : List (Nat × GV)) : Option GV :=
  match z with
  | some zs =>
    (match (match ar with
      | some (some size) => gfill (fun i => some (i * size, size)) zs ps
      | some none => none
      | none => (match pl with | some l => gfill (fun i => l[i]?) zs ps | none => none)) with
    | some cs => some (mkAgg cs)
    | none => none)
  | none => none
def bdM (x : Option (List GV)) : Option GV := match x with | some cs => some (mkAgg cs) | none => none
@[simp] theorem bdM_some {cs : List GV} : bdM (some cs) = some (mkAgg cs) := .trans rfl rfl
@[simp] theorem bdV_arr {size : Nat} {pl : Option (List (Nat × Nat))} {zs : List GV} {ps : List (Nat × GV)} : bdV (some (some size)) pl (some zs) ps = bdM (gfill (fun i => some (i * size, size)) zs ps) := .trans rfl rfl
@[simp] theorem bdV_struct {l : List (Nat × Nat)} {zs : List GV} {ps : List (Nat × GV)} : bdV none (some l) (some zs) ps = bdM (gfill (fun i => l[i]?) zs ps) := .trans rfl rfl
@[simp] theorem gop_build {t : TypeId} {ps : Array (Nat × Operand)} : gop K fn ⟨dst, .build t ps, ty, pos, af, gu⟩ s H = rv H (bdV ((tarrS K.P t).map (·.2.1)) (tplaces K.P t) (cellsO' (tzero K.P t)) (ps.toList.map (evp s))) := by
  simp only [gop, bdV, tarrS]
  cases tzero K.P t with
  | none => rfl
  | some z =>
    simp only [cellsO'_some]
    cases cellsO z with
    | none => rfl
    | some zs =>
      simp only
      cases tarr K.P t with
      | some p =>
        obtain ⟨n, e⟩ := p
        simp only [Option.map_some]
        cases tsize K.P e with
        | none => rfl
        | some size =>
          simp only
          cases gfill (fun i => some (i * size, size)) zs (ps.toList.map (evp s)) <;> rfl
      | none =>
        simp only [Option.map_none]
        cases tplaces K.P t with
        | none => rfl
        | some l =>
          simp only
          cases gfill (fun i => l[i]?) zs (ps.toList.map (evp s)) <;> rfl
@[simp] theorem evp_def {x : Nat × Operand} : evp s x = (x.1, ev s x.2) := .trans rfl rfl
@[simp] theorem gfill_nil {place : Nat → Option (Nat × Nat)} {cells : List GV} : gfill place cells [] = some cells := .trans rfl rfl
def gfillC (place : Nat → Option (Nat × Nat)) (cells : List GV) (rest : List (Nat × GV)) (p : Option (Nat × Nat)) (vs : Option (List GV)) : Option (List GV) :=
 match p, vs with
 | some (off, size), some vs => if vs.length ≠ size ∨ off + vs.length > cells.length then none else gfill place (splice cells off vs) rest
 | _, _ => none
@[congr] theorem gfillC_cg {place : Nat → Option (Nat × Nat)} {cells : List GV} {rest : List (Nat × GV)} {p p' : Option (Nat × Nat)} {vs vs' : Option (List GV)} (h : ∀ _ : Unit, p = p') (h' : ∀ _ : Unit, vs = vs') : gfillC place cells rest p vs = gfillC place cells rest p' vs' := by rw [h (), h' ()]
@[simp] theorem gfillC_some {place : Nat → Option (Nat × Nat)} {cells : List GV} {rest : List (Nat × GV)} {off size : Nat} {vs : List GV} : gfillC place cells rest (some (off, size)) (some vs) =
  if vs.length ≠ size ∨ off + vs.length > cells.length then none else gfill place (splice cells off vs) rest := .trans rfl rfl
@[simp] theorem gfill_cons {place : Nat → Option (Nat × Nat)} {cells : List GV} {i : Nat} {v : GV} {rest : List (Nat × GV)} : gfill place cells ((i, v) :: rest) = gfillC place cells rest (place i) (cellsO v) := by
 simp only [gfill]
 cases place i with
 | none => rfl
 | some p => obtain ⟨off, size⟩ := p; cases cellsO v <;> rfl
@[simp] theorem splice_def {α : Type} {l xs : List α} {off : Nat} : splice l off xs = l.take off ++ xs ++ l.drop (off + xs.length) := .trans rfl rfl
def stBox (size off : Nat) (cells' : List GV × Heap) (nm : Nm) : Option Heap := match cells'.2.get nm with
 | some (.box cs) => if off + size ≤ cs.length then some (cells'.2.set nm (.box (splice cs off cells'.1))) else none
 | _ => none
def stB (size off : Nat) (cs' : List GV) (H : Heap) (nm : Nm) (b : Option Blk) : Option Heap := match b with
 | some (.box cs) => if off + size ≤ cs.length then some (H.set nm (.box (splice cs off cs'))) else none
 | _ => none
@[congr] theorem stB_cg {size off : Nat} {cs' : List GV} {nm : Nm} {b b' : Option Blk} (h : ∀ _ : Unit, b = b') : stB size off cs' H nm b = stB size off cs' H nm b' := by rw [h ()]
@[simp] theorem stB_box {size off : Nat} {cs' cs : List GV} {nm : Nm} : stB size off cs' H nm (some (.box cs)) = if off + size ≤ cs.length then some (H.set nm (.box (splice cs off cs'))) else none := .trans rfl rfl
@[simp] theorem stBox_def {size off : Nat} {cs' : List GV} {nm : Nm} : stBox size off (cs', H) nm = stB size off cs' H nm (H.get nm) := by
 unfold stBox stB; rfl
def stV (sz : Option Nat) (cells : Option (List GV)) (k : Nat → List GV → Option Heap) : Option Heap := match sz, cells with | some size, some cells => if cells.length ≠ size then none else k size cells | _, _ => none
@[congr] theorem stV_cg {sz sz' : Option Nat} {cells cells' : Option (List GV)} {k : Nat → List GV → Option Heap} (h : ∀ _ : Unit, sz = sz') (h' : ∀ _ : Unit, cells = cells') : stV sz cells k = stV sz' cells' k := by rw [h (), h' ()]
@[simp] theorem stV_some {size : Nat} {cells : List GV} {k : Nat → List GV → Option Heap} : stV (some size) (some cells) k = if cells.length ≠ size then none else k size cells := .trans rfl rfl
@[simp] theorem gstore_bptr {P : Program} {t : TypeId} {nm : Nm} {off : Nat} {v : GV} : gstore P t H (.bptr nm off) v = stV (tsize P t) (cellsO v) fun size cells => stBox size off (lowerCells H nm.1 cells) nm := by
  unfold gstore stV
  cases tsize P t with
  | none => rfl
  | some size =>
    cases cellsO v with
    | none => rfl
    | some cells => rfl
def stArr (size es top i off : Nat) (ps : List PV × Heap) (nm : Nm) : Option Heap := match ps.2.get nm with
  | some (.arr es' elems _ ro) => if es' = es ∧ ro = false ∧ top = elems.length ∧ i < top then
          (match elems[i]? with
          | some e => if off + size ≤ e.length then some (ps.2.set nm (.arr es' (elems.set i (splice e off ps.1)) elems.length false)) else none
          | none => none)
        else none
  | _ => none
@[simp] theorem gstore_eptr {P : Program} {t : TypeId} {nm : Nm} {es top i off : Nat} {v : GV} : gstore P t H (.eptr nm es top i off) v = stV (tsize P t) (cellsO v) fun size cells => stArr size es top i off (pureCells H cells) nm := by
  unfold gstore stV
  cases tsize P t with
  | none => rfl
  | some size =>
    cases cellsO v with
    | none => rfl
    | some cells => rfl
def stA (size es top i off : Nat) (ps : List PV) (H : Heap) (nm : Nm) (b : Option Blk) : Option Heap := match b with
  | some (.arr es' elems _ ro) => if es' = es ∧ ro = false ∧ top = elems.length ∧ i < top then
          (match elems[i]? with
          | some e => if off + size ≤ e.length then some (H.set nm (.arr es' (elems.set i (splice e off ps)) elems.length false)) else none
          | none => none)
        else none
  | _ => none
@[congr] theorem stA_cg {size es top i off : Nat} {ps : List PV} {nm : Nm} {b b' : Option Blk} (h : ∀ _ : Unit, b = b') : stA size es top i off ps H nm b = stA size es top i off ps H nm b' := by rw [h ()]
@[simp] theorem stA_arr {size es top i off es' vf : Nat} {ps : List PV} {nm : Nm} {elems : List (List PV)} {ro : Bool} : stA size es top i off ps H nm (some (.arr es' elems vf ro)) = if es' = es ∧ ro = false ∧ top = elems.length ∧ i < top then
          (match elems[i]? with
          | some e => if off + size ≤ e.length then some (H.set nm (.arr es' (elems.set i (splice e off ps)) elems.length false)) else none
          | none => none)
        else none := .trans rfl rfl
@[simp] theorem stArr_def {size es top i off : Nat} {ps : List PV} {nm : Nm} : stArr size es top i off (ps, H) nm = stA size es top i off ps H nm (H.get nm) := by
 unfold stArr stA; rfl
@[simp] theorem lowerCells_nil {l0 : Nat} : lowerCells H l0 [] = ([], H) := .trans rfl rfl
def lcC (l0 : Nat) (r : List GV) (x : GV × Heap) : List GV × Heap := (x.1 :: (lowerCells x.2 l0 r).1, (lowerCells x.2 l0 r).2)
@[congr] theorem lcC_cg {l0 : Nat} {r : List GV} {x y : GV × Heap} (h : ∀ _ : Unit, x = y) : lcC l0 r x = lcC l0 r y := by rw [h ()]
@[simp] theorem lcC_pair {l0 : Nat} {r : List GV} {g : GV} : lcC l0 r (g, H) = (g :: (lowerCells H l0 r).1, (lowerCells H l0 r).2) := .trans rfl rfl
@[simp] theorem lowerCells_cons {l0 : Nat} {g : GV} {r : List GV} : lowerCells H l0 (g :: r) = lcC l0 r (lowerCell H l0 g) := .trans rfl rfl
@[simp] theorem lowerCells_pures {l0 : Nat} : ∀ {ps : List PV}, lowerCells H l0 (ps.map .pure) = (ps.map .pure, H)
 | [] => rfl
 | p :: ps => by rw [List.map_cons, lowerCells_cons]; show lcC l0 _ (.pure p, H) = _; rw [lcC_pair, lowerCells_pures]
@[simp] theorem lowerCell_pure {l0 : Nat} {p : PV} : lowerCell H l0 (.pure p) = (.pure p, H) := .trans rfl rfl
@[simp] theorem lowerCell_nils {l0 : Nat} : lowerCell H l0 .nils = (.nils, H) := .trans rfl rfl
@[simp] theorem lowerCell_hdr {l0 : Nat} {nm : Nm} {es top lo len : Nat} : lowerCell H l0 (.hdr nm es top lo len) = if nm.1 ≤ l0 then (.hdr nm es top lo len, H) else (.pure (pureCell H (.hdr nm es top lo len)).1, (pureCell H (.hdr nm es top lo len)).2) := .trans rfl rfl
@[simp] theorem pureCells_nil : pureCells H [] = ([], H) := .trans rfl rfl
def pcC (r : List GV) (x : PV × Heap) : List PV × Heap := (x.1 :: (pureCells x.2 r).1, (pureCells x.2 r).2)
@[congr] theorem pcC_cg {r : List GV} {x y : PV × Heap} (h : ∀ _ : Unit, x = y) : pcC r x = pcC r y := by rw [h ()]
@[simp] theorem pcC_pair {r : List GV} {g : PV} : pcC r (g, H) = (g :: (pureCells H r).1, (pureCells H r).2) := .trans rfl rfl
@[simp] theorem pureCells_cons {g : GV} {r : List GV} : pureCells H (g :: r) = pcC r (pureCell H g) := .trans rfl rfl
@[simp] theorem pureCell_pure {p : PV} : pureCell H (.pure p) = (p, H) := .trans rfl rfl
@[simp] theorem pureCell_nils : pureCell H .nils = (.slice [], H) := .trans rfl rfl
def pcHdr (es top lo len : Nat) (H : Heap) (nm : Nm) (b : Option Blk) : PV × Heap := match b with
  | some (.arr es' elems vf _) => if es' = es ∧ vf ≤ top ∧ lo + len ≤ top ∧ top ≤ elems.length then (.slice ((elems.drop lo).take len), H.set nm (.arr es' elems vf true)) else (.dead, H)
  | _ => (.dead, H)
@[congr] theorem pcHdr_cg {es top lo len : Nat} {nm : Nm} {b b' : Option Blk} (h : ∀ _ : Unit, b = b') : pcHdr es top lo len H nm b = pcHdr es top lo len H nm b' := by rw [h ()]
@[simp] theorem pcHdr_arr {es top lo len es' vf : Nat} {nm : Nm} {elems : List (List PV)} {ro : Bool} : pcHdr es top lo len H nm (some (.arr es' elems vf ro)) =
  if es' = es ∧ vf ≤ top ∧ lo + len ≤ top ∧ top ≤ elems.length then (.slice ((elems.drop lo).take len), H.set nm (.arr es' elems vf true)) else (.dead, H) := .trans rfl rfl
@[simp] theorem pureCell_hdr {nm : Nm} {es top lo len : Nat} : pureCell H (.hdr nm es top lo len) = pcHdr es top lo len H nm (H.get nm) := by
 rw [pureCell_hdr_get]; unfold pcHdr
 cases H.get nm with
 | none => rfl
 | some b => cases b <;> rfl
@[simp] theorem gop_len {x : Operand} {t : TypeId} : gop K fn ⟨dst, .call ⟨.builtin .len, #[x], #[t]⟩, ty, pos, af, gu⟩ s H = rp H ((glen K t H (ev s x)).map (.int .i64)) := by
 show (match glen K t H (ev s x) with | some n => some (GV.pure (.int .i64 n), H) | none => none) = _
 cases glen K t H (ev s x) <;> rfl
def lenD (d : Option TypeDesc) (H : Heap) (x : GV) : Option Int :=
 match d, x with
 | some (.array n _), _ => some n
 | some (.slice _), .hdr _ _ _ _ len => some len
 | some (.slice _), .nils => some 0
 | some (.slice _), .lits l => some l.length
 | some (.slice _), .pure (.slice l) => some l.length
 | some .string, .pure (.str l) => some l.length
 | some (.map _ _), .pure .nilm => some 0
 | some (.map _ _), .map nm => (match H.get nm with | some (.map es) => some es.length | _ => none)
 | _, _ => none
@[simp] theorem glen_def {t : TypeId} {x : GV} : glen K t H x = lenD (K.P.underlying t) H x := .trans rfl rfl
@[simp] theorem lenD_hdr {e : TypeId} {nm : Nm} {es top lo len : Nat} : lenD (some (.slice e)) H (.hdr nm es top lo len) = some (len : Int) := .trans rfl rfl
@[simp] theorem lenD_nils {e : TypeId} : lenD (some (.slice e)) H .nils = some 0 := .trans rfl rfl
@[simp] theorem lenD_lits {e : TypeId} {l : List (List GV)} : lenD (some (.slice e)) H (.lits l) = some (l.length : Int) := .trans rfl rfl
@[simp] theorem lenD_pure {e : TypeId} {l : List (List PV)} : lenD (some (.slice e)) H (.pure (.slice l)) = some (l.length : Int) := .trans rfl rfl
@[simp] theorem gop_extract {t : Operand} {i : Nat} : gop K fn ⟨dst, .extract t i, ty, pos, af, gu⟩ s H = rv H (match ev s t with | .tuple l => l[i]? | .pure (.tuple l) => (match l[i]? with | some v => some (.pure v) | none => none) | _ => none) := by
  simp only [gop]
  cases ev s t with
  | tuple l => simp only; cases l[i]? <;> rfl
  | pure p =>
    cases p with
    | tuple l => simp only; cases l[i]? <;> rfl
    | _ => rfl
  | _ => rfl
@[simp] theorem packG_one {r : GV} : packG [r] = r := .trans rfl rfl
@[simp] theorem packG_nil : packG [] = .pure (.tuple []) := .trans rfl rfl
@[simp] theorem packG_two {a b : GV} {l : List GV} : packG (a :: b :: l) = mkTuple (a :: b :: l) := .trans rfl rfl
@[simp] theorem frzVal_pure {p : PV} : frzVal H (.pure p) = (.pure p, H) := .trans rfl rfl
@[simp] theorem frzVal_bptr {nm : Nm} {o : Nat} : frzVal H (.bptr nm o) = (.bptr nm o, H) := .trans rfl rfl
@[simp] theorem canon_pure {p : PV} : canon (.pure p) = .pure p := .trans rfl rfl
@[simp] theorem canon_bptr {nm : Nm} {o : Nat} : canon (.bptr nm o) = .bptr nm o := .trans rfl rfl
@[simp] theorem canon_nils : canon .nils = .pure (.slice []) := .trans rfl rfl
@[simp] theorem canon_agg {l : List GV} : canon (.agg l) = mkAgg (l.map canon1) := .trans rfl rfl
@[simp] theorem canon1_pure {p : PV} : canon1 (.pure p) = .pure p := .trans rfl rfl
@[simp] theorem canon1_nils : canon1 .nils = .pure (.slice []) := .trans rfl rfl
@[simp] theorem canon1_hdr {nm : Nm} {es top lo len : Nat} : canon1 (.hdr nm es top lo len) = .hdr nm es top lo len := .trans rfl rfl
@[simp] theorem canon_tuple {l : List GV} : canon (.tuple l) = mkTuple (l.map fun g => match g with | .agg l => mkAgg (l.map canon1) | g => canon1 g) := .trans rfl rfl
@[simp] theorem clean_pure {l0 : Nat} {p : PV} : clean H l0 (.pure p) = .pure p := .trans rfl rfl
@[simp] theorem clean_nils {l0 : Nat} : clean H l0 .nils = .nils := .trans rfl rfl
@[simp] theorem clean_bptr {l0 : Nat} {nm : Nm} {o : Nat} : clean H l0 (.bptr nm o) = if nm.1 ≤ l0 then .bptr nm o else gdead := .trans rfl rfl
@[simp] theorem clean_map {l0 : Nat} {nm : Nm} : clean H l0 (.map nm) = if nm.1 ≤ l0 then .map nm else gdead := .trans rfl rfl
@[simp] theorem clean_hdr {l0 : Nat} {nm : Nm} {es top lo len : Nat} : clean H l0 (.hdr nm es top lo len) = if nm.1 ≤ l0 then .hdr nm es top lo len else .pure (sliceOf H nm es top lo len) := .trans rfl rfl
@[simp] theorem clean_func {l0 : Nat} {f : Nat} {a c : List GV} : clean H l0 (.func f a c) = if allLe l0 a && allLe l0 c then .func f a c else gdead := .trans rfl rfl
@[simp] theorem clean_agg {l0 : Nat} {l : List GV} : clean H l0 (.agg l) = mkAgg (l.map (clean1 H l0)) := .trans rfl rfl
@[simp] theorem clean_tuple {l0 : Nat} {l : List GV} : clean H l0 (.tuple l) = mkTuple (l.map (clean2 H l0)) := .trans rfl rfl
@[simp] theorem clean2_agg {l0 : Nat} {l : List GV} : clean2 H l0 (.agg l) = mkAgg (l.map (clean1 H l0)) := .trans rfl rfl
@[simp] theorem clean2_pure {l0 : Nat} {p : PV} : clean2 H l0 (.pure p) = .pure p := .trans rfl rfl
@[simp] theorem clean2_nils {l0 : Nat} : clean2 H l0 .nils = .nils := .trans rfl rfl
@[simp] theorem clean2_hdr {l0 : Nat} {nm : Nm} {es top lo len : Nat} : clean2 H l0 (.hdr nm es top lo len) = if nm.1 ≤ l0 then .hdr nm es top lo len else .pure (sliceOf H nm es top lo len) := .trans rfl rfl
@[simp] theorem clean1_pure {l0 : Nat} {p : PV} : clean1 H l0 (.pure p) = .pure p := .trans rfl rfl
@[simp] theorem clean1_nilsE {l0 : Nat} : clean1 H l0 .nils = .nils := .trans rfl rfl
@[simp] theorem clean1_hdr {l0 : Nat} {nm : Nm} {es top lo len : Nat} : clean1 H l0 (.hdr nm es top lo len) = if nm.1 ≤ l0 then .hdr nm es top lo len else .pure (sliceOf H nm es top lo len) := .trans rfl rfl
def slD (es top lo len : Nat) (b : Option Blk) : PV := match b with
 | some (.arr es' elems vf _) => if es' = es ∧ vf ≤ top ∧ lo + len ≤ top ∧ top ≤ elems.length then .slice ((elems.drop lo).take len) else .dead
 | _ => .dead
@[simp] theorem slD_arr {es top lo len es' vf : Nat} {elems : List (List PV)} {ro : Bool} : slD es top lo len (some (.arr es' elems vf ro)) = if es' = es ∧ vf ≤ top ∧ lo + len ≤ top ∧ top ≤ elems.length then .slice ((elems.drop lo).take len) else .dead := .trans rfl rfl
@[simp] theorem sliceOf_def {nm : Nm} {es top lo len : Nat} : sliceOf H nm es top lo len = slD es top lo len (H.get nm) := by
 unfold sliceOf slD
 cases H.get nm with
 | none => rfl
 | some b => cases b <;> rfl
@[simp] theorem allLe_nil {l0 : Nat} : allLe l0 [] = true := .trans rfl rfl
@[simp] theorem allLe_bptr {l0 : Nat} {nm : Nm} {o : Nat} {r : List GV} : allLe l0 (.bptr nm o :: r) = (decide (nm.1 ≤ l0) && allLe l0 r) := .trans rfl rfl
theorem gleave_free {f : Nat} {c : Nat} {r : GV} {fr : Fr} (h : K.keep f = false) : gleave K f c r (fr :: H) = some (canon (clean (fr :: H) (H.length - 1) r), H) := by
 unfold gleave; simp [h]
end
end
section
section
variable {K : Ctx} {fn : FuncId} {rec : Rec} {dst : Option Tmp} {ty : TypeId} {pos : String} {af : Array Edge} {gu : Option (Nat × Bool)} {s : Slots} {H : Heap}
def tapp (P : Program) (t : TypeId) : Option (Option Nat × Option Nat × Option Nat) := (telem P t).map fun e => (tsize P e, tbytes P e, zsize P e)
def apV (lv : Option Nat) (k : Nat → Option (GV × Heap)) : Option (GV × Heap) := match lv with | some l => k l | none => none
@[congr] theorem apV_cg {lv lv' : Option Nat} {k : Nat → Option (GV × Heap)} (h : ∀ _ : Unit, lv = lv') : apV lv k = apV lv' k := by rw [h ()]
@[simp] theorem apV_some {l : Nat} {k : Nat → Option (GV × Heap)} : apV (some l) k = k l := .trans rfl rfl
def gapE (ta : Option (Option Nat × Option Nat × Option Nat)) (xs : Option (List (List PV) × Heap)) (k : Nat → Nat → List (List PV) → Heap → Option (GV × Heap)) : Option (GV × Heap) :=
  match ta, xs with
  | some (some size, some bytes, zs), some (xs, H) =>
    if zs = some size ∧ (xs.all fun r => r.length == size) = true ∧ 0 < size ∧ 0 < bytes ∧ bytes ≤ 1048576 then k size bytes xs H else none
  | _, _ => none
@[congr] theorem gapE_cg {ta ta' : Option (Option Nat × Option Nat × Option Nat)} {xs xs' : Option (List (List PV) × Heap)} {k : Nat → Nat → List (List PV) → Heap → Option (GV × Heap)} (h : ∀ _ : Unit, ta = ta') (h' : ∀ _ : Unit, xs = xs') : gapE ta xs k = gapE ta' xs' k := by rw [h (), h' ()]
@[simp] theorem gapE_some {size bytes : Nat} {zs : Option Nat} {xs : List (List PV)} {k : Nat → Nat → List (List PV) → Heap → Option (GV × Heap)} : gapE (some (some size, some bytes, zs)) (some (xs, H)) k =
  if zs = some size ∧ (xs.all fun r => r.length == size) = true ∧ 0 < size ∧ 0 < bytes ∧ bytes ≤ 1048576 then k size bytes xs H else none := .trans rfl rfl
def apK (l key : Nat) (s : GV) (size bytes : Nat) (xs : List (List PV)) (H : Heap) : Option (GV × Heap) :=
  match s with
  | .nils =>
    if xs.length * bytes ≤ 1099511627776 then (if xs.isEmpty then some (.nils, H) else rn (gnewAt H l key (.arr size xs 0 false)) fun nm => .hdr nm size xs.length 0 xs.length) else none
  | .hdr nm es top lo len =>
    (match H.get nm with
    | some (.arr es' elems vf ro) =>
      if es' = size ∧ es = size ∧ top = elems.length ∧ lo = 0 ∧ len = top ∧ vf ≤ top ∧ ro = false ∧ (len + xs.length) * bytes ≤ 1099511627776 then
        (if xs.isEmpty then some (.hdr nm es top lo len, H) else some (.hdr nm es (top + xs.length) 0 (top + xs.length), H.set nm (.arr es' (elems ++ xs) vf false)))
      else none
    | _ => none)
  | _ => none
@[simp] theorem apK_nils {l key size bytes : Nat} {xs : List (List PV)} : apK l key .nils size bytes xs H =
  if xs.length * bytes ≤ 1099511627776 then (if xs.isEmpty then some (.nils, H) else rn (gnewAt H l key (.arr size xs 0 false)) fun nm => .hdr nm size xs.length 0 xs.length) else none := .trans rfl rfl
def apH (H : Heap) (nm : Nm) (es top lo len size bytes : Nat) (xs : List (List PV)) (b : Option Blk) : Option (GV × Heap) := match b with
    | some (.arr es' elems vf ro) =>
      if es' = size ∧ es = size ∧ top = elems.length ∧ lo = 0 ∧ len = top ∧ vf ≤ top ∧ ro = false ∧ (len + xs.length) * bytes ≤ 1099511627776 then
        (if xs.isEmpty then some (.hdr nm es top lo len, H) else some (.hdr nm es (top + xs.length) 0 (top + xs.length), H.set nm (.arr es' (elems ++ xs) vf false)))
      else none
    | _ => none
@[congr] theorem apH_cg {nm : Nm} {es top lo len size bytes : Nat} {xs : List (List PV)} {b b' : Option Blk} (h : ∀ _ : Unit, b = b') : apH H nm es top lo len size bytes xs b = apH H nm es top lo len size bytes xs b' := by rw [h ()]
@[simp] theorem apH_arr {nm : Nm} {es top lo len size bytes : Nat} {xs : List (List PV)} {es' vf : Nat} {elems : List (List PV)} {ro : Bool} : apH H nm es top lo len size bytes xs (some (.arr es' elems vf ro)) =
      if es' = size ∧ es = size ∧ top = elems.length ∧ lo = 0 ∧ len = top ∧ vf ≤ top ∧ ro = false ∧ (len + xs.length) * bytes ≤ 1099511627776 then
        (if xs.isEmpty then some (.hdr nm es top lo len, H) else some (.hdr nm es (top + xs.length) 0 (top + xs.length), H.set nm (.arr es' (elems ++ xs) vf false)))
      else none := .trans rfl rfl
@[simp] theorem apK_hdr {l key size bytes : Nat} {xs : List (List PV)} {nm : Nm} {es top lo len : Nat} : apK l key (.hdr nm es top lo len) size bytes xs H = apH H nm es top lo len size bytes xs (H.get nm) := by
 unfold apK apH
 rfl
theorem gappend_def {l key : Nat} {t : TypeId} {a x : GV} : gappend K H l key t a x = gapE (tapp K.P t) (gelems H x) (apK l key a) := by
  unfold gappend tapp
  cases telem K.P t with
  | none => rfl
  | some e =>
    simp only [Option.map_some]
    cases tsize K.P e with
    | none => rfl
    | some size =>
      cases tbytes K.P e with
      | none => rfl
      | some bytes =>
        cases gelems H x with
        | none => rfl
        | some y =>
          obtain ⟨xs, H1⟩ := y
          simp only [gapE]
          by_cases hc : zsize K.P e = some size ∧ (xs.all fun r => r.length == size) = true ∧ 0 < size ∧ 0 < bytes ∧ bytes ≤ 1048576
          · obtain ⟨h1, h2, h3, h4, h5⟩ := hc
            simp only [h1, h2, h3, h4, h5, decide_true, Bool.and_self, and_self, if_true]
            unfold apK
            cases a with
            | nils =>
              simp only
              split
              · split
                · rfl
                · cases gnewAt H1 l key (.arr size xs 0 false) <;> rfl
              · rfl
            | hdr nm es top lo len => rfl
            | _ => rfl
          · rw [if_neg hc, if_neg]
            intro h
            simp only [Bool.and_eq_true, decide_eq_true_eq] at h
            exact hc ⟨h.1.1.1.1, h.1.1.1.2, h.1.1.2, h.1.2, h.2⟩
@[simp] theorem gop_append {d : Nat} {x y : Operand} {t t2 : TypeId} : gop K fn ⟨some d, .call ⟨.builtin .append, #[x, y], #[t, t2]⟩, ty, pos, af, gu⟩ s H =
  if spreads K.P (some t2) = true then apV (upLevel H s (K.up fn d)) fun l => gapE (tapp K.P t) (gelems H (ev s y)) (apK l d (ev s x)) else none := by
 show (if spreads K.P (some t2) = true then (match upLevel H s (K.up fn d) with | some l => gappend K H l d t (ev s x) (ev s y) | none => none) else none) = _
 split
 ·cases upLevel H s (K.up fn d) with
  | none => rfl
  | some l => exact gappend_def
 ·rfl
@[simp] theorem upLevel_scopes {n : Nat} : upLevel H s (.scopes n) = if H.length ≤ n then none else some (H.length - 1 - n) := .trans rfl rfl
def upB : GV → Option Nat | .bptr nm _ => some nm.1 | _ => none
@[simp] theorem upB_bptr {nm : Nm} {o : Nat} : upB (.bptr nm o) = some nm.1 := .trans rfl rfl
@[simp] theorem upLevel_box {t : Nat} : upLevel H s (.box t) = upB (look s t) := by
 unfold upLevel upB; rfl
@[simp] theorem gnewAt_def {l key : Nat} {b : Blk} : gnewAt H l key b = if H.length ≤ l then none else if (H.get (l, key)).isSome then none else some ((l, key), H.set (l, key) b) := by
 unfold gnewAt
 split
 ·rfl
 ·cases H.get (l, key) <;> simp
@[simp] theorem gelems_pure {l : List (List PV)} : gelems H (.pure (.slice l)) = some (l, H) := .trans rfl rfl
@[simp] theorem gelems_lits {l : List (List GV)} : gelems H (.lits l) = some (pureRows H l) := .trans rfl rfl
def elH (H : Heap) (x : PV) : Option (List (List PV) × Heap) := match x with | .slice l => some (l, H) | _ => none
@[simp] theorem elH_slice {l : List (List PV)} : elH H (.slice l) = some (l, H) := .trans rfl rfl
@[simp] theorem gelems_hdr {nm : Nm} {es top lo len : Nat} : gelems H (.hdr nm es top lo len) = elH H (slD es top lo len (H.get nm)) := by
 rw [← sliceOf_def]
 unfold gelems elH
 simp only
 generalize sliceOf H nm es top lo len = q
 cases q <;> rfl
@[simp] theorem pureRows_nil : pureRows H [] = ([], H) := .trans rfl rfl
def prC (r : List (List GV)) (x : List PV × Heap) : List (List PV) × Heap := (x.1 :: (pureRows x.2 r).1, (pureRows x.2 r).2)
@[congr] theorem prC_cg {r : List (List GV)} {x y : List PV × Heap} (h : ∀ _ : Unit, x = y) : prC r x = prC r y := by rw [h ()]
@[simp] theorem prC_pair {r : List (List GV)} {g : List PV} : prC r (g, H) = (g :: (pureRows H r).1, (pureRows H r).2) := .trans rfl rfl
@[simp] theorem pureRows_cons {g : List GV} {r : List (List GV)} : pureRows H (g :: r) = prC r (pureCells H g) := .trans rfl rfl
@[simp] theorem gop_slice {t : TypeId} {x : Operand} {lo hi mx : Option Operand} : gop K fn ⟨dst, .slice t x lo hi mx, ty, pos, af, gu⟩ s H = rv H (gslice K t (ev s x) (lo.map (ev s)) (hi.map (ev s)) (mx.map (ev s))) := by
 simp only [gop, rv]; rfl
def slP (es : Option (Option Nat)) (a b : Option Nat) (l : List (List PV)) : Option GV :=
 match es, a, b with
 | some (some es), some a, some b => if a ≤ b ∧ b ≤ l.length ∧ (l.all fun r => r.length == es) = true then some (.pure (.slice ((l.take b).drop a))) else none
 | _, _, _ => none
@[simp] theorem slP_some {es a b : Nat} {l : List (List PV)} : slP (some (some es)) (some a) (some b) l = if a ≤ b ∧ b ≤ l.length ∧ (l.all fun r => r.length == es) = true then some (.pure (.slice ((l.take b).drop a))) else none := .trans rfl rfl
@[simp] theorem gslice_pure {t : TypeId} {l : List (List PV)} {lo hi : Option GV} : gslice K t (.pure (.slice l)) lo hi none = slP (telemS K.P t) (gbound lo 0) (gbound hi l.length) l := by
  unfold gslice slP telemS
  simp only [Option.isSome_none, Bool.false_eq_true, if_false]
  generalize gbound lo 0 = a
  generalize gbound hi l.length = b
  rcases a with _ | a <;> rcases b with _ | b
  · cases telem K.P t with
    | none => rfl
    | some e => simp only [Option.map_some]; cases tsize K.P e <;> rfl
  · cases telem K.P t with
    | none => rfl
    | some e => simp only [Option.map_some]; cases tsize K.P e <;> rfl
  · cases telem K.P t with
    | none => rfl
    | some e => simp only [Option.map_some]; cases tsize K.P e <;> rfl
  · cases telem K.P t with
    | none => rfl
    | some e =>
      simp only [Option.map_some]
      cases tsize K.P e with
      | none => simp
      | some es =>
        simp only
        by_cases h : a ≤ b ∧ b ≤ l.length
        · rw [if_pos h]
          simp only [h.1, h.2, true_and]
        · rw [if_neg h, if_neg (fun h' => h ⟨h'.1, h'.2.1⟩)]
@[simp] theorem gbound_none {d : Nat} : gbound none d = some d := .trans rfl rfl
@[simp] theorem gbound_some {k : IntKind} {i : Int} {d : Nat} : gbound (some (.pure (.int k i))) d = if i < 0 then none else some i.toNat := .trans rfl rfl
def tlit (P : Program) (t : TypeId) : Option (Option Nat × Option (List GV)) := (telem P t).map fun e => (tsize P e, cellsO' (tzero P e))
def blR (own : Bool) (d : Nat) (H : Heap) (size len : Nat) (cs : List GV) (ps : Option (List PV)) : Option (GV × Heap) :=
 match ps with
 | some ps => if own then rn (gnew H d (.arr size (chunks size len ps) 0 false)) (fun nm => .hdr nm size len 0 len) else some (.pure (.slice (chunks size len ps)), H)
 | none => if own then rn (gnew (pureCells H cs).2 d (.arr size (chunks size len (pureCells H cs).1) 0 false)) (fun nm => .hdr nm size len 0 len) else some (.lits (chunks size len cs), H)
def blL (own : Bool) (d : Nat) (H : Heap) (size len : Nat) (x : Option (List GV)) : Option (GV × Heap) := match x with
 | some cs => if len = 0 then some (.nils, H) else blR own d H size len cs (allPure (cs.map canon1))
 | none => none
def blV (own : Bool) (d : Nat) (H : Heap) (len : Nat) (ps : List (Nat × GV)) (tl : Option (Option Nat × Option (List GV))) : Option (GV × Heap) := match tl with
 | some (some size, some zs) => if zs.length = size ∧ 0 < size ∧ len * size ≤ 16777216 then blL own d H size len (gfill (fun i => some (i * size, size)) (List.replicate len zs).flatten ps) else none
 | _ => none
@[simp] theorem blR_own {d size len : Nat} {cs : List GV} {ps : List PV} : blR true d H size len cs (some ps) = rn (gnew H d (.arr size (chunks size len ps) 0 false)) (fun nm => .hdr nm size len 0 len) := .trans rfl rfl
@[simp] theorem blR_pure {d size len : Nat} {cs : List GV} {ps : List PV} : blR false d H size len cs (some ps) = some (.pure (.slice (chunks size len ps)), H) := .trans rfl rfl
@[simp] theorem blR_lits {d size len : Nat} {cs : List GV} : blR false d H size len cs none = some (.lits (chunks size len cs), H) := .trans rfl rfl
@[simp] theorem blR_litsOwn {d size len : Nat} {cs : List GV} : blR true d H size len cs none = rn (gnew (pureCells H cs).2 d (.arr size (chunks size len (pureCells H cs).1) 0 false)) (fun nm => .hdr nm size len 0 len) := .trans rfl rfl
@[simp] theorem blL_some {own : Bool} {d size len : Nat} {cs : List GV} : blL own d H size len (some cs) = if len = 0 then some (.nils, H) else blR own d H size len cs (allPure (cs.map canon1)) := .trans rfl rfl
@[simp] theorem blV_some {own : Bool} {d size len : Nat} {zs : List GV} {ps : List (Nat × GV)} : blV own d H len ps (some (some size, some zs)) =
  if zs.length = size ∧ 0 < size ∧ len * size ≤ 16777216 then blL own d H size len (gfill (fun i => some (i * size, size)) (List.replicate len zs).flatten ps) else none := .trans rfl rfl
@[simp] theorem gop_buildSlice {d : Nat} {t : TypeId} {n : Nat} {ps : Array (Nat × Operand)} : gop K fn ⟨some d, .buildSlice t n ps, ty, pos, af, gu⟩ s H = blV (K.own fn d) d H n (ps.toList.map (evp s)) (tlit K.P t) := by
  simp only [gop, tlit]
  cases telem K.P t with
  | none => rfl
  | some e =>
    simp only [Option.map_some]
    cases tsize K.P e with
    | none => rfl
    | some size =>
      cases tzero K.P e with
      | none => rfl
      | some z =>
        simp only [cellsO'_some]
        cases cellsO z with
        | none => rfl
        | some zs =>
          simp only [blV_some]
          split
          · cases gfill (fun i => some (i * size, size)) (List.replicate n zs).flatten (ps.toList.map (evp s)) with
            | none => rfl
            | some cs =>
              simp only [blL_some]
              split
              · rfl
              · cases allPure (cs.map canon1) with
                | none =>
                  simp only
                  cases K.own fn d with
                  | true =>
                    simp only [if_true, blR_litsOwn]
                    cases gnew (pureCells H cs).2 d (.arr size (chunks size n (pureCells H cs).1) 0 false) <;> rfl
                  | false => rfl
                | some qs =>
                  simp only
                  cases K.own fn d with
                  | true =>
                    simp only [if_true, blR_own]
                    cases gnew H d (.arr size (chunks size n qs) 0 false) <;> rfl
                  | false => rfl
          · rfl
@[simp] theorem chunks_zero {α : Type} {es : Nat} {l : List α} : chunks es 0 l = [] := .trans rfl rfl
@[simp] theorem chunks_succ {α : Type} {es n : Nat} {l : List α} : chunks es (n + 1) l = l.take es :: chunks es n (l.drop es) := .trans rfl rfl
def mkS (d : Nat) (H : Heap) (a b : GV) (tm : Option (Option Nat × Option Nat × Option (List PV))) : Option (GV × Heap) := match tm, a, b with
 | some (some size, some bytes, some ps), .pure (.int _ l), .pure (.int _ c) => if ps.length = size ∧ 0 < size ∧ 0 < bytes ∧ 0 ≤ l ∧ l ≤ c ∧ c * bytes ≤ 1099511627776 then
   rn (gnew H d (.arr size (List.replicate l.toNat ps) 0 false)) (fun nm => .hdr nm size l.toNat 0 l.toNat) else none
 | _, _, _ => none
def rk (x : Option Heap) : Option (GV × Heap) := rh x
@[simp] theorem gop_makeMap {d : Nat} {t : TypeId} : gop K fn ⟨some d, .makeMap t none, ty, pos, af, gu⟩ s H = rn (gnew H d (.map [])) .map := by
 simp only [gop]; cases gnew H d (.map []) <;> rfl
def luV (ok : Bool) (z : Option GV) (x : Option (Option (Nat × GV))) : Option GV := match x with
 | some (some (_, v)) => some (if ok then mkTuple [v, .pure (.bool true)] else v)
 | some none => (match z with | some z => some (if ok then mkTuple [z, .pure (.bool false)] else z) | none => none)
 | none => none
@[simp] theorem luV_hit {ok : Bool} {z : Option GV} {i : Nat} {v : GV} : luV ok z (some (some (i, v))) = some (if ok then mkTuple [v, .pure (.bool true)] else v) := .trans rfl rfl
@[simp] theorem luV_miss {ok : Bool} {z : GV} : luV ok (some z) (some none) = some (if ok then mkTuple [z, .pure (.bool false)] else z) := .trans rfl rfl
def tmz (P : Program) (t : TypeId) : Option (TypeId × Option GV) := (tmap P t).map fun x => (x.1, tzero P x.2)
def luK (K : Ctx) (ok : Bool) (tm : Option (TypeId × Option GV)) (k : GV) (es : Option (List (PV × GV))) : Option GV := match tm, k, es with
 | some (kt, z), .pure k, some es => if keyFitsK K kt k = false then none else luV ok z (findEntry k es 0)
 | _, _, _ => none
@[simp] theorem luK_some {K : Ctx} {ok : Bool} {kt : TypeId} {z : Option GV} {k : PV} {es : List (PV × GV)} : luK K ok (some (kt, z)) (.pure k) (some es) = if keyFitsK K kt k = false then none else luV ok z (findEntry k es 0) := .trans rfl rfl
@[simp] theorem gop_lookup {t : TypeId} {x k : Operand} {ok : Bool} : gop K fn ⟨dst, .lookup t x k ok, ty, pos, af, gu⟩ s H = rv H (luK K ok (tmz K.P t) (ev s k) (mapOf H (ev s x))) := by
  have h : glookup K t H (ev s x) (ev s k) ok = luK K ok (tmz K.P t) (ev s k) (mapOf H (ev s x)) := by
    unfold glookup luK tmz
    generalize ev s k = g
    generalize mapOf H (ev s x) = m
    cases tmap K.P t with
    | none => rfl
    | some p =>
      obtain ⟨kt, e⟩ := p
      cases g with
      | pure q =>
        cases m with
        | none => rfl
        | some es =>
          simp only [Option.map_some]
          split
          · rfl
          · unfold luV
            cases findEntry q es 0 with
            | none => rfl
            | some y => cases y <;> rfl
      | _ => cases m <;> rfl
  simp only [gop, h]
  rfl
def mapB (b : Option Blk) : Option (List (PV × GV)) := match b with | some (.map es) => some es | _ => none
@[simp] theorem mapB_map {es : List (PV × GV)} : mapB (some (.map es)) = some es := .trans rfl rfl
def muE (nm : Nm) (H : Heap) (k : PV) (v : GV) (es : List (PV × GV)) (x : Option (Option (Nat × GV))) : Option Heap := match x with
 | some (some (i, _)) => some (H.set nm (.map (es.set i (k, v))))
 | some none => some (H.set nm (.map (es ++ [(k, v)])))
 | none => none
@[simp] theorem muE_hit {nm : Nm} {k : PV} {v v' : GV} {es : List (PV × GV)} {i : Nat} : muE nm H k v es (some (some (i, v'))) = some (H.set nm (.map (es.set i (k, v)))) := .trans rfl rfl
@[simp] theorem muE_miss {nm : Nm} {k : PV} {v : GV} {es : List (PV × GV)} : muE nm H k v es (some none) = some (H.set nm (.map (es ++ [(k, v)]))) := .trans rfl rfl
def muK (K : Ctx) (kt : TypeId) (nm : Nm) (k : PV) (x : Option (GV × Heap)) : Option Heap := match x with
 | some (v', H1) => (match mapB (H1.get nm) with | some es => if keyFitsK K kt k = false then none else muE nm H1 k v' es (findEntry k es 0) | none => none)
 | none => none
@[simp] theorem muK_some {K : Ctx} {kt : TypeId} {nm : Nm} {k : PV} {v : GV} : muK K kt nm k (some (v, H)) = (match mapB (H.get nm) with | some es => if keyFitsK K kt k = false then none else muE nm H k v es (findEntry k es 0) | none => none) := .trans rfl rfl
def muV (K : Ctx) (tm : Option (TypeId × TypeId)) (H : Heap) (m k v : GV) : Option Heap := match tm, m, k with
 | some (kt, _), .map nm, .pure k => muK K kt nm k (lowerVal H nm.1 v)
 | _, _, _ => none
@[simp] theorem gop_mapUpdate {t : TypeId} {m k v : Operand} : gop K fn ⟨dst, .mapUpdate t m k v, ty, pos, af, gu⟩ s H = rh (muV K (tmap K.P t) H (ev s m) (ev s k) (ev s v)) := by
  have h : gmapUpdate K t H (ev s m) (ev s k) (ev s v) = muV K (tmap K.P t) H (ev s m) (ev s k) (ev s v) := by
    unfold gmapUpdate muV
    generalize ev s m = gm
    generalize ev s k = gk
    cases tmap K.P t with
    | none => rfl
    | some p =>
      obtain ⟨kt, e⟩ := p
      cases gm with
      | map nm =>
        cases gk with
        | pure q =>
          simp only
          cases lowerVal H nm.1 (ev s v) with
          | none => rfl
          | some y =>
            obtain ⟨v', H1⟩ := y
            simp only [muK, mapB]
            cases H1.get nm with
            | none => rfl
            | some b =>
              cases b with
              | map es =>
                simp only
                split
                · rfl
                · unfold muE
                  cases findEntry q es 0 with
                  | none => rfl
                  | some y => cases y <;> rfl
              | _ => rfl
        | _ => rfl
      | _ => rfl
  simp only [gop, h]
  rfl
@[simp] theorem gop_makeFunc {f : Nat} {a c : Array Operand} : gop K fn ⟨dst, .makeFunc (.func f) a c, ty, pos, af, gu⟩ s H = rv H (some (mkFunc f (a.toList.map (ev s)) (c.toList.map (ev s)))) := .trans rfl rfl
@[simp] theorem mkFunc_cap {f : Nat} {a : List GV} {g : GV} {c : List GV} : mkFunc f a (g :: c) = .func f a (g :: c) := by unfold mkFunc; simp
@[simp] theorem gop_min {args : Array Operand} {ats : Array TypeId} : gop K fn ⟨dst, .call ⟨.builtin .min, args, ats⟩, ty, pos, af, gu⟩ s H = rv H (gminmax false (args.toList.map (ev s))) := by
 simp only [gop, rv]; rfl
@[simp] theorem gminmax_one {mx : Bool} {k : IntKind} {a : Int} : gminmax mx [.pure (.int k a)] = some (.pure (.int k a)) := by
 rw [gminmax]
@[simp] theorem gminmax_two {mx : Bool} {k : IntKind} {a b : Int} {r : List GV} : gminmax mx (.pure (.int k a) :: .pure (.int k b) :: r) = gminmax mx (.pure (.int k (if mx = true then (if a < b then b else a) else (if b < a then b else a))) :: r) := by
 rw [gminmax]; simp
def consO (x : Option GV) (r : Option (List GV)) : Option (List GV) := match x, r with | some v, some l => some (v :: l) | _, _ => none
@[simp] theorem consO_some {v : GV} {l : List GV} : consO (some v) (some l) = some (v :: l) := .trans rfl rfl
def resL (K : Ctx) (st : GSt) : List ResultVar → Option (List GV)
 | [] => some []
 | .tmp t :: r => consO (some (look st.s t)) (resL K st r)
 | .cell a t :: r => consO (gload K.P t st.h (look st.s a)) (resL K st r)
@[simp] theorem resL_nil {st : GSt} : resL K st [] = some [] := .trans rfl rfl
@[simp] theorem resL_tmp {st : GSt} {t : Nat} {r : List ResultVar} : resL K st (.tmp t :: r) = consO (some (look st.s t)) (resL K st r) := .trans rfl rfl
@[simp] theorem resL_cell {st : GSt} {a : Nat} {t : TypeId} {r : List ResultVar} : resL K st (.cell a t :: r) = consO (gload K.P t st.h (look st.s a)) (resL K st r) := .trans rfl rfl
@[simp] theorem gresults_def {g : Func} {st : GSt} : gresults K g st = resL K st g.results.toList := by
  unfold gresults
  generalize g.results.toList = l
  induction l with
  | nil => rfl
  | cons x r ih =>
    cases x with
    | tmp t =>
      simp only [List.mapM_cons, resL_tmp, ← ih]
      generalize List.mapM (m := Option) _ r = q
      cases q <;> rfl
    | cell a t =>
      simp only [List.mapM_cons, resL_cell, ← ih]
      cases gload K.P t st.h (look st.s a) with
      | none => rfl
      | some v =>
        generalize List.mapM (m := Option) _ r = q
        cases q <;> rfl
@[simp] theorem firstRegion_region {id : Nat} {ops : Array Oper} {b : Bool} : firstRegion (.region id ops b) = id + 1 := .trans rfl rfl
@[simp] theorem firstRegion_seq {a b : Code} : firstRegion (.seq a b) = if firstRegion a = 0 then firstRegion b else firstRegion a := .trans rfl rfl
theorem WPv_eq {α : Type} {x : Option α} {a : α} (h : WPv x (fun r => r = a)) : x = some a := by
 obtain ⟨r, h1, h2⟩ := h; rw [h1, h2]
end
end
def annT : List (Nat × Nat × List Nat × List Nat) := [(3, 12, [3, 4, 16, 17], [12]), (4, 9, [1, 2, 3, 5, 11, 12, 13, 14, 15], [1, 2, 3, 5, 11, 12, 13, 14]), (4, 15, [17, 18, 19, 20, 21], [10]), (5, 9, [12, 13, 14, 15], [8]), (6, 10, [3, 4, 5, 6, 8, 10], [2, 3, 4, 5]), (7, 12, [4, 5, 6, 7, 8, 9, 10], [2]), (7, 16, [4, 5, 6, 7, 8, 9, 10, 11, 12], [2, 4, 5, 6, 7, 8, 9, 10]), (7, 22, [4, 5, 6, 7, 8, 9, 10, 11, 13, 14], [4, 5, 6, 7, 8, 9, 10, 11, 13]), (8, 13, [4, 10], [2]), (8, 16, [4, 10, 11], [2, 4, 10]), (11, 6, [0, 6, 7, 8, 9, 10], [6, 7, 8, 9]), (11, 23, [6, 7, 8, 9, 18], [6, 7, 8]), (11, 26, [6, 7, 8, 9, 18, 19], [6, 7, 8, 9, 18]), (11, 33, [6, 7, 8, 21], [6, 7]), (12, 4, [0, 3, 4], [3]), (19, 9, [1, 2, 3, 6, 9, 28, 29, 30], [3, 6, 9]), (20, 10, [1, 2, 3, 6, 9, 10, 11], [3, 6, 10]), (21, 5, [2, 3, 5], [2, 3, 4]), (21, 10, [2, 3, 6], [4]), (22, 5, [0, 1, 5], [4]), (23, 5, [2, 3, 5], [2, 3, 4]), (23, 10, [2, 3, 6], [4]), (25, 4, [1, 2, 5, 6], [1, 2, 5]), (25, 8, [1, 2, 5, 7], [5]), (25, 11, [1, 2, 5, 7, 8], [1, 2, 5, 7]), (25, 18, [1, 2, 5, 7, 8, 9, 10], [1, 2, 5, 7, 8]), (25, 24, [1, 2, 5, 7, 8, 9, 11], [1, 2, 5, 7, 8]), (29, 8, [1, 2, 3, 4, 8, 34, 35, 36], [1, 2, 3, 4, 8, 9]), (29, 22, [3, 4, 8, 14, 15, 16, 17, 90, 91, 92], [3, 4, 8, 14, 16, 17]), (29, 28, [3, 4, 8, 17, 109, 110, 111], [4, 8, 17]), (30, 8, [1, 2, 3, 4, 8, 10, 12], [1, 2, 3, 4, 8, 9, 10]), (31, 5, [0, 1, 5], [4]), (33, 5, [0, 3, 4, 5], [3, 4]), (35, 7, [3, 10, 11], [3, 10]), (35, 17, [10, 12, 13], [6, 7]), (36, 6, [1, 24, 25], [2, 3, 4]), (36, 9, [1, 8, 24, 25, 29, 30, 31], [1, 2, 3, 4, 24, 25]), (37, 6, [1, 8], [2, 3, 4]), (37, 9, [1, 8, 9], [1, 2, 3, 4, 8]), (38, 5, [1, 2, 3, 4], [1, 2, 3]), (38, 9, [1, 2, 3, 5], [1, 2, 3]), (38, 14, [1, 2, 3, 6, 7], [1, 2, 3, 6]), (38, 19, [1, 2, 3, 8], [1, 2]), (39, 6, [2, 3, 5, 6], [2, 3, 4, 5]), (39, 11, [2, 3, 5, 6, 7], [2, 3, 4, 5, 6]), (39, 19, [2, 3, 5, 9], [4]), (40, 4, [1, 2, 4, 5], [1, 2, 4]), (40, 8, [1, 2, 4, 6], [2, 4]), (41, 13, [3, 4, 9, 11, 13, 14, 15, 16], [8]), (42, 3, [0, 1, 5], [4]), (43, 4, [1, 2, 3, 4, 5, 11, 12], [1, 2, 5, 11]), (44, 3, [0, 1, 5], [4]), (47, 5, [0, 4, 5, 6, 7], [0, 4, 5]), (47, 9, [0, 4, 5, 8], [0, 4, 5]), (47, 16, [0, 4, 5, 10], [4, 5]), (48, 4, [1, 2, 3, 4], [1, 2, 3]), (48, 8, [1, 2, 3, 5], [2, 3]), (49, 5, [0, 5, 6, 8, 10, 11, 12], [0, 8, 10]), (57, 8, [1, 17, 18, 19], [2]), (68, 5, [0, 1, 5], [4]), (70, 11, [7, 8, 9], [7]), (72, 14, [9, 10, 11, 12], [10, 11]), (74, 5, [3, 8, 9], [8, 9]), (77, 4, [0, 1, 2, 7, 8], [0, 1, 2, 7, 8]), (77, 8, [0, 1, 2, 7, 8, 9], [0, 2, 7, 8]), (77, 13, [0, 2, 7, 8], [7]), (79, 12, [12, 16, 17, 51], [6, 7]), (80, 4, [2, 3, 4, 9, 10], [6, 7, 8, 9]), (80, 6, [2, 3, 4, 9, 10, 11], [2, 3, 4, 9, 10, 11]), (80, 11, [2, 3, 4, 9, 11, 12, 13, 14], [2, 3, 4, 6, 7, 8, 9, 11, 12]), (80, 17, [2, 3, 4, 9, 11, 12, 13, 14, 15, 16], [2, 3, 4, 6, 7, 8, 9, 11, 12, 13, 14, 15]), (81, 6, [0, 2, 3, 5, 13], [8, 9]), (83, 4, [0, 1, 5, 6], [5]), (84, 6, [3, 4, 5, 9], [3, 4, 5, 6]), (85, 3, [1, 2, 5], [4]), (89, 10, [1, 30, 31, 32], [1, 2]), (89, 17, [1, 4, 30, 31, 32, 51, 52, 53], [1, 2, 30, 31, 32]), (89, 26, [1, 69, 70, 71], [1, 2]), (92, 4, [1, 2, 3, 11, 12, 13], [1, 2, 3]), (92, 10, [2, 3, 36, 37, 38], [2, 3]), (93, 4, [1, 2, 3, 6, 9], [3, 6, 7, 8]), (93, 6, [1, 2, 3, 6, 9, 10], [1, 2, 3, 6, 9, 10]), (94, 3, [1, 9, 10, 11], [1, 2]), (94, 9, [1, 21, 22, 23], [2]), (95, 7, [1, 3], [2]), (95, 15, [1, 3, 4, 5], [1, 2, 3]), (96, 5, [1, 3], [1, 2]), (96, 13, [1, 5], [1, 2]), (96, 20, [1, 6], [2]), (97, 5, [1, 3], [2]), (97, 15, [1, 3, 4, 5], [1, 2, 3, 4]), (98, 3, [2, 3, 5], [2, 3, 4]), (98, 8, [2, 3, 6], [4]), (104, 3, [1, 2, 4, 5], [2, 4, 5]), (110, 4, [1, 2, 3, 6, 7, 8], [1, 6, 7]), (111, 4, [0, 3, 4], [3]), (111, 7, [0, 3, 4, 5], [0, 3, 4, 5]), (111, 11, [0, 3, 4, 5, 6], [0, 3, 4, 5]), (118, 5, [2, 4, 7, 8, 19, 20, 21], [4, 5, 6, 7]), (118, 11, [2, 4, 7, 8, 9, 10, 11, 19, 20, 21, 35, 36, 37], [2, 4, 5, 6, 7, 8, 10, 11, 19, 20, 21]), (118, 17, [2, 4, 7, 8, 10, 19, 20, 21, 47, 48, 49], [2, 4, 7, 8, 10, 19, 20, 21]), (122, 3, [0, 1, 5], [4]), (122, 6, [0, 1, 5, 6], [0, 1, 4, 5]), (123, 3, [0, 1, 2, 9, 10, 11], [6]), (126, 3, [0, 1, 7, 8], [4]), (128, 3, [0, 1, 2, 6, 7, 8], [0, 1, 2, 6, 7]), (128, 8, [0, 1, 2, 6], []), (128, 10, [0, 1, 2, 6, 7, 8], [0, 1, 2, 6, 7]), (131, 3, [0, 1, 7, 8], [4]), (132, 4, [1, 2, 4, 5], []), (132, 8, [1, 2, 4, 5, 18, 19], [1, 2, 4, 5]), (132, 13, [1, 2, 4, 5, 30], [1, 2, 4, 5]), (132, 20, [1, 2, 4, 5, 8, 30, 47, 48], [1, 2, 4, 5, 30]), (132, 26, [1, 2, 4, 5, 8, 30, 62, 63], [1, 2, 4, 5, 30]), (151, 2, [0, 1, 2, 3, 8], []), (151, 5, [0, 1, 2, 3, 8, 9], [0, 1, 2, 3, 8]), (152, 4, [0, 1, 4, 10, 11], [0, 1, 10]), (152, 10, [0, 10, 13], []), (152, 16, [0, 2, 4, 14, 15], [0, 2, 14]), (152, 22, [0, 14, 17], []), (152, 34, [0, 1, 2, 3, 4, 18, 19, 20, 21, 22], [0, 1, 2, 3, 4, 18, 19, 20]), (158, 3, [0, 2, 4, 10, 11], [0, 2, 4, 10]), (159, 2, [0, 1, 2, 3, 10], [])]
def upT : List (Nat × Nat × Up) := [(4, 78, .scopes 1), (4, 112, .scopes 0), (11, 62, .box 7), (11, 102, .box 7), (11, 140, .box 7), (13, 6, .scopes 0), (13, 10, .scopes 0), (13, 22, .scopes 0), (19, 56, .scopes 1), (20, 66, .scopes 1), (25, 26, .scopes 1), (25, 43, .scopes 2), (25, 58, .scopes 3), (25, 76, .scopes 3), (29, 105, .scopes 1), (29, 124, .scopes 1), (33, 24, .box 3), (35, 89, .box 10), (38, 87, .scopes 1), (43, 33, .scopes 1), (46, 10, .scopes 0), (46, 16, .scopes 0), (47, 46, .box 5), (47, 83, .box 5), (47, 96, .box 5), (48, 22, .box 3), (48, 27, .box 3), (48, 53, .box 3), (49, 35, .scopes 1), (49, 52, .scopes 1), (50, 6, .scopes 0), (50, 10, .scopes 0), (50, 14, .scopes 0), (56, 5, .scopes 0), (61, 27, .scopes 0), (62, 8, .box 1), (67, 8, .scopes 0), (67, 12, .scopes 0), (67, 18, .scopes 0), (67, 22, .scopes 0), (67, 27, .scopes 0), (72, 23, .scopes 0), (72, 30, .scopes 0), (72, 48, .scopes 0), (72, 58, .scopes 0), (72, 83, .scopes 0), (75, 7, .scopes 0), (77, 31, .scopes 1), (77, 52, .scopes 1), (77, 72, .scopes 1), (80, 80, .scopes 1), (80, 92, .scopes 1), (81, 78, .scopes 0), (81, 87, .scopes 0), (83, 20, .scopes 1), (88, 61, .box 5), (92, 23, .box 3), (92, 31, .box 3), (92, 51, .box 3), (99, 7, .scopes 0), (100, 7, .scopes 0), (101, 7, .scopes 0), (102, 7, .scopes 0), (103, 7, .scopes 0), (109, 26, .scopes 0), (111, 36, .scopes 1), (116, 64, .scopes 0), (134, 27, .scopes 0), (134, 35, .scopes 0), (134, 43, .scopes 0), (134, 53, .scopes 0), (134, 60, .scopes 0)]
def annOf (f r : Nat) : Option (List Nat × List Nat) := (annT.find? fun x => x.1 == f && x.2.1 == r).map fun x => x.2.2
def upOf (f d : Nat) : Up := ((upT.find? fun x => x.1 == f && x.2.1 == d).map fun x => x.2.2).getD (.scopes 0)
def needL : List (Nat × Nat × List (Nat × Nat)) := [(3, 7, [(13, 7), (13, 11)]), (4, 12, [(10, 0), (10, 1), (10, 2)]), (4, 16, [(9, 4)]), (5, 6, [(9, 0), (9, 1), (9, 2), (12, 9), (13, 9), (14, 0), (14, 1), (14, 2), (18, 0), (18, 1), (18, 2)]), (6, 11, [(22, 18)]), (11, 20, [(4, 0)]), (11, 34, [(20, 4)]), (13, 1, [(6, 3)]), (13, 2, [(4, 2), (8, 2), (8, 5)]), (27, 4, [(4, 0)]), (28, 4, [(5, 0)]), (30, 17, [(5, 0), (6, 5), (9, 0), (11, 0)]), (35, 4, [(14, 0), (14, 2), (14, 6), (15, 14), (19, 0), (19, 2), (19, 6), (20, 14), (20, 19), (23, 0), (23, 2), (23, 6)]), (38, 10, [(24, 4)]), (46, 2, [(7, 5)]), (47, 6, [(3, 1), (6, 3), (7, 3), (9, 3)]), (47, 10, [(6, 1), (11, 1), (11, 9), (13, 1), (13, 9)]), (48, 5, [(11, 9)]), (50, 1, [(6, 3), (10, 3), (10, 7)]), (51, 6, [(14, 7), (14, 9)]), (51, 8, [(17, 7)]), (51, 10, [(7, 1), (7, 3), (9, 7), (11, 7), (13, 7), (17, 9), (17, 11), (17, 13)]), (53, 1, [(3, 2), (4, 2)]), (58, 1, [(3, 1)]), (58, 3, [(4, 2), (4, 3)]), (62, 1, [(2, 0)]), (63, 1, [(6, 3), (10, 3), (10, 7)]), (65, 1, [(4, 2), (7, 2), (7, 5), (10, 2), (10, 5), (10, 8)]), (67, 1, [(6, 3)]), (67, 2, [(6, 3)]), (70, 5, [(6, 2)]), (72, 7, [(4, 0), (5, 4)]), (79, 1, [(5, 3), (9, 3), (12, 5), (12, 9)]), (79, 3, [(2, 1), (3, 1)]), (81, 2, [(13, 3)]), (81, 10, [(4, 1), (8, 4), (11, 4), (13, 1)]), (104, 4, [(3, 1)]), (105, 1, [(4, 2), (5, 2)]), (116, 10, [(8, 5), (8, 6), (9, 8), (11, 5), (11, 6), (12, 8), (12, 11)]), (118, 20, [(4, 2), (5, 2)]), (140, 1, [(5, 2), (8, 5), (10, 5), (12, 5)]), (142, 1, [(8, 2), (8, 4), (9, 8), (10, 8), (11, 2), (11, 4)]), (143, 1, [(10, 7)]), (144, 1, [(5, 2)]), (145, 1, [(14, 11), (21, 18), (29, 26), (37, 34)]), (146, 1, [(5, 2)]), (146, 2, [(5, 2)]), (147, 1, [(8, 5)]), (148, 1, [(5, 2)]), (149, 1, [(8, 5)]), (150, 1, [(5, 2)])]
def needT (f r : Nat) : List (Nat × Nat) := ((needL.find? fun x => x.1 == f && x.2.1 == r).map fun x => x.2.2).getD []
def eqsOf : Nat → Option (List SK)
 | 29 => some [.int .i64, .int .i64, .int .i64, .int .i64, .int .i64, .int .i64, .int .i64, .int .i64, .int .i64]
 | 74 => some [.int .i64, .int .i64]
 | 84 => some [.int .i64, .int .i64]
 | 86 => some [.int .i64, .int .i64, .int .i64, .int .i64, .bool]
 | 105 => some [.int .i64, .int .i64]
 | 170 => some [.int .i64, .int .i64]
 | _ => none
@[simp] theorem eqsOf_29 : eqsOf 29 = some [.int .i64, .int .i64, .int .i64, .int .i64, .int .i64, .int .i64, .int .i64, .int .i64, .int .i64] := .trans rfl rfl
@[simp] theorem eqsOf_74 : eqsOf 74 = some [.int .i64, .int .i64] := .trans rfl rfl
@[simp] theorem eqsOf_84 : eqsOf 84 = some [.int .i64, .int .i64] := .trans rfl rfl
@[simp] theorem eqsOf_86 : eqsOf 86 = some [.int .i64, .int .i64, .int .i64, .int .i64, .bool] := .trans rfl rfl
@[simp] theorem eqsOf_105 : eqsOf 105 = some [.int .i64, .int .i64] := .trans rfl rfl
def keepL : List Nat := [13, 12, 47, 48, 50, 63, 92, 45, 46, 99, 100, 101, 102, 103, 75]
def frzL : List Nat := [17, 15, 34, 25, 88, 134, 79, 93, 58, 118, 16, 18, 61, 80, 20, 67, 27, 29, 28, 30, 71, 72, 77, 111, 70, 104, 110, 78, 19, 65, 33, 38, 40, 35, 81, 13]
def borL : List Nat := [48, 9, 14, 57, 60, 23, 39, 21, 22, 31, 49, 53, 89, 64, 73, 66, 95, 96, 97, 68, 44, 36, 84, 85, 87, 112, 113, 76, 94, 115, 69, 120, 121, 122, 130, 82, 74, 105, 153, 154, 135, 137, 139, 141, 143, 145, 147, 149, 131, 155, 156, 157, 98]
def clnL : List Nat := [99, 100, 101, 102, 103, 75]
def ownL : List (Nat × Nat) := [(134, 9), (88, 10), (45, 3), (45, 6), (45, 7), (45, 8), (45, 14), (61, 25)]
def carL : List (Nat × Nat) := [(11, 6)]
def liftOf (f d : Nat) : Option Nat := if f = 11 ∧ d = 54 then some 8 else none
noncomputable def KC0 (cl : List Nat) : Ctx := { P := Tryz.prog, keep := fun f => keepL.contains f, ann := annOf, up := upOf, own := fun f d => ownL.contains (f, d), frz := fun f => frzL.contains f, bor := fun f => borL.contains f, car := fun f r => carL.contains (f, r), cln := fun f => cl.contains f, lift := liftOf, eqs := eqsOf }
noncomputable def KC : Ctx := KC0 clnL
section
@[simp] theorem KC_P : KC.P = Tryz.prog := .trans rfl rfl
@[simp] theorem KC_own {f d : Nat} : KC.own f d = ownL.contains (f, d) := .trans rfl rfl
@[simp] theorem KC_lift {f d : Nat} : KC.lift f d = liftOf f d := .trans rfl rfl
attribute [simp] liftOf ownL
@[simp] theorem KC_ann_3_12 : KC.ann 3 12 = some ([3, 4, 16, 17], [12]) := by kernel_rfl
@[simp] theorem KC_car_3_12 : KC.car 3 12 = false := by kernel_rfl
@[simp] theorem KC_ann_11_6 : KC.ann 11 6 = some ([0, 6, 7, 8, 9, 10], [6, 7, 8, 9]) := by kernel_rfl
@[simp] theorem KC_car_11_6 : KC.car 11 6 = true := by kernel_rfl
@[simp] theorem KC_ann_11_23 : KC.ann 11 23 = some ([6, 7, 8, 9, 18], [6, 7, 8]) := by kernel_rfl
@[simp] theorem KC_car_11_23 : KC.car 11 23 = false := by kernel_rfl
@[simp] theorem KC_ann_11_26 : KC.ann 11 26 = some ([6, 7, 8, 9, 18, 19], [6, 7, 8, 9, 18]) := by kernel_rfl
@[simp] theorem KC_car_11_26 : KC.car 11 26 = false := by kernel_rfl
@[simp] theorem KC_ann_11_33 : KC.ann 11 33 = some ([6, 7, 8, 21], [6, 7]) := by kernel_rfl
@[simp] theorem KC_car_11_33 : KC.car 11 33 = false := by kernel_rfl
@[simp] theorem KC_ann_12_4 : KC.ann 12 4 = some ([0, 3, 4], [3]) := by kernel_rfl
@[simp] theorem KC_car_12_4 : KC.car 12 4 = false := by kernel_rfl
@[simp] theorem KC_ann_19_9 : KC.ann 19 9 = some ([1, 2, 3, 6, 9, 28, 29, 30], [3, 6, 9]) := by kernel_rfl
@[simp] theorem KC_car_19_9 : KC.car 19 9 = false := by kernel_rfl
@[simp] theorem KC_ann_20_10 : KC.ann 20 10 = some ([1, 2, 3, 6, 9, 10, 11], [3, 6, 10]) := by kernel_rfl
@[simp] theorem KC_car_20_10 : KC.car 20 10 = false := by kernel_rfl
@[simp] theorem KC_ann_21_5 : KC.ann 21 5 = some ([2, 3, 5], [2, 3, 4]) := by kernel_rfl
@[simp] theorem KC_car_21_5 : KC.car 21 5 = false := by kernel_rfl
@[simp] theorem KC_ann_21_10 : KC.ann 21 10 = some ([2, 3, 6], [4]) := by kernel_rfl
@[simp] theorem KC_car_21_10 : KC.car 21 10 = false := by kernel_rfl
@[simp] theorem KC_ann_22_5 : KC.ann 22 5 = some ([0, 1, 5], [4]) := by kernel_rfl
@[simp] theorem KC_car_22_5 : KC.car 22 5 = false := by kernel_rfl
@[simp] theorem KC_ann_23_5 : KC.ann 23 5 = some ([2, 3, 5], [2, 3, 4]) := by kernel_rfl
@[simp] theorem KC_car_23_5 : KC.car 23 5 = false := by kernel_rfl
@[simp] theorem KC_ann_23_10 : KC.ann 23 10 = some ([2, 3, 6], [4]) := by kernel_rfl
@[simp] theorem KC_car_23_10 : KC.car 23 10 = false := by kernel_rfl
@[simp] theorem KC_ann_25_4 : KC.ann 25 4 = some ([1, 2, 5, 6], [1, 2, 5]) := by kernel_rfl
@[simp] theorem KC_car_25_4 : KC.car 25 4 = false := by kernel_rfl
@[simp] theorem KC_ann_25_8 : KC.ann 25 8 = some ([1, 2, 5, 7], [5]) := by kernel_rfl
@[simp] theorem KC_car_25_8 : KC.car 25 8 = false := by kernel_rfl
@[simp] theorem KC_ann_25_11 : KC.ann 25 11 = some ([1, 2, 5, 7, 8], [1, 2, 5, 7]) := by kernel_rfl
@[simp] theorem KC_car_25_11 : KC.car 25 11 = false := by kernel_rfl
@[simp] theorem KC_ann_25_18 : KC.ann 25 18 = some ([1, 2, 5, 7, 8, 9, 10], [1, 2, 5, 7, 8]) := by kernel_rfl
@[simp] theorem KC_car_25_18 : KC.car 25 18 = false := by kernel_rfl
@[simp] theorem KC_ann_25_24 : KC.ann 25 24 = some ([1, 2, 5, 7, 8, 9, 11], [1, 2, 5, 7, 8]) := by kernel_rfl
@[simp] theorem KC_car_25_24 : KC.car 25 24 = false := by kernel_rfl
@[simp] theorem KC_ann_31_5 : KC.ann 31 5 = some ([0, 1, 5], [4]) := by kernel_rfl
@[simp] theorem KC_car_31_5 : KC.car 31 5 = false := by kernel_rfl
@[simp] theorem KC_ann_47_5 : KC.ann 47 5 = some ([0, 4, 5, 6, 7], [0, 4, 5]) := by kernel_rfl
@[simp] theorem KC_car_47_5 : KC.car 47 5 = false := by kernel_rfl
@[simp] theorem KC_ann_47_9 : KC.ann 47 9 = some ([0, 4, 5, 8], [0, 4, 5]) := by kernel_rfl
@[simp] theorem KC_car_47_9 : KC.car 47 9 = false := by kernel_rfl
@[simp] theorem KC_ann_47_16 : KC.ann 47 16 = some ([0, 4, 5, 10], [4, 5]) := by kernel_rfl
@[simp] theorem KC_car_47_16 : KC.car 47 16 = false := by kernel_rfl
@[simp] theorem KC_ann_48_4 : KC.ann 48 4 = some ([1, 2, 3, 4], [1, 2, 3]) := by kernel_rfl
@[simp] theorem KC_car_48_4 : KC.car 48 4 = false := by kernel_rfl
@[simp] theorem KC_ann_48_8 : KC.ann 48 8 = some ([1, 2, 3, 5], [2, 3]) := by kernel_rfl
@[simp] theorem KC_car_48_8 : KC.car 48 8 = false := by kernel_rfl
@[simp] theorem KC_ann_49_5 : KC.ann 49 5 = some ([0, 5, 6, 8, 10, 11, 12], [0, 8, 10]) := by kernel_rfl
@[simp] theorem KC_car_49_5 : KC.car 49 5 = false := by kernel_rfl
@[simp] theorem KC_ann_57_8 : KC.ann 57 8 = some ([1, 17, 18, 19], [2]) := by kernel_rfl
@[simp] theorem KC_car_57_8 : KC.car 57 8 = false := by kernel_rfl
@[simp] theorem KC_ann_68_5 : KC.ann 68 5 = some ([0, 1, 5], [4]) := by kernel_rfl
@[simp] theorem KC_car_68_5 : KC.car 68 5 = false := by kernel_rfl
@[simp] theorem KC_ann_80_4 : KC.ann 80 4 = some ([2, 3, 4, 9, 10], [6, 7, 8, 9]) := by kernel_rfl
@[simp] theorem KC_car_80_4 : KC.car 80 4 = false := by kernel_rfl
@[simp] theorem KC_ann_80_6 : KC.ann 80 6 = some ([2, 3, 4, 9, 10, 11], [2, 3, 4, 9, 10, 11]) := by kernel_rfl
@[simp] theorem KC_car_80_6 : KC.car 80 6 = false := by kernel_rfl
@[simp] theorem KC_ann_80_11 : KC.ann 80 11 = some ([2, 3, 4, 9, 11, 12, 13, 14], [2, 3, 4, 6, 7, 8, 9, 11, 12]) := by kernel_rfl
@[simp] theorem KC_car_80_11 : KC.car 80 11 = false := by kernel_rfl
@[simp] theorem KC_ann_80_17 : KC.ann 80 17 = some ([2, 3, 4, 9, 11, 12, 13, 14, 15, 16], [2, 3, 4, 6, 7, 8, 9, 11, 12, 13, 14, 15]) := by kernel_rfl
@[simp] theorem KC_car_80_17 : KC.car 80 17 = false := by kernel_rfl
@[simp] theorem KC_ann_83_4 : KC.ann 83 4 = some ([0, 1, 5, 6], [5]) := by kernel_rfl
@[simp] theorem KC_car_83_4 : KC.car 83 4 = false := by kernel_rfl
@[simp] theorem KC_ann_84_6 : KC.ann 84 6 = some ([3, 4, 5, 9], [3, 4, 5, 6]) := by kernel_rfl
@[simp] theorem KC_car_84_6 : KC.car 84 6 = false := by kernel_rfl
@[simp] theorem KC_ann_85_3 : KC.ann 85 3 = some ([1, 2, 5], [4]) := by kernel_rfl
@[simp] theorem KC_car_85_3 : KC.car 85 3 = false := by kernel_rfl
@[simp] theorem KC_ann_89_10 : KC.ann 89 10 = some ([1, 30, 31, 32], [1, 2]) := by kernel_rfl
@[simp] theorem KC_car_89_10 : KC.car 89 10 = false := by kernel_rfl
@[simp] theorem KC_ann_89_17 : KC.ann 89 17 = some ([1, 4, 30, 31, 32, 51, 52, 53], [1, 2, 30, 31, 32]) := by kernel_rfl
@[simp] theorem KC_car_89_17 : KC.car 89 17 = false := by kernel_rfl
@[simp] theorem KC_ann_89_26 : KC.ann 89 26 = some ([1, 69, 70, 71], [1, 2]) := by kernel_rfl
@[simp] theorem KC_car_89_26 : KC.car 89 26 = false := by kernel_rfl
@[simp] theorem KC_ann_92_4 : KC.ann 92 4 = some ([1, 2, 3, 11, 12, 13], [1, 2, 3]) := by kernel_rfl
@[simp] theorem KC_car_92_4 : KC.car 92 4 = false := by kernel_rfl
@[simp] theorem KC_ann_92_10 : KC.ann 92 10 = some ([2, 3, 36, 37, 38], [2, 3]) := by kernel_rfl
@[simp] theorem KC_car_92_10 : KC.car 92 10 = false := by kernel_rfl
@[simp] theorem KC_ann_93_4 : KC.ann 93 4 = some ([1, 2, 3, 6, 9], [3, 6, 7, 8]) := by kernel_rfl
@[simp] theorem KC_car_93_4 : KC.car 93 4 = false := by kernel_rfl
@[simp] theorem KC_ann_93_6 : KC.ann 93 6 = some ([1, 2, 3, 6, 9, 10], [1, 2, 3, 6, 9, 10]) := by kernel_rfl
@[simp] theorem KC_car_93_6 : KC.car 93 6 = false := by kernel_rfl
@[simp] theorem KC_ann_94_3 : KC.ann 94 3 = some ([1, 9, 10, 11], [1, 2]) := by kernel_rfl
@[simp] theorem KC_car_94_3 : KC.car 94 3 = false := by kernel_rfl
@[simp] theorem KC_ann_94_9 : KC.ann 94 9 = some ([1, 21, 22, 23], [2]) := by kernel_rfl
@[simp] theorem KC_car_94_9 : KC.car 94 9 = false := by kernel_rfl
@[simp] theorem KC_ann_95_7 : KC.ann 95 7 = some ([1, 3], [2]) := by kernel_rfl
@[simp] theorem KC_car_95_7 : KC.car 95 7 = false := by kernel_rfl
@[simp] theorem KC_ann_95_15 : KC.ann 95 15 = some ([1, 3, 4, 5], [1, 2, 3]) := by kernel_rfl
@[simp] theorem KC_car_95_15 : KC.car 95 15 = false := by kernel_rfl
@[simp] theorem KC_ann_96_5 : KC.ann 96 5 = some ([1, 3], [1, 2]) := by kernel_rfl
@[simp] theorem KC_car_96_5 : KC.car 96 5 = false := by kernel_rfl
@[simp] theorem KC_ann_96_13 : KC.ann 96 13 = some ([1, 5], [1, 2]) := by kernel_rfl
@[simp] theorem KC_car_96_13 : KC.car 96 13 = false := by kernel_rfl
@[simp] theorem KC_ann_96_20 : KC.ann 96 20 = some ([1, 6], [2]) := by kernel_rfl
@[simp] theorem KC_car_96_20 : KC.car 96 20 = false := by kernel_rfl
@[simp] theorem KC_ann_97_5 : KC.ann 97 5 = some ([1, 3], [2]) := by kernel_rfl
@[simp] theorem KC_car_97_5 : KC.car 97 5 = false := by kernel_rfl
@[simp] theorem KC_ann_97_15 : KC.ann 97 15 = some ([1, 3, 4, 5], [1, 2, 3, 4]) := by kernel_rfl
@[simp] theorem KC_car_97_15 : KC.car 97 15 = false := by kernel_rfl
@[simp] theorem KC_ann_98_3 : KC.ann 98 3 = some ([2, 3, 5], [2, 3, 4]) := by kernel_rfl
@[simp] theorem KC_car_98_3 : KC.car 98 3 = false := by kernel_rfl
@[simp] theorem KC_ann_98_8 : KC.ann 98 8 = some ([2, 3, 6], [4]) := by kernel_rfl
@[simp] theorem KC_car_98_8 : KC.car 98 8 = false := by kernel_rfl
@[simp] theorem KC_ann_118_5 : KC.ann 118 5 = some ([2, 4, 7, 8, 19, 20, 21], [4, 5, 6, 7]) := by kernel_rfl
@[simp] theorem KC_car_118_5 : KC.car 118 5 = false := by kernel_rfl
@[simp] theorem KC_ann_118_11 : KC.ann 118 11 = some ([2, 4, 7, 8, 9, 10, 11, 19, 20, 21, 35, 36, 37], [2, 4, 5, 6, 7, 8, 10, 11, 19, 20, 21]) := by kernel_rfl
@[simp] theorem KC_car_118_11 : KC.car 118 11 = false := by kernel_rfl
@[simp] theorem KC_ann_118_17 : KC.ann 118 17 = some ([2, 4, 7, 8, 10, 19, 20, 21, 47, 48, 49], [2, 4, 7, 8, 10, 19, 20, 21]) := by kernel_rfl
@[simp] theorem KC_car_118_17 : KC.car 118 17 = false := by kernel_rfl
@[simp] theorem KC_ann_122_3 : KC.ann 122 3 = some ([0, 1, 5], [4]) := by kernel_rfl
@[simp] theorem KC_car_122_3 : KC.car 122 3 = false := by kernel_rfl
@[simp] theorem KC_ann_122_6 : KC.ann 122 6 = some ([0, 1, 5, 6], [0, 1, 4, 5]) := by kernel_rfl
@[simp] theorem KC_car_122_6 : KC.car 122 6 = false := by kernel_rfl
@[simp] theorem KC_ann_123_3 : KC.ann 123 3 = some ([0, 1, 2, 9, 10, 11], [6]) := by kernel_rfl
@[simp] theorem KC_car_123_3 : KC.car 123 3 = false := by kernel_rfl
@[simp] theorem KC_ann_126_3 : KC.ann 126 3 = some ([0, 1, 7, 8], [4]) := by kernel_rfl
@[simp] theorem KC_car_126_3 : KC.car 126 3 = false := by kernel_rfl
@[simp] theorem KC_ann_131_3 : KC.ann 131 3 = some ([0, 1, 7, 8], [4]) := by kernel_rfl
@[simp] theorem KC_car_131_3 : KC.car 131 3 = false := by kernel_rfl
@[simp] theorem KC_up_11_62 : KC.up 11 62 = .box 7 := by kernel_rfl
@[simp] theorem KC_up_11_102 : KC.up 11 102 = .box 7 := by kernel_rfl
@[simp] theorem KC_up_11_140 : KC.up 11 140 = .box 7 := by kernel_rfl
@[simp] theorem KC_up_13_6 : KC.up 13 6 = .scopes 0 := by kernel_rfl
@[simp] theorem KC_up_13_10 : KC.up 13 10 = .scopes 0 := by kernel_rfl
@[simp] theorem KC_up_13_22 : KC.up 13 22 = .scopes 0 := by kernel_rfl
@[simp] theorem KC_up_19_56 : KC.up 19 56 = .scopes 1 := by kernel_rfl
@[simp] theorem KC_up_20_66 : KC.up 20 66 = .scopes 1 := by kernel_rfl
@[simp] theorem KC_up_25_26 : KC.up 25 26 = .scopes 1 := by kernel_rfl
@[simp] theorem KC_up_25_43 : KC.up 25 43 = .scopes 2 := by kernel_rfl
@[simp] theorem KC_up_25_58 : KC.up 25 58 = .scopes 3 := by kernel_rfl
@[simp] theorem KC_up_25_76 : KC.up 25 76 = .scopes 3 := by kernel_rfl
@[simp] theorem KC_up_47_46 : KC.up 47 46 = .box 5 := by kernel_rfl
@[simp] theorem KC_up_47_83 : KC.up 47 83 = .box 5 := by kernel_rfl
@[simp] theorem KC_up_47_96 : KC.up 47 96 = .box 5 := by kernel_rfl
@[simp] theorem KC_up_48_22 : KC.up 48 22 = .box 3 := by kernel_rfl
@[simp] theorem KC_up_48_27 : KC.up 48 27 = .box 3 := by kernel_rfl
@[simp] theorem KC_up_48_53 : KC.up 48 53 = .box 3 := by kernel_rfl
@[simp] theorem KC_up_49_35 : KC.up 49 35 = .scopes 1 := by kernel_rfl
@[simp] theorem KC_up_49_52 : KC.up 49 52 = .scopes 1 := by kernel_rfl
@[simp] theorem KC_up_50_6 : KC.up 50 6 = .scopes 0 := by kernel_rfl
@[simp] theorem KC_up_50_10 : KC.up 50 10 = .scopes 0 := by kernel_rfl
@[simp] theorem KC_up_50_14 : KC.up 50 14 = .scopes 0 := by kernel_rfl
@[simp] theorem KC_up_56_5 : KC.up 56 5 = .scopes 0 := by kernel_rfl
@[simp] theorem KC_up_61_27 : KC.up 61 27 = .scopes 0 := by kernel_rfl
@[simp] theorem KC_up_62_8 : KC.up 62 8 = .box 1 := by kernel_rfl
@[simp] theorem KC_up_67_8 : KC.up 67 8 = .scopes 0 := by kernel_rfl
@[simp] theorem KC_up_67_12 : KC.up 67 12 = .scopes 0 := by kernel_rfl
@[simp] theorem KC_up_67_18 : KC.up 67 18 = .scopes 0 := by kernel_rfl
@[simp] theorem KC_up_67_22 : KC.up 67 22 = .scopes 0 := by kernel_rfl
@[simp] theorem KC_up_67_27 : KC.up 67 27 = .scopes 0 := by kernel_rfl
@[simp] theorem KC_up_75_7 : KC.up 75 7 = .scopes 0 := by kernel_rfl
@[simp] theorem KC_up_80_80 : KC.up 80 80 = .scopes 1 := by kernel_rfl
@[simp] theorem KC_up_80_92 : KC.up 80 92 = .scopes 1 := by kernel_rfl
@[simp] theorem KC_up_83_20 : KC.up 83 20 = .scopes 1 := by kernel_rfl
@[simp] theorem KC_up_88_61 : KC.up 88 61 = .box 5 := by kernel_rfl
@[simp] theorem KC_up_92_23 : KC.up 92 23 = .box 3 := by kernel_rfl
@[simp] theorem KC_up_92_31 : KC.up 92 31 = .box 3 := by kernel_rfl
@[simp] theorem KC_up_92_51 : KC.up 92 51 = .box 3 := by kernel_rfl
@[simp] theorem KC_up_99_7 : KC.up 99 7 = .scopes 0 := by kernel_rfl
@[simp] theorem KC_up_100_7 : KC.up 100 7 = .scopes 0 := by kernel_rfl
@[simp] theorem KC_up_101_7 : KC.up 101 7 = .scopes 0 := by kernel_rfl
@[simp] theorem KC_up_102_7 : KC.up 102 7 = .scopes 0 := by kernel_rfl
@[simp] theorem KC_up_103_7 : KC.up 103 7 = .scopes 0 := by kernel_rfl
@[simp] theorem KC_up_134_27 : KC.up 134 27 = .scopes 0 := by kernel_rfl
@[simp] theorem KC_up_134_35 : KC.up 134 35 = .scopes 0 := by kernel_rfl
@[simp] theorem KC_up_134_43 : KC.up 134 43 = .scopes 0 := by kernel_rfl
@[simp] theorem KC_up_134_53 : KC.up 134 53 = .scopes 0 := by kernel_rfl
@[simp] theorem KC_up_134_60 : KC.up 134 60 = .scopes 0 := by kernel_rfl
@[simp] theorem need_3_7 : needT 3 7 = [(13, 7), (13, 11)] := by kernel_rfl
@[simp] theorem need_3_20 : needT 3 20 = [] := by kernel_rfl
@[simp] theorem need_11_20 : needT 11 20 = [(4, 0)] := by kernel_rfl
@[simp] theorem need_11_34 : needT 11 34 = [(20, 4)] := by kernel_rfl
@[simp] theorem need_12_5 : needT 12 5 = [] := by kernel_rfl
@[simp] theorem need_13_1 : needT 13 1 = [(6, 3)] := by kernel_rfl
@[simp] theorem need_13_2 : needT 13 2 = [(4, 2), (8, 2), (8, 5)] := by kernel_rfl
@[simp] theorem need_20_12 : needT 20 12 = [] := by kernel_rfl
@[simp] theorem need_21_6 : needT 21 6 = [] := by kernel_rfl
@[simp] theorem need_21_11 : needT 21 11 = [] := by kernel_rfl
@[simp] theorem need_22_6 : needT 22 6 = [] := by kernel_rfl
@[simp] theorem need_23_6 : needT 23 6 = [] := by kernel_rfl
@[simp] theorem need_23_11 : needT 23 11 = [] := by kernel_rfl
@[simp] theorem need_31_6 : needT 31 6 = [] := by kernel_rfl
@[simp] theorem need_47_6 : needT 47 6 = [(3, 1), (6, 3), (7, 3), (9, 3)] := by kernel_rfl
@[simp] theorem need_47_10 : needT 47 10 = [(6, 1), (11, 1), (11, 9), (13, 1), (13, 9)] := by kernel_rfl
@[simp] theorem need_48_5 : needT 48 5 = [(11, 9)] := by kernel_rfl
@[simp] theorem need_48_9 : needT 48 9 = [] := by kernel_rfl
@[simp] theorem need_49_6 : needT 49 6 = [] := by kernel_rfl
@[simp] theorem need_49_9 : needT 49 9 = [] := by kernel_rfl
@[simp] theorem need_50_1 : needT 50 1 = [(6, 3), (10, 3), (10, 7)] := by kernel_rfl
@[simp] theorem need_51_1 : needT 51 1 = [] := by kernel_rfl
@[simp] theorem need_51_6 : needT 51 6 = [(14, 7), (14, 9)] := by kernel_rfl
@[simp] theorem need_51_8 : needT 51 8 = [(17, 7)] := by kernel_rfl
@[simp] theorem need_51_10 : needT 51 10 = [(7, 1), (7, 3), (9, 7), (11, 7), (13, 7), (17, 9), (17, 11), (17, 13)] := by kernel_rfl
@[simp] theorem need_53_1 : needT 53 1 = [(3, 2), (4, 2)] := by kernel_rfl
@[simp] theorem need_57_11 : needT 57 11 = [] := by kernel_rfl
@[simp] theorem need_58_1 : needT 58 1 = [(3, 1)] := by kernel_rfl
@[simp] theorem need_58_3 : needT 58 3 = [(4, 2), (4, 3)] := by kernel_rfl
@[simp] theorem need_61_6 : needT 61 6 = [] := by kernel_rfl
@[simp] theorem need_61_7 : needT 61 7 = [] := by kernel_rfl
@[simp] theorem need_62_1 : needT 62 1 = [(2, 0)] := by kernel_rfl
@[simp] theorem need_63_1 : needT 63 1 = [(6, 3), (10, 3), (10, 7)] := by kernel_rfl
@[simp] theorem need_65_1 : needT 65 1 = [(4, 2), (7, 2), (7, 5), (10, 2), (10, 5), (10, 8)] := by kernel_rfl
@[simp] theorem need_67_1 : needT 67 1 = [(6, 3)] := by kernel_rfl
@[simp] theorem need_67_2 : needT 67 2 = [(6, 3)] := by kernel_rfl
@[simp] theorem need_68_6 : needT 68 6 = [] := by kernel_rfl
@[simp] theorem need_73_1 : needT 73 1 = [] := by kernel_rfl
@[simp] theorem need_80_5 : needT 80 5 = [] := by kernel_rfl
@[simp] theorem need_80_12 : needT 80 12 = [] := by kernel_rfl
@[simp] theorem need_80_14 : needT 80 14 = [] := by kernel_rfl
@[simp] theorem need_80_18 : needT 80 18 = [] := by kernel_rfl
@[simp] theorem need_80_21 : needT 80 21 = [] := by kernel_rfl
@[simp] theorem need_83_7 : needT 83 7 = [] := by kernel_rfl
@[simp] theorem need_84_1 : needT 84 1 = [] := by kernel_rfl
@[simp] theorem need_84_7 : needT 84 7 = [] := by kernel_rfl
@[simp] theorem need_84_9 : needT 84 9 = [] := by kernel_rfl
@[simp] theorem need_84_11 : needT 84 11 = [] := by kernel_rfl
@[simp] theorem need_84_15 : needT 84 15 = [] := by kernel_rfl
@[simp] theorem need_86_3 : needT 86 3 = [] := by kernel_rfl
@[simp] theorem need_86_4 : needT 86 4 = [] := by kernel_rfl
@[simp] theorem need_88_2 : needT 88 2 = [] := by kernel_rfl
@[simp] theorem need_88_6 : needT 88 6 = [] := by kernel_rfl
@[simp] theorem need_93_5 : needT 93 5 = [] := by kernel_rfl
@[simp] theorem need_93_7 : needT 93 7 = [] := by kernel_rfl
@[simp] theorem need_94_10 : needT 94 10 = [] := by kernel_rfl
@[simp] theorem need_95_16 : needT 95 16 = [] := by kernel_rfl
@[simp] theorem need_96_14 : needT 96 14 = [] := by kernel_rfl
@[simp] theorem need_96_16 : needT 96 16 = [] := by kernel_rfl
@[simp] theorem need_96_23 : needT 96 23 = [] := by kernel_rfl
@[simp] theorem need_97_9 : needT 97 9 = [] := by kernel_rfl
@[simp] theorem need_97_16 : needT 97 16 = [] := by kernel_rfl
@[simp] theorem need_98_9 : needT 98 9 = [] := by kernel_rfl
@[simp] theorem need_105_1 : needT 105 1 = [(4, 2), (5, 2)] := by kernel_rfl
@[simp] theorem need_118_20 : needT 118 20 = [(4, 2), (5, 2)] := by kernel_rfl
@[simp] theorem need_120_1 : needT 120 1 = [] := by kernel_rfl
@[simp] theorem need_122_7 : needT 122 7 = [] := by kernel_rfl
@[simp] theorem need_134_4 : needT 134 4 = [] := by kernel_rfl
@[simp] theorem need_135_1 : needT 135 1 = [] := by kernel_rfl
@[simp] theorem need_137_1 : needT 137 1 = [] := by kernel_rfl
@[simp] theorem need_138_1 : needT 138 1 = [] := by kernel_rfl
@[simp] theorem need_140_1 : needT 140 1 = [(5, 2), (8, 5), (10, 5), (12, 5)] := by kernel_rfl
@[simp] theorem need_140_2 : needT 140 2 = [] := by kernel_rfl
@[simp] theorem need_141_1 : needT 141 1 = [] := by kernel_rfl
@[simp] theorem need_142_1 : needT 142 1 = [(8, 2), (8, 4), (9, 8), (10, 8), (11, 2), (11, 4)] := by kernel_rfl
@[simp] theorem need_142_2 : needT 142 2 = [] := by kernel_rfl
@[simp] theorem need_143_1 : needT 143 1 = [(10, 7)] := by kernel_rfl
@[simp] theorem need_144_1 : needT 144 1 = [(5, 2)] := by kernel_rfl
@[simp] theorem need_145_1 : needT 145 1 = [(14, 11), (21, 18), (29, 26), (37, 34)] := by kernel_rfl
@[simp] theorem need_146_1 : needT 146 1 = [(5, 2)] := by kernel_rfl
@[simp] theorem need_146_2 : needT 146 2 = [(5, 2)] := by kernel_rfl
@[simp] theorem need_147_1 : needT 147 1 = [(8, 5)] := by kernel_rfl
@[simp] theorem need_148_1 : needT 148 1 = [(5, 2)] := by kernel_rfl
@[simp] theorem need_149_1 : needT 149 1 = [(8, 5)] := by kernel_rfl
@[simp] theorem need_150_1 : needT 150 1 = [(5, 2)] := by kernel_rfl
@[simp] theorem need_153_1 : needT 153 1 = [] := by kernel_rfl
@[simp] theorem need_154_1 : needT 154 1 = [] := by kernel_rfl
@[simp] theorem need_155_1 : needT 155 1 = [] := by kernel_rfl
@[simp] theorem KC_eqs {t : Nat} : KC.eqs t = eqsOf t := .trans rfl rfl
@[simp] theorem ty_keyK170 (x0 x1 : Int) : keyFitsK KC 170 (.agg [.int .i64 x0, .int .i64 x1]) = true := by kernel_rfl
end
@[simp] theorem ty_agg3 : tagg Tryz.prog 3 = some false := by kernel_rfl
@[simp] theorem ty_size3 : tsize Tryz.prog 3 = some 1 := by kernel_rfl
@[simp] theorem ty_agg4 : tagg Tryz.prog 4 = some false := by kernel_rfl
@[simp] theorem ty_size4 : tsize Tryz.prog 4 = some 1 := by kernel_rfl
@[simp] theorem ty_agg22 : tagg Tryz.prog 22 = some false := by kernel_rfl
@[simp] theorem ty_size22 : tsize Tryz.prog 22 = some 1 := by kernel_rfl
@[simp] theorem ty_elem22 : telemS Tryz.prog 22 = some (some 2) := by kernel_rfl
@[simp] theorem ty_arr22 : tarrS Tryz.prog 22 = none := by kernel_rfl
@[simp] theorem ty_app22 : tapp Tryz.prog 22 = some ((some 2), (some 16), (some 2)) := by kernel_rfl
@[simp] theorem ty_lit22 : tlit Tryz.prog 22 = some ((some 2), (some [(.pure (.int .i64 0)), (.pure (.int .i64 0))])) := by kernel_rfl
@[simp] theorem ty_spread22 : spreads Tryz.prog (some 22) = true := by kernel_rfl
@[simp] theorem ty_agg23 : tagg Tryz.prog 23 = some false := by kernel_rfl
@[simp] theorem ty_size23 : tsize Tryz.prog 23 = some 1 := by kernel_rfl
@[simp] theorem ty_elem23 : telemS Tryz.prog 23 = some (some 5) := by kernel_rfl
@[simp] theorem ty_arr23 : tarrS Tryz.prog 23 = none := by kernel_rfl
@[simp] theorem ty_app23 : tapp Tryz.prog 23 = some ((some 5), (some 40), (some 5)) := by kernel_rfl
@[simp] theorem ty_lit23 : tlit Tryz.prog 23 = some ((some 5), (some [(.pure (.int .i64 0)), (.pure (.int .i64 0)), (.pure (.int .i64 0)), (.pure (.int .i64 0)), (.pure (.bool false))])) := by kernel_rfl
@[simp] theorem ty_spread23 : spreads Tryz.prog (some 23) = true := by kernel_rfl
@[simp] theorem ty_agg24 : tagg Tryz.prog 24 = some false := by kernel_rfl
@[simp] theorem ty_size24 : tsize Tryz.prog 24 = some 1 := by kernel_rfl
@[simp] theorem ty_elem24 : telemS Tryz.prog 24 = some (some 1) := by kernel_rfl
@[simp] theorem ty_arr24 : tarrS Tryz.prog 24 = none := by kernel_rfl
@[simp] theorem ty_app24 : tapp Tryz.prog 24 = some ((some 1), (some 8), (some 1)) := by kernel_rfl
@[simp] theorem ty_lit24 : tlit Tryz.prog 24 = some ((some 1), (some [(.pure (.int .i64 0))])) := by kernel_rfl
@[simp] theorem ty_spread24 : spreads Tryz.prog (some 24) = true := by kernel_rfl
@[simp] theorem ty_agg25 : tagg Tryz.prog 25 = some false := by kernel_rfl
@[simp] theorem ty_size25 : tsize Tryz.prog 25 = some 1 := by kernel_rfl
@[simp] theorem ty_elem25 : telemS Tryz.prog 25 = some (some 9) := by kernel_rfl
@[simp] theorem ty_arr25 : tarrS Tryz.prog 25 = none := by kernel_rfl
@[simp] theorem ty_app25 : tapp Tryz.prog 25 = some ((some 9), (some 72), (some 9)) := by kernel_rfl
@[simp] theorem ty_lit25 : tlit Tryz.prog 25 = some ((some 9), (some [(.pure (.int .i64 0)), (.pure (.int .i64 0)), (.pure (.int .i64 0)), (.pure (.int .i64 0)), (.pure (.int .i64 0)), (.pure (.int .i64 0)), (.pure (.int .i64 0)), (.pure (.int .i64 0)), (.pure (.int .i64 0))])) := by kernel_rfl
@[simp] theorem ty_spread25 : spreads Tryz.prog (some 25) = true := by kernel_rfl
@[simp] theorem ty_agg27 : tagg Tryz.prog 27 = some true := by kernel_rfl
@[simp] theorem ty_size27 : tsize Tryz.prog 27 = some 7 := by kernel_rfl
@[simp] theorem ty_zero27 : tzero Tryz.prog 27 = some (.agg [(.pure (.int .i64 0)), (.pure (.int .i64 0)), .nils, .nils, .nils, .nils, .nils]) := by kernel_rfl
@[simp] theorem ty_arr27 : tarrS Tryz.prog 27 = none := by kernel_rfl
@[simp] theorem ty_places27 : tplaces Tryz.prog 27 = some [(0, 1), (1, 1), (2, 1), (3, 1), (4, 1), (5, 1), (6, 1)] := by kernel_rfl
@[simp] theorem ty_agg29 : tagg Tryz.prog 29 = some true := by kernel_rfl
@[simp] theorem ty_size29 : tsize Tryz.prog 29 = some 9 := by kernel_rfl
@[simp] theorem ty_zero29 : tzero Tryz.prog 29 = some (.pure (.agg [(.int .i64 0), (.int .i64 0), (.int .i64 0), (.int .i64 0), (.int .i64 0), (.int .i64 0), (.int .i64 0), (.int .i64 0), (.int .i64 0)])) := by kernel_rfl
@[simp] theorem ty_arr29 : tarrS Tryz.prog 29 = none := by kernel_rfl
@[simp] theorem ty_places29 : tplaces Tryz.prog 29 = some [(0, 1), (1, 1), (2, 1), (3, 1), (4, 1), (5, 1), (6, 1), (7, 1), (8, 1)] := by kernel_rfl
@[simp] theorem ty_elem37 : telemS Tryz.prog 37 = some (some 7) := by kernel_rfl
@[simp] theorem ty_arr37 : tarrS Tryz.prog 37 = none := by kernel_rfl
@[simp] theorem ty_lit37 : tlit Tryz.prog 37 = some ((some 7), (some [(.pure (.int .i64 0)), (.pure (.int .i64 0)), .nils, .nils, .nils, .nils, .nils])) := by kernel_rfl
@[simp] theorem ty_agg38 : tagg Tryz.prog 38 = some false := by kernel_rfl
@[simp] theorem ty_size38 : tsize Tryz.prog 38 = some 1 := by kernel_rfl
@[simp] theorem ty_elem38 : telemS Tryz.prog 38 = some (some 2) := by kernel_rfl
@[simp] theorem ty_arr38 : tarrS Tryz.prog 38 = none := by kernel_rfl
@[simp] theorem ty_app38 : tapp Tryz.prog 38 = some ((some 2), (some 16), (some 2)) := by kernel_rfl
@[simp] theorem ty_lit38 : tlit Tryz.prog 38 = some ((some 2), (some [(.pure (.int .i64 0)), (.pure (.int .i64 0))])) := by kernel_rfl
@[simp] theorem ty_spread38 : spreads Tryz.prog (some 38) = true := by kernel_rfl
@[simp] theorem ty_agg39 : tagg Tryz.prog 39 = some false := by kernel_rfl
@[simp] theorem ty_size39 : tsize Tryz.prog 39 = some 1 := by kernel_rfl
@[simp] theorem ty_elem39 : telemS Tryz.prog 39 = some (some 2) := by kernel_rfl
@[simp] theorem ty_arr39 : tarrS Tryz.prog 39 = none := by kernel_rfl
@[simp] theorem ty_app39 : tapp Tryz.prog 39 = some ((some 2), (some 16), (some 2)) := by kernel_rfl
@[simp] theorem ty_lit39 : tlit Tryz.prog 39 = some ((some 2), (some [(.pure (.int .i64 0)), (.pure (.int .i64 0))])) := by kernel_rfl
@[simp] theorem ty_spread39 : spreads Tryz.prog (some 39) = true := by kernel_rfl
@[simp] theorem ty_agg41 : tagg Tryz.prog 41 = some true := by kernel_rfl
@[simp] theorem ty_size41 : tsize Tryz.prog 41 = some 3 := by kernel_rfl
@[simp] theorem ty_zero41 : tzero Tryz.prog 41 = some (.agg [.nils, .nils, .nils]) := by kernel_rfl
@[simp] theorem ty_arr41 : tarrS Tryz.prog 41 = none := by kernel_rfl
@[simp] theorem ty_places41 : tplaces Tryz.prog 41 = some [(0, 1), (1, 1), (2, 1)] := by kernel_rfl
@[simp] theorem ty_agg45 : tagg Tryz.prog 45 = some false := by kernel_rfl
@[simp] theorem ty_size45 : tsize Tryz.prog 45 = some 1 := by kernel_rfl
@[simp] theorem ty_zero45 : tzero Tryz.prog 45 = some .nils := by kernel_rfl
@[simp] theorem ty_elem45 : telemS Tryz.prog 45 = some (some 3) := by kernel_rfl
@[simp] theorem ty_arr45 : tarrS Tryz.prog 45 = none := by kernel_rfl
@[simp] theorem ty_app45 : tapp Tryz.prog 45 = some ((some 3), (some 72), (some 3)) := by kernel_rfl
@[simp] theorem ty_lit45 : tlit Tryz.prog 45 = some ((some 3), (some [.nils, .nils, .nils])) := by kernel_rfl
@[simp] theorem ty_spread45 : spreads Tryz.prog (some 45) = true := by kernel_rfl
@[simp] theorem ty_agg74 : tagg Tryz.prog 74 = some true := by kernel_rfl
@[simp] theorem ty_size74 : tsize Tryz.prog 74 = some 2 := by kernel_rfl
@[simp] theorem ty_zero74 : tzero Tryz.prog 74 = some (.pure (.agg [(.int .i64 0), (.int .i64 0)])) := by kernel_rfl
@[simp] theorem ty_arr74 : tarrS Tryz.prog 74 = none := by kernel_rfl
@[simp] theorem ty_places74 : tplaces Tryz.prog 74 = some [(0, 1), (1, 1)] := by kernel_rfl
@[simp] theorem ty_agg84 : tagg Tryz.prog 84 = some true := by kernel_rfl
@[simp] theorem ty_size84 : tsize Tryz.prog 84 = some 2 := by kernel_rfl
@[simp] theorem ty_zero84 : tzero Tryz.prog 84 = some (.pure (.agg [(.int .i64 0), (.int .i64 0)])) := by kernel_rfl
@[simp] theorem ty_arr84 : tarrS Tryz.prog 84 = some (2, (some 1), (some false)) := by kernel_rfl
@[simp] theorem ty_agg86 : tagg Tryz.prog 86 = some true := by kernel_rfl
@[simp] theorem ty_size86 : tsize Tryz.prog 86 = some 5 := by kernel_rfl
@[simp] theorem ty_zero86 : tzero Tryz.prog 86 = some (.pure (.agg [(.int .i64 0), (.int .i64 0), (.int .i64 0), (.int .i64 0), (.bool false)])) := by kernel_rfl
@[simp] theorem ty_arr86 : tarrS Tryz.prog 86 = none := by kernel_rfl
@[simp] theorem ty_places86 : tplaces Tryz.prog 86 = some [(0, 1), (1, 1), (2, 1), (3, 1), (4, 1)] := by kernel_rfl
@[simp] theorem ty_agg87 : tagg Tryz.prog 87 = some false := by kernel_rfl
@[simp] theorem ty_size87 : tsize Tryz.prog 87 = some 1 := by kernel_rfl
@[simp] theorem ty_zero89 : tzero Tryz.prog 89 = some (.pure (.agg [(.int .u64 0)])) := by kernel_rfl
@[simp] theorem ty_arr89 : tarrS Tryz.prog 89 = none := by kernel_rfl
@[simp] theorem ty_places89 : tplaces Tryz.prog 89 = some [(0, 1)] := by kernel_rfl
@[simp] theorem ty_agg94 : tagg Tryz.prog 94 = some true := by kernel_rfl
@[simp] theorem ty_size94 : tsize Tryz.prog 94 = some 10 := by kernel_rfl
@[simp] theorem ty_zero94 : tzero Tryz.prog 94 = some (.agg [(.pure (.int .i64 0)), (.pure (.int .i64 0)), .nils, .nils, .nils, .nils, .nils, .nils, .nils, .nils]) := by kernel_rfl
@[simp] theorem ty_arr94 : tarrS Tryz.prog 94 = none := by kernel_rfl
@[simp] theorem ty_places94 : tplaces Tryz.prog 94 = some [(0, 7), (7, 3)] := by kernel_rfl
@[simp] theorem ty_agg105 : tagg Tryz.prog 105 = some true := by kernel_rfl
@[simp] theorem ty_size105 : tsize Tryz.prog 105 = some 2 := by kernel_rfl
@[simp] theorem ty_zero105 : tzero Tryz.prog 105 = some (.pure (.agg [(.int .i64 0), (.int .i64 0)])) := by kernel_rfl
@[simp] theorem ty_arr105 : tarrS Tryz.prog 105 = none := by kernel_rfl
@[simp] theorem ty_places105 : tplaces Tryz.prog 105 = some [(0, 1), (1, 1)] := by kernel_rfl
@[simp] theorem ty_agg130 : tagg Tryz.prog 130 = some true := by kernel_rfl
@[simp] theorem ty_size130 : tsize Tryz.prog 130 = some 3 := by kernel_rfl
@[simp] theorem ty_zero130 : tzero Tryz.prog 130 = some (.agg [.nils, .nils, .nils]) := by kernel_rfl
@[simp] theorem ty_arr130 : tarrS Tryz.prog 130 = none := by kernel_rfl
@[simp] theorem ty_places130 : tplaces Tryz.prog 130 = some [(0, 1), (1, 1), (2, 1)] := by kernel_rfl
@[simp] theorem ty_elem152 : telemS Tryz.prog 152 = some (some 3) := by kernel_rfl
@[simp] theorem ty_arr152 : tarrS Tryz.prog 152 = none := by kernel_rfl
@[simp] theorem ty_app152 : tapp Tryz.prog 152 = some ((some 3), (some 72), (some 3)) := by kernel_rfl
@[simp] theorem ty_lit152 : tlit Tryz.prog 152 = some ((some 3), (some [.nils, .nils, .nils])) := by kernel_rfl
@[simp] theorem ty_spread152 : spreads Tryz.prog (some 152) = true := by kernel_rfl
@[simp] theorem ty_agg161 : tagg Tryz.prog 161 = some true := by kernel_rfl
@[simp] theorem ty_size161 : tsize Tryz.prog 161 = some 2 := by kernel_rfl
@[simp] theorem ty_zero161 : tzero Tryz.prog 161 = some (.pure (.agg [.nilf, .nilf])) := by kernel_rfl
@[simp] theorem ty_arr161 : tarrS Tryz.prog 161 = none := by kernel_rfl
@[simp] theorem ty_places161 : tplaces Tryz.prog 161 = some [(0, 1), (1, 1)] := by kernel_rfl
@[simp] theorem ty_mz166 : tmz Tryz.prog 166 = some (170, (some (.pure (.bool false)))) := by kernel_rfl
@[simp] theorem ty_map166 : tmap Tryz.prog 166 = some (170, 4) := by kernel_rfl
@[simp] theorem ty_elem167 : telemS Tryz.prog 167 = some (some 2) := by kernel_rfl
@[simp] theorem ty_arr167 : tarrS Tryz.prog 167 = none := by kernel_rfl
@[simp] theorem ty_app167 : tapp Tryz.prog 167 = some ((some 2), (some 16), (some 2)) := by kernel_rfl
@[simp] theorem ty_lit167 : tlit Tryz.prog 167 = some ((some 2), (some [(.pure (.int .i64 0)), (.pure (.int .i64 0))])) := by kernel_rfl
@[simp] theorem ty_spread167 : spreads Tryz.prog (some 167) = true := by kernel_rfl
@[simp] theorem ty_agg170 : tagg Tryz.prog 170 = some true := by kernel_rfl
@[simp] theorem ty_size170 : tsize Tryz.prog 170 = some 2 := by kernel_rfl
@[simp] theorem ty_zero170 : tzero Tryz.prog 170 = some (.pure (.agg [(.int .i64 0), (.int .i64 0)])) := by kernel_rfl
@[simp] theorem ty_arr170 : tarrS Tryz.prog 170 = none := by kernel_rfl
@[simp] theorem ty_places170 : tplaces Tryz.prog 170 = some [(0, 1), (1, 1)] := by kernel_rfl
@[simp] theorem ty_size172 : tsize Tryz.prog 172 = some 18 := by kernel_rfl
@[simp] theorem ty_zero172 : tzero Tryz.prog 172 = some (.pure (.agg [.nilf, .nilf, .nilf, .nilf, .nilf, .nilf, .nilf, .nilf, .nilf, .nilf, .nilf, .nilf, .nilf, .nilf, .nilf, .nilf, .nilf, .nilf])) := by kernel_rfl
@[simp] theorem ty_arr172 : tarrS Tryz.prog 172 = some (9, (some 2), (some true)) := by kernel_rfl
@[simp] theorem ty_fs27_0 : tfs Tryz.prog 27 0 = some (0, (some 1)) := by kernel_rfl
@[simp] theorem ty_fs27_1 : tfs Tryz.prog 27 1 = some (1, (some 1)) := by kernel_rfl
@[simp] theorem ty_fs27_2 : tfs Tryz.prog 27 2 = some (2, (some 1)) := by kernel_rfl
@[simp] theorem ty_fs27_3 : tfs Tryz.prog 27 3 = some (3, (some 1)) := by kernel_rfl
@[simp] theorem ty_fs27_4 : tfs Tryz.prog 27 4 = some (4, (some 1)) := by kernel_rfl
@[simp] theorem ty_fs27_5 : tfs Tryz.prog 27 5 = some (5, (some 1)) := by kernel_rfl
@[simp] theorem ty_fs27_6 : tfs Tryz.prog 27 6 = some (6, (some 1)) := by kernel_rfl
@[simp] theorem ty_fs29_0 : tfs Tryz.prog 29 0 = some (0, (some 1)) := by kernel_rfl
@[simp] theorem ty_fs29_1 : tfs Tryz.prog 29 1 = some (1, (some 1)) := by kernel_rfl
@[simp] theorem ty_fs29_2 : tfs Tryz.prog 29 2 = some (2, (some 1)) := by kernel_rfl
@[simp] theorem ty_fs29_3 : tfs Tryz.prog 29 3 = some (3, (some 1)) := by kernel_rfl
@[simp] theorem ty_fs29_4 : tfs Tryz.prog 29 4 = some (4, (some 1)) := by kernel_rfl
@[simp] theorem ty_fs29_5 : tfs Tryz.prog 29 5 = some (5, (some 1)) := by kernel_rfl
@[simp] theorem ty_fs29_6 : tfs Tryz.prog 29 6 = some (6, (some 1)) := by kernel_rfl
@[simp] theorem ty_fs29_7 : tfs Tryz.prog 29 7 = some (7, (some 1)) := by kernel_rfl
@[simp] theorem ty_fs29_8 : tfs Tryz.prog 29 8 = some (8, (some 1)) := by kernel_rfl
@[simp] theorem ty_fs41_0 : tfs Tryz.prog 41 0 = some (0, (some 1)) := by kernel_rfl
@[simp] theorem ty_fs41_1 : tfs Tryz.prog 41 1 = some (1, (some 1)) := by kernel_rfl
@[simp] theorem ty_fs41_2 : tfs Tryz.prog 41 2 = some (2, (some 1)) := by kernel_rfl
@[simp] theorem ty_fs74_0 : tfs Tryz.prog 74 0 = some (0, (some 1)) := by kernel_rfl
@[simp] theorem ty_fs74_1 : tfs Tryz.prog 74 1 = some (1, (some 1)) := by kernel_rfl
@[simp] theorem ty_fs86_0 : tfs Tryz.prog 86 0 = some (0, (some 1)) := by kernel_rfl
@[simp] theorem ty_fs86_1 : tfs Tryz.prog 86 1 = some (1, (some 1)) := by kernel_rfl
@[simp] theorem ty_fs86_2 : tfs Tryz.prog 86 2 = some (2, (some 1)) := by kernel_rfl
@[simp] theorem ty_fs86_3 : tfs Tryz.prog 86 3 = some (3, (some 1)) := by kernel_rfl
@[simp] theorem ty_fs86_4 : tfs Tryz.prog 86 4 = some (4, (some 1)) := by kernel_rfl
@[simp] theorem ty_fs89_0 : tfs Tryz.prog 89 0 = some (0, (some 1)) := by kernel_rfl
@[simp] theorem ty_fs94_0 : tfs Tryz.prog 94 0 = some (0, (some 7)) := by kernel_rfl
@[simp] theorem ty_fs94_1 : tfs Tryz.prog 94 1 = some (7, (some 3)) := by kernel_rfl
@[simp] theorem ty_fa94_1 : tfa Tryz.prog 94 1 = some (7, (some true), (some 3)) := by kernel_rfl
@[simp] theorem ty_fs105_0 : tfs Tryz.prog 105 0 = some (0, (some 1)) := by kernel_rfl
@[simp] theorem ty_fs105_1 : tfs Tryz.prog 105 1 = some (1, (some 1)) := by kernel_rfl
@[simp] theorem ty_fs130_0 : tfs Tryz.prog 130 0 = some (0, (some 1)) := by kernel_rfl
@[simp] theorem ty_fs130_1 : tfs Tryz.prog 130 1 = some (1, (some 1)) := by kernel_rfl
@[simp] theorem ty_fs130_2 : tfs Tryz.prog 130 2 = some (2, (some 1)) := by kernel_rfl
@[simp] theorem ty_fa161_0 : tfa Tryz.prog 161 0 = some (0, (some false), (some 1)) := by kernel_rfl
@[simp] theorem ty_fa161_1 : tfa Tryz.prog 161 1 = some (1, (some false), (some 1)) := by kernel_rfl
attribute [simp] Tryz.results2 Tryz.ntmps2
attribute [simp] Tryz.results3 Tryz.ntmps3
attribute [simp] Tryz.results4 Tryz.ntmps4
attribute [simp] Tryz.results5 Tryz.ntmps5
attribute [simp] Tryz.results6 Tryz.ntmps6
attribute [simp] Tryz.results7 Tryz.ntmps7
attribute [simp] Tryz.results8 Tryz.ntmps8
attribute [simp] Tryz.results9 Tryz.ntmps9
attribute [simp] Tryz.results10 Tryz.ntmps10
attribute [simp] Tryz.results11 Tryz.ntmps11
attribute [simp] Tryz.results12 Tryz.ntmps12
attribute [simp] Tryz.results13 Tryz.ntmps13
attribute [simp] Tryz.results14 Tryz.ntmps14
attribute [simp] Tryz.results15 Tryz.ntmps15
attribute [simp] Tryz.results16 Tryz.ntmps16
attribute [simp] Tryz.results17 Tryz.ntmps17
attribute [simp] Tryz.results18 Tryz.ntmps18
attribute [simp] Tryz.results19 Tryz.ntmps19
attribute [simp] Tryz.results20 Tryz.ntmps20
attribute [simp] Tryz.results21 Tryz.ntmps21
attribute [simp] Tryz.results22 Tryz.ntmps22
attribute [simp] Tryz.results23 Tryz.ntmps23
attribute [simp] Tryz.results24 Tryz.ntmps24
attribute [simp] Tryz.results25 Tryz.ntmps25
attribute [simp] Tryz.results26 Tryz.ntmps26
attribute [simp] Tryz.results27 Tryz.ntmps27
attribute [simp] Tryz.results28 Tryz.ntmps28
attribute [simp] Tryz.results29 Tryz.ntmps29
attribute [simp] Tryz.results30 Tryz.ntmps30
attribute [simp] Tryz.results31 Tryz.ntmps31
attribute [simp] Tryz.results32 Tryz.ntmps32
attribute [simp] Tryz.results33 Tryz.ntmps33
attribute [simp] Tryz.results34 Tryz.ntmps34
attribute [simp] Tryz.results35 Tryz.ntmps35
attribute [simp] Tryz.results36 Tryz.ntmps36
attribute [simp] Tryz.results37 Tryz.ntmps37
attribute [simp] Tryz.results38 Tryz.ntmps38
attribute [simp] Tryz.results39 Tryz.ntmps39
attribute [simp] Tryz.results40 Tryz.ntmps40
attribute [simp] Tryz.results41 Tryz.ntmps41
attribute [simp] Tryz.results42 Tryz.ntmps42
attribute [simp] Tryz.results43 Tryz.ntmps43
attribute [simp] Tryz.results44 Tryz.ntmps44
attribute [simp] Tryz.results45 Tryz.ntmps45
attribute [simp] Tryz.results46 Tryz.ntmps46
attribute [simp] Tryz.results47 Tryz.ntmps47
attribute [simp] Tryz.results48 Tryz.ntmps48
attribute [simp] Tryz.results49 Tryz.ntmps49
attribute [simp] Tryz.results50 Tryz.ntmps50
attribute [simp] Tryz.results51 Tryz.ntmps51
attribute [simp] Tryz.results52 Tryz.ntmps52
attribute [simp] Tryz.results53 Tryz.ntmps53
attribute [simp] Tryz.results54 Tryz.ntmps54
attribute [simp] Tryz.results55 Tryz.ntmps55
attribute [simp] Tryz.results56 Tryz.ntmps56
attribute [simp] Tryz.results57 Tryz.ntmps57
attribute [simp] Tryz.results58 Tryz.ntmps58
attribute [simp] Tryz.results59 Tryz.ntmps59
attribute [simp] Tryz.results60 Tryz.ntmps60
attribute [simp] Tryz.results61 Tryz.ntmps61
attribute [simp] Tryz.results62 Tryz.ntmps62
attribute [simp] Tryz.results63 Tryz.ntmps63
attribute [simp] Tryz.results64 Tryz.ntmps64
attribute [simp] Tryz.results65 Tryz.ntmps65
attribute [simp] Tryz.results66 Tryz.ntmps66
attribute [simp] Tryz.results67 Tryz.ntmps67
attribute [simp] Tryz.results68 Tryz.ntmps68
attribute [simp] Tryz.results69 Tryz.ntmps69
attribute [simp] Tryz.results70 Tryz.ntmps70
attribute [simp] Tryz.results71 Tryz.ntmps71
attribute [simp] Tryz.results72 Tryz.ntmps72
attribute [simp] Tryz.results73 Tryz.ntmps73
attribute [simp] Tryz.results74 Tryz.ntmps74
attribute [simp] Tryz.results75 Tryz.ntmps75
attribute [simp] Tryz.results76 Tryz.ntmps76
attribute [simp] Tryz.results77 Tryz.ntmps77
attribute [simp] Tryz.results78 Tryz.ntmps78
attribute [simp] Tryz.results79 Tryz.ntmps79
attribute [simp] Tryz.results80 Tryz.ntmps80
attribute [simp] Tryz.results81 Tryz.ntmps81
attribute [simp] Tryz.results82 Tryz.ntmps82
attribute [simp] Tryz.results83 Tryz.ntmps83
attribute [simp] Tryz.results84 Tryz.ntmps84
attribute [simp] Tryz.results85 Tryz.ntmps85
attribute [simp] Tryz.results86 Tryz.ntmps86
attribute [simp] Tryz.results87 Tryz.ntmps87
attribute [simp] Tryz.results88 Tryz.ntmps88
attribute [simp] Tryz.results89 Tryz.ntmps89
attribute [simp] Tryz.results90 Tryz.ntmps90
attribute [simp] Tryz.results91 Tryz.ntmps91
attribute [simp] Tryz.results92 Tryz.ntmps92
attribute [simp] Tryz.results93 Tryz.ntmps93
attribute [simp] Tryz.results94 Tryz.ntmps94
attribute [simp] Tryz.results95 Tryz.ntmps95
attribute [simp] Tryz.results96 Tryz.ntmps96
attribute [simp] Tryz.results97 Tryz.ntmps97
attribute [simp] Tryz.results98 Tryz.ntmps98
attribute [simp] Tryz.results99 Tryz.ntmps99
attribute [simp] Tryz.results100 Tryz.ntmps100
attribute [simp] Tryz.results101 Tryz.ntmps101
attribute [simp] Tryz.results102 Tryz.ntmps102
attribute [simp] Tryz.results103 Tryz.ntmps103
attribute [simp] Tryz.results104 Tryz.ntmps104
attribute [simp] Tryz.results105 Tryz.ntmps105
attribute [simp] Tryz.results106 Tryz.ntmps106
attribute [simp] Tryz.results107 Tryz.ntmps107
attribute [simp] Tryz.results108 Tryz.ntmps108
attribute [simp] Tryz.results109 Tryz.ntmps109
attribute [simp] Tryz.results110 Tryz.ntmps110
attribute [simp] Tryz.results111 Tryz.ntmps111
attribute [simp] Tryz.results112 Tryz.ntmps112
attribute [simp] Tryz.results113 Tryz.ntmps113
attribute [simp] Tryz.results114 Tryz.ntmps114
attribute [simp] Tryz.results115 Tryz.ntmps115
attribute [simp] Tryz.results116 Tryz.ntmps116
attribute [simp] Tryz.results117 Tryz.ntmps117
attribute [simp] Tryz.results118 Tryz.ntmps118
attribute [simp] Tryz.results119 Tryz.ntmps119
attribute [simp] Tryz.results120 Tryz.ntmps120
attribute [simp] Tryz.results121 Tryz.ntmps121
attribute [simp] Tryz.results122 Tryz.ntmps122
attribute [simp] Tryz.results123 Tryz.ntmps123
attribute [simp] Tryz.results124 Tryz.ntmps124
attribute [simp] Tryz.results125 Tryz.ntmps125
attribute [simp] Tryz.results126 Tryz.ntmps126
attribute [simp] Tryz.results127 Tryz.ntmps127
attribute [simp] Tryz.results128 Tryz.ntmps128
attribute [simp] Tryz.results129 Tryz.ntmps129
attribute [simp] Tryz.results130 Tryz.ntmps130
attribute [simp] Tryz.results131 Tryz.ntmps131
attribute [simp] Tryz.results132 Tryz.ntmps132
attribute [simp] Tryz.results133 Tryz.ntmps133
attribute [simp] Tryz.results134 Tryz.ntmps134
attribute [simp] Tryz.results135 Tryz.ntmps135
attribute [simp] Tryz.results136 Tryz.ntmps136
attribute [simp] Tryz.results137 Tryz.ntmps137
attribute [simp] Tryz.results138 Tryz.ntmps138
attribute [simp] Tryz.results139 Tryz.ntmps139
attribute [simp] Tryz.results140 Tryz.ntmps140
attribute [simp] Tryz.results141 Tryz.ntmps141
attribute [simp] Tryz.results142 Tryz.ntmps142
attribute [simp] Tryz.results143 Tryz.ntmps143
attribute [simp] Tryz.results144 Tryz.ntmps144
attribute [simp] Tryz.results145 Tryz.ntmps145
attribute [simp] Tryz.results146 Tryz.ntmps146
attribute [simp] Tryz.results147 Tryz.ntmps147
attribute [simp] Tryz.results148 Tryz.ntmps148
attribute [simp] Tryz.results149 Tryz.ntmps149
attribute [simp] Tryz.results150 Tryz.ntmps150
attribute [simp] Tryz.results151 Tryz.ntmps151
attribute [simp] Tryz.results152 Tryz.ntmps152
attribute [simp] Tryz.results153 Tryz.ntmps153
attribute [simp] Tryz.results154 Tryz.ntmps154
attribute [simp] Tryz.results155 Tryz.ntmps155
attribute [simp] Tryz.results156 Tryz.ntmps156
attribute [simp] Tryz.results157 Tryz.ntmps157
attribute [simp] Tryz.results158 Tryz.ntmps158
attribute [simp] Tryz.results159 Tryz.ntmps159
section
def loopsOf : Code → List Code
 | .seq a b => loopsOf a ++ loopsOf b
 | .cond _ a b => loopsOf a ++ loopsOf b
 | .block _ a => loopsOf a
 | .loop a => a :: loopsOf a
 | .rangeFunc _ _ a b => loopsOf a ++ loopsOf b
 | _ => []
def lp (g : Func) (k : Nat) : Code := ((loopsOf (g.body.getD .skip))[k]?).getD .skip
noncomputable def hid {α : Type} (a : α) : α := Classical.choose (⟨a, rfl⟩ : ∃ x, x = a)
theorem hid_eq {α : Type} (a : α) : hid a = a := Classical.choose_spec (⟨a, rfl⟩ : ∃ x, x = a)
section
variable {K : Ctx} {fn : FuncId} {H : Heap}
def saV (v : GV) (x : Option (GV × Heap)) : Bool := match x with | some (v', _) => GV.beq v' v | none => false
@[simp] theorem saV_some {v v' : GV} : saV v (some (v', H)) = GV.beq v' v := rfl
@[simp] theorem sameAt_def {o : Oper} {s : Slots} {v : GV} : sameAt K fn o s v H = saV v (gop K fn o s H) := by
 unfold sameAt saV; rfl
@[simp] theorem natCast_lt_zero (n : Nat) : ((n : Int) < 0) = False := by simp
theorem w64 {x : Int} (h1 : -9223372036854775808 ≤ x) (h2 : x ≤ 9223372036854775807) : IntKind.i64.wrap x = x := IntWalk.i64_in x ⟨h1, h2⟩
def wbox (w : Int) : Blk := .box [.pure (.int .u64 w)]
def isBox (H : Heap) (nm : Nm) : Prop := ∃ w, H.get nm = some (wbox w) ∧ H.set nm (wbox w) = H
def wordAt (H : Heap) (nm : Nm) : Int := match H.get nm with | some (.box [.pure (.int _ w)]) => w | _ => 0
theorem isBox_get {nm : Nm} (h : isBox H nm) : H.get nm = some (wbox (wordAt H nm)) := by
 obtain ⟨w, h1, h2⟩ := h
 simp only [wordAt, h1, wbox]
theorem isBox_set {nm : Nm} (h : isBox H nm) : H.set nm (wbox (wordAt H nm)) = H := by
 obtain ⟨w, h1, h2⟩ := h
 simp only [wordAt, h1, wbox]
 exact h2
theorem isBox_lt {nm : Nm} (h : isBox H nm) : nm.1 < H.length := by
 obtain ⟨w, h1, h2⟩ := h
 exact Heap.get_lt h1
theorem Fr.ins_ins {q : Nat} {x y : Blk} : ∀ f : Fr, (f.ins q x).ins q y = f.ins q y
  | [] => by simp [Fr.ins]
  | (k, b) :: r => by
    simp only [Fr.ins]
    split
    · simp [Fr.ins]
    · rename_i h
      split
      · simp [Fr.ins]
      · rename_i h2
        simp only [Fr.ins, h, h2, if_false, Fr.ins_ins r]
@[simp] theorem Heap.set_set {nm : Nm} {x y : Blk} : ∀ {H : Heap}, (H.set nm x).set nm y = H.set nm y
  | [] => rfl
  | f :: H => by
    simp only [Heap.set]
    split
    · rename_i h; simp only [Heap.set, h, if_true, Fr.ins_ins]
    · rename_i h; simp only [Heap.set, Heap.length_set, h, if_false, Heap.set_set]
attribute [simp] Heap.length_set
@[simp] theorem Heap.get_set' {nm : Nm} {b : Blk} (h : nm.1 < H.length) : (H.set nm b).get nm = some b := Heap.get_set b h
@[simp] theorem wordAt_set {nm : Nm} {w : Int} (h : nm.1 < H.length) : wordAt (H.set nm (wbox w)) nm = w := by
 simp only [wordAt, Heap.get_set' h, wbox]
@[simp] theorem isBox_set' {nm : Nm} {w : Int} (h : nm.1 < H.length) : isBox (H.set nm (wbox w)) nm := ⟨w, Heap.get_set' h, Heap.set_set⟩
theorem isBox_up {nm : Nm} {fr : Fr} (h : isBox H nm) : isBox (fr :: H) nm := by
 have hl := isBox_lt h
 obtain ⟨w, h1, h2⟩ := h
 have : ¬ nm.1 = H.length := by omega
 exact ⟨w, by simp [this, h1], by simp [this, h2]⟩
theorem wordAt_up {nm : Nm} {fr : Fr} (h : nm.1 < H.length) : wordAt (fr :: H) nm = wordAt H nm := by
 have : ¬ nm.1 = H.length := by omega
 simp [wordAt, this]
theorem Heap.set_up {nm : Nm} {fr : Fr} {b : Blk} (h : nm.1 < H.length) : Heap.set (fr :: H) nm b = fr :: H.set nm b := by
 have : ¬ nm.1 = H.length := by omega
 simp [this]
end
end
theorem good3 : good KC needT 3 (Tryz.f3.body.getD .skip) = true := by kernel_rfl
theorem good9 : good KC needT 9 (Tryz.f9.body.getD .skip) = true := by kernel_rfl
theorem good11 : good KC needT 11 (Tryz.f11.body.getD .skip) = true := by kernel_rfl
theorem good12 : good KC needT 12 (Tryz.f12.body.getD .skip) = true := by kernel_rfl
theorem good13 : good KC needT 13 (Tryz.f13.body.getD .skip) = true := by kernel_rfl
theorem good14 : good KC needT 14 (Tryz.f14.body.getD .skip) = true := by kernel_rfl
theorem good15 : good KC needT 15 (Tryz.f15.body.getD .skip) = true := by kernel_rfl
theorem good16 : good KC needT 16 (Tryz.f16.body.getD .skip) = true := by kernel_rfl
theorem good17 : good KC needT 17 (Tryz.f17.body.getD .skip) = true := by kernel_rfl
theorem good18 : good KC needT 18 (Tryz.f18.body.getD .skip) = true := by kernel_rfl
theorem good19 : good KC needT 19 (Tryz.f19.body.getD .skip) = true := by kernel_rfl
theorem good20 : good KC needT 20 (Tryz.f20.body.getD .skip) = true := by kernel_rfl
theorem good21 : good KC needT 21 (Tryz.f21.body.getD .skip) = true := by kernel_rfl
theorem good22 : good KC needT 22 (Tryz.f22.body.getD .skip) = true := by kernel_rfl
theorem good23 : good KC needT 23 (Tryz.f23.body.getD .skip) = true := by kernel_rfl
theorem good24 : good KC needT 24 (Tryz.f24.body.getD .skip) = true := by kernel_rfl
theorem good25 : good KC needT 25 (Tryz.f25.body.getD .skip) = true := by kernel_rfl
theorem good26 : good KC needT 26 (Tryz.f26.body.getD .skip) = true := by kernel_rfl
theorem good31 : good KC needT 31 (Tryz.f31.body.getD .skip) = true := by kernel_rfl
theorem good47 : good KC needT 47 (Tryz.f47.body.getD .skip) = true := by kernel_rfl
theorem good48 : good KC needT 48 (Tryz.f48.body.getD .skip) = true := by kernel_rfl
theorem good49 : good KC needT 49 (Tryz.f49.body.getD .skip) = true := by kernel_rfl
theorem good50 : good KC needT 50 (Tryz.f50.body.getD .skip) = true := by kernel_rfl
theorem good51 : good KC needT 51 (Tryz.f51.body.getD .skip) = true := by kernel_rfl
theorem good52 : good KC needT 52 (Tryz.f52.body.getD .skip) = true := by kernel_rfl
theorem good53 : good KC needT 53 (Tryz.f53.body.getD .skip) = true := by kernel_rfl
theorem good54 : good KC needT 54 (Tryz.f54.body.getD .skip) = true := by kernel_rfl
theorem good55 : good KC needT 55 (Tryz.f55.body.getD .skip) = true := by kernel_rfl
theorem good56 : good KC needT 56 (Tryz.f56.body.getD .skip) = true := by kernel_rfl
theorem good57 : good KC needT 57 (Tryz.f57.body.getD .skip) = true := by kernel_rfl
theorem good58 : good KC needT 58 (Tryz.f58.body.getD .skip) = true := by kernel_rfl
theorem good59 : good KC needT 59 (Tryz.f59.body.getD .skip) = true := by kernel_rfl
theorem good60 : good KC needT 60 (Tryz.f60.body.getD .skip) = true := by kernel_rfl
theorem good61 : good KC needT 61 (Tryz.f61.body.getD .skip) = true := by kernel_rfl
theorem good62 : good KC needT 62 (Tryz.f62.body.getD .skip) = true := by kernel_rfl
theorem good63 : good KC needT 63 (Tryz.f63.body.getD .skip) = true := by kernel_rfl
theorem good64 : good KC needT 64 (Tryz.f64.body.getD .skip) = true := by kernel_rfl
theorem good65 : good KC needT 65 (Tryz.f65.body.getD .skip) = true := by kernel_rfl
theorem good66 : good KC needT 66 (Tryz.f66.body.getD .skip) = true := by kernel_rfl
theorem good67 : good KC needT 67 (Tryz.f67.body.getD .skip) = true := by kernel_rfl
theorem good68 : good KC needT 68 (Tryz.f68.body.getD .skip) = true := by kernel_rfl
theorem good73 : good KC needT 73 (Tryz.f73.body.getD .skip) = true := by kernel_rfl
theorem good75 : good KC needT 75 (Tryz.f75.body.getD .skip) = true := by kernel_rfl
theorem good76 : good KC needT 76 (Tryz.f76.body.getD .skip) = true := by kernel_rfl
theorem good80 : good KC needT 80 (Tryz.f80.body.getD .skip) = true := by kernel_rfl
theorem good82 : good KC needT 82 (Tryz.f82.body.getD .skip) = true := by kernel_rfl
theorem good83 : good KC needT 83 (Tryz.f83.body.getD .skip) = true := by kernel_rfl
theorem good84 : good KC needT 84 (Tryz.f84.body.getD .skip) = true := by kernel_rfl
theorem good85 : good KC needT 85 (Tryz.f85.body.getD .skip) = true := by kernel_rfl
theorem good86 : good KC needT 86 (Tryz.f86.body.getD .skip) = true := by kernel_rfl
theorem good87 : good KC needT 87 (Tryz.f87.body.getD .skip) = true := by kernel_rfl
theorem good88 : good KC needT 88 (Tryz.f88.body.getD .skip) = true := by kernel_rfl
theorem good89 : good KC needT 89 (Tryz.f89.body.getD .skip) = true := by kernel_rfl
theorem good90 : good KC needT 90 (Tryz.f90.body.getD .skip) = true := by kernel_rfl
theorem good91 : good KC needT 91 (Tryz.f91.body.getD .skip) = true := by kernel_rfl
theorem good92 : good KC needT 92 (Tryz.f92.body.getD .skip) = true := by kernel_rfl
theorem good93 : good KC needT 93 (Tryz.f93.body.getD .skip) = true := by kernel_rfl
theorem good94 : good KC needT 94 (Tryz.f94.body.getD .skip) = true := by kernel_rfl
theorem good95 : good KC needT 95 (Tryz.f95.body.getD .skip) = true := by kernel_rfl
theorem good96 : good KC needT 96 (Tryz.f96.body.getD .skip) = true := by kernel_rfl
theorem good97 : good KC needT 97 (Tryz.f97.body.getD .skip) = true := by kernel_rfl
theorem good98 : good KC needT 98 (Tryz.f98.body.getD .skip) = true := by kernel_rfl
theorem good99 : good KC needT 99 (Tryz.f99.body.getD .skip) = true := by kernel_rfl
theorem good100 : good KC needT 100 (Tryz.f100.body.getD .skip) = true := by kernel_rfl
theorem good101 : good KC needT 101 (Tryz.f101.body.getD .skip) = true := by kernel_rfl
theorem good102 : good KC needT 102 (Tryz.f102.body.getD .skip) = true := by kernel_rfl
theorem good103 : good KC needT 103 (Tryz.f103.body.getD .skip) = true := by kernel_rfl
theorem good105 : good KC needT 105 (Tryz.f105.body.getD .skip) = true := by kernel_rfl
theorem good112 : good KC needT 112 (Tryz.f112.body.getD .skip) = true := by kernel_rfl
theorem good113 : good KC needT 113 (Tryz.f113.body.getD .skip) = true := by kernel_rfl
theorem good115 : good KC needT 115 (Tryz.f115.body.getD .skip) = true := by kernel_rfl
theorem good118 : good KC needT 118 (Tryz.f118.body.getD .skip) = true := by kernel_rfl
theorem good120 : good KC needT 120 (Tryz.f120.body.getD .skip) = true := by kernel_rfl
theorem good121 : good KC needT 121 (Tryz.f121.body.getD .skip) = true := by kernel_rfl
theorem good122 : good KC needT 122 (Tryz.f122.body.getD .skip) = true := by kernel_rfl
theorem good123 : good KC needT 123 (Tryz.f123.body.getD .skip) = true := by kernel_rfl
theorem good124 : good KC needT 124 (Tryz.f124.body.getD .skip) = true := by kernel_rfl
theorem good125 : good KC needT 125 (Tryz.f125.body.getD .skip) = true := by kernel_rfl
theorem good126 : good KC needT 126 (Tryz.f126.body.getD .skip) = true := by kernel_rfl
theorem good127 : good KC needT 127 (Tryz.f127.body.getD .skip) = true := by kernel_rfl
theorem good130 : good KC needT 130 (Tryz.f130.body.getD .skip) = true := by kernel_rfl
theorem good131 : good KC needT 131 (Tryz.f131.body.getD .skip) = true := by kernel_rfl
theorem good134 : good KC needT 134 (Tryz.f134.body.getD .skip) = true := by kernel_rfl
theorem good135 : good KC needT 135 (Tryz.f135.body.getD .skip) = true := by kernel_rfl
theorem good136 : good KC needT 136 (Tryz.f136.body.getD .skip) = true := by kernel_rfl
theorem good137 : good KC needT 137 (Tryz.f137.body.getD .skip) = true := by kernel_rfl
theorem good138 : good KC needT 138 (Tryz.f138.body.getD .skip) = true := by kernel_rfl
theorem good139 : good KC needT 139 (Tryz.f139.body.getD .skip) = true := by kernel_rfl
theorem good140 : good KC needT 140 (Tryz.f140.body.getD .skip) = true := by kernel_rfl
theorem good141 : good KC needT 141 (Tryz.f141.body.getD .skip) = true := by kernel_rfl
theorem good142 : good KC needT 142 (Tryz.f142.body.getD .skip) = true := by kernel_rfl
theorem good143 : good KC needT 143 (Tryz.f143.body.getD .skip) = true := by kernel_rfl
theorem good144 : good KC needT 144 (Tryz.f144.body.getD .skip) = true := by kernel_rfl
theorem good145 : good KC needT 145 (Tryz.f145.body.getD .skip) = true := by kernel_rfl
theorem good146 : good KC needT 146 (Tryz.f146.body.getD .skip) = true := by kernel_rfl
theorem good147 : good KC needT 147 (Tryz.f147.body.getD .skip) = true := by kernel_rfl
theorem good148 : good KC needT 148 (Tryz.f148.body.getD .skip) = true := by kernel_rfl
theorem good149 : good KC needT 149 (Tryz.f149.body.getD .skip) = true := by kernel_rfl
theorem good150 : good KC needT 150 (Tryz.f150.body.getD .skip) = true := by kernel_rfl
theorem good153 : good KC needT 153 (Tryz.f153.body.getD .skip) = true := by kernel_rfl
theorem good154 : good KC needT 154 (Tryz.f154.body.getD .skip) = true := by kernel_rfl
theorem good155 : good KC needT 155 (Tryz.f155.body.getD .skip) = true := by kernel_rfl
theorem good156 : good KC needT 156 (Tryz.f156.body.getD .skip) = true := by kernel_rfl
theorem good157 : good KC needT 157 (Tryz.f157.body.getD .skip) = true := by kernel_rfl
section
@[simp] theorem ne_add2 (n : Nat) : (n = n + 1 + 1) = False := by simp; omega
@[simp] theorem ne_add3 (n : Nat) : (n = n + 1 + 1 + 1) = False := by simp; omega
@[simp] theorem ne_add4 (n : Nat) : (n = n + 1 + 1 + 1 + 1) = False := by simp; omega
@[simp] theorem ne_add2' (n : Nat) : (n + 1 + 1 = n) = False := by simp; omega
@[simp] theorem ne_add3' (n : Nat) : (n + 1 + 1 + 1 = n) = False := by simp; omega
@[simp] theorem nle_add2 (n : Nat) : (n + 1 + 1 ≤ n) = False := by simp; omega
@[simp] theorem le_add2 (n : Nat) : (n ≤ n + 1 + 1) = True := by simp; omega
@[simp] theorem le_add3 (n : Nat) : (n ≤ n + 1 + 1 + 1) = True := by simp; omega
def apS (nm : Nm) (es : Nat) (rows : List (List PV)) : GV := if rows = [] then .nils else .hdr nm es rows.length 0 rows.length
def apF (key es : Nat) (rows : List (List PV)) (fr : Fr) : Fr := if rows = [] then fr else fr.ins key (.arr es rows 0 false)
theorem apS_nil {nm : Nm} {es : Nat} : apS nm es [] = .nils := rfl
theorem apF_nil {key es : Nat} {fr : Fr} : apF key es [] fr = fr := rfl
theorem Fr.ins_comm {q p : Nat} (x y : Blk) (h : q ≠ p) : ∀ f : Fr, (f.ins p y).ins q x = (f.ins q x).ins p y
  | [] => by
    simp only [Fr.ins, h, Ne.symm h, if_false]
    split
    · rename_i h1; rw [if_neg (by omega)]
    · rename_i h1; rw [if_pos (by omega)]
  | (k, b) :: r => by
    have hp : ¬ p = q := fun e => h e.symm
    by_cases h1 : p = k
    · subst h1
      by_cases h3 : q < p
      · simp [Fr.ins, h, h3, hp, show ¬ p < q by omega]
      · simp [Fr.ins, h, h3]
    · by_cases h2 : q = k
      · subst h2
        by_cases h3 : p < q
        · simp [Fr.ins, h, h3, hp, show ¬ q < p by omega]
        · simp [Fr.ins, h1, h3]
      · by_cases h3 : p < k
        · by_cases h4 : q < k
          · by_cases h5 : q < p
            · simp [Fr.ins, h, hp, h1, h2, h3, h4, h5, show ¬ p < q by omega]
            · simp [Fr.ins, h, hp, h1, h2, h3, h4, h5, show p < q by omega]
          · simp [Fr.ins, h, hp, h1, h2, h3, h4, show ¬ q < p by omega]
        · by_cases h4 : q < k
          · simp [Fr.ins, h, hp, h1, h2, h3, h4, show ¬ p < q by omega]
          · simp [Fr.ins, h1, h2, h3, h4, Fr.ins_comm x y h r]
section
variable {key es : Nat} {rows : List (List PV)} {fr : Fr} {H : Heap} {nm : Nm}
@[simp] theorem apF_get {k : Nat} (h : k ≠ key) : (apF key es rows fr).get k = fr.get k := by
 unfold apF; split
 ·rfl
 ·exact Fr.get_ins_other _ h _
@[simp] theorem apF_ins {k : Nat} {b : Blk} (h : k ≠ key) : (apF key es rows fr).ins k b = apF key es rows (fr.ins k b) := by
 unfold apF; split
 ·rfl
 ·exact Fr.ins_comm _ _ h _
theorem apF_self (h : rows ≠ []) : (apF key es rows fr).get key = some (.arr es rows 0 false) := by
 unfold apF; rw [if_neg h]; exact Fr.get_ins _ _ _
@[simp] theorem cellsO_apS : cellsO (apS nm es rows) = some [apS nm es rows] := by
 unfold apS; split <;> rfl
@[simp] theorem lowerCell_apS {l0 : Nat} (h : nm.1 ≤ l0) : lowerCell H l0 (apS nm es rows) = (apS nm es rows, H) := by
 unfold apS; split
 ·rfl
 ·simp [h]
@[simp] theorem lenD_apS {e : TypeId} : lenD (some (.slice e)) H (apS nm es rows) = some (rows.length : Int) := by
 unfold apS; split
 ·rename_i h; subst h; rfl
 ·rfl
@[simp] theorem allPure_apS {r : List GV} : allPure (apS nm es rows :: r) = none := by
 unfold apS; split <;> rfl
@[simp] theorem clean_apS_keep {l0 : Nat} (h : nm.1 ≤ l0) : clean H l0 (apS nm es rows) = apS nm es rows := by
 unfold apS; split
 ·rfl
 ·simp [h]
theorem apK_apS {l bytes : Nat} {r : List PV} {H' : Heap} (hg : rows = [] → H'.get (l, key) = none) (hg2 : rows ≠ [] → H'.get (l, key) = some (.arr es rows 0 false)) (hl : l < H'.length) (hb : (rows.length + 1) * bytes ≤ 1099511627776) :
  apK l key (apS (l, key) es rows) es bytes [r] H' = some (apS (l, key) es (rows ++ [r]), H'.set (l, key) (.arr es (rows ++ [r]) 0 false)) := by
 unfold apS
 by_cases h : rows = []
 ·subst h
  have h1 := hg rfl
  have h2 : ¬ H'.length ≤ l := by omega
  have h3 : bytes ≤ 1099511627776 := by simpa using hb
  simp [h1, h2, h3]
 ·have h1 := hg2 h
  simp [h, h1, hb]
@[simp] theorem apK_1 {l bytes : Nat} {r : List PV} {f0 : Fr} (hl : H.length = l) (hf : fr.get key = none) (hb : (rows.length + 1) * bytes ≤ 1099511627776) :
  apK l key (apS (l, key) es rows) es bytes [r] (f0 :: apF key es rows fr :: H) = some (apS (l, key) es (rows ++ [r]), f0 :: apF key es (rows ++ [r]) fr :: H) := by
 subst hl
 rw [apK_apS (fun h => by subst h; simp [apF, hf]) (fun h => by simp [apF_self h]) (by simp; omega) hb]
 simp [apF]
 split
 ·rfl
 ·rw [Fr.ins_ins]
theorem cc_apS {l l0 : Nat} (hl : H.length = l) (h : l0 < l) : canon (clean (apF key es rows fr :: H) l0 (apS (l, key) es rows)) = .pure (.slice rows) := by
 subst hl
 unfold apS
 by_cases hr : rows = []
 ·subst hr; simp
 ·have : ¬ H.length ≤ l0 := by omega
  simp [hr, this, apF_self hr]
theorem clean1_apS {l l0 : Nat} {F : Fr} (hl : H.length = l) (h : l0 < l) (hF : rows ≠ [] → F.get key = some (.arr es rows 0 false)) : clean1 (F :: H) l0 (apS (l, key) es rows) = if rows = [] then .nils else .pure (.slice rows) := by
 subst hl
 unfold apS
 by_cases hr : rows = []
 ·subst hr; simp
 ·have : ¬ H.length ≤ l0 := by omega
  simp [hr, this, hF hr]
@[simp] theorem iaS_apS {i : Nat} (h : i < rows.length) : iaS (some (some es)) (apS nm es rows) (i : Int) = some (.eptr nm es rows.length i 0) := by
 unfold apS
 have hr : rows ≠ [] := fun e => by subst e; simp at h
 simp [hr, h]
end
end
section
section
variable (K : Ctx) (N : FuncId → Nat → List (Nat × Nat))
end
end
section
structure Person where
 role : Int
 cell : Int
 deriving DecidableEq
structure Thing where
 cell : Int
 state : Int
 home : Int
 want : Int
 cloth : Bool
 deriving DecidableEq
structure RAct where
 at' : Int
 who : Int
 kind : Int
 hand : Int
 thing : Int
 cell : Int
 other : Int
 seasons : Int
 rank : Int
 deriving DecidableEq
structure Spot where
 cell : Int
 state : Int
 deriving DecidableEq
structure Hands where
 l : Int
 r : Int
 deriving DecidableEq
structure Rite where
 wide : Int
 deep : Int
 people : List Person
 things : List Thing
 seen : List Int
 lapses : List Int
 acts : List RAct
 deriving DecidableEq
structure Scene where
 people : List Int
 hands : List Hands
 things : List Spot
 deriving DecidableEq
def Person.row (p : Person) : List PV := [.int .i64 p.role, .int .i64 p.cell]
def Thing.row (t : Thing) : List PV := [.int .i64 t.cell, .int .i64 t.state, .int .i64 t.home, .int .i64 t.want, .bool t.cloth]
def RAct.row (a : RAct) : List PV := [.int .i64 a.at', .int .i64 a.who, .int .i64 a.kind, .int .i64 a.hand, .int .i64 a.thing, .int .i64 a.cell, .int .i64 a.other, .int .i64 a.seasons, .int .i64 a.rank]
def Spot.row (s : Spot) : List PV := [.int .i64 s.cell, .int .i64 s.state]
def Hands.row (h : Hands) : List PV := [.int .i64 h.l, .int .i64 h.r]
def irow (n : Int) : List PV := [.int .i64 n]
def Rite.row (r : Rite) : List PV := [.int .i64 r.wide, .int .i64 r.deep, .slice (r.people.map Person.row), .slice (r.things.map Thing.row), .slice (r.seen.map irow), .slice (r.lapses.map irow), .slice (r.acts.map RAct.row)]
def Scene.row (s : Scene) : List PV := [.slice (s.people.map irow), .slice (s.hands.map Hands.row), .slice (s.things.map Spot.row)]
@[simp] theorem KC_keep {f : Nat} : KC.keep f = keepL.contains f := .trans rfl rfl
attribute [simp] keepL
section
variable {f c : Nat} {H : Heap} {args : List GV} {p : PV}
theorem bor_c (hc : KC.cln f = false) (hb : KC.bor f = true) (hz : (frzVals H args).1.map canon = args) (hq : borBox args = some none) (hfl : flatP p = true) (hH : 0 < H.length)
  (h0 : ∀ H : Heap, 0 < H.length → gcall0 KC (geval KC) f args c H = some (.pure p, H)) : gcall KC (geval KC) f args c H = some (.pure p, H) := bor_flat KC hc hb hz hq hH h0 hfl
end
theorem gcall_geval {K : Ctx} {n : Nat} {f : FuncId} {args : List GV} {c : Nat} {H : Heap} {r : GV × Heap} (h : gcall K (gexec K n) f args c H = some r) : gcall K (geval K) f args c H = some r := by
 obtain ⟨N, hN⟩ := gcall_lim K (F := fun _ => geval K) (rec := gexec K n) (fun fn c st r h => ⟨0, fun _ _ => (geval_iff K).2 (gexec_stable K n _ _ _ _ h)⟩) h
 exact hN N (Nat.le_refl _)
variable {c : Nat} {H : Heap}
def inB (x lo hi : Int) : Bool := decide (lo ≤ x) && decide (x ≤ hi)
theorem in_ok {x lo hi : Int} (hH : 0 < H.length) : gcall KC (geval KC) 64 [.pure (.int .i64 x), .pure (.int .i64 lo), .pure (.int .i64 hi)] c H = some (.pure (.bool (inB x lo hi)), H) := by
 refine bor_c rfl rfl rfl rfl rfl hH fun H hH => ?_
 refine WPv_eq (call_enter0 KC needT Tryz.func64 rfl rfl good64 (by simp) hH ?_)
 by_cases h : lo ≤ x
 ·simp [h, inB, gleave_free]
 ·simp [h, inB, gleave_free]
theorem within_ok {x lo hi : Int} (hH : 0 < H.length) : gcall KC (geval KC) 66 [.pure (.int .i64 x), .pure (.int .i64 lo), .pure (.int .i64 hi)] c H = some (.pure (.bool (inB x lo hi)), H) := by
 refine bor_c rfl rfl rfl rfl rfl hH fun H hH => ?_
 refine WPv_eq (call_enter0 KC needT Tryz.func66 rfl rfl good66 (by simp) hH ?_)
 by_cases h : lo ≤ x
 ·simp [h, inB, gleave_free]
 ·simp [h, inB, gleave_free]
theorem inB_iff {x lo hi : Int} : inB x lo hi = true ↔ lo ≤ x ∧ x ≤ hi := by simp [inB]
theorem awake_run (fr : Fr) (c : Nat) : gcall KC (gexec KC 4000) 10 [] c [fr, []] = some (.pure (.bool true), [fr, []]) := by
 kernel_rfl
theorem awake_ok (fr : Fr) (c : Nat) : gcall KC (geval KC) 10 [] c [fr, []] = some (.pure (.bool true), [fr, []]) := gcall_geval (awake_run fr c)
end
end Go.Gh
