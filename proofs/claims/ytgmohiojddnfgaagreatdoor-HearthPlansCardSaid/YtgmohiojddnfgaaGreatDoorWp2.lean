/- The calculus as equations for simp. -/
import Derived.Test.YtgmohiojddnfgaaGreatDoorWp1
namespace Go.Gh
set_option linter.unusedSimpArgs false
set_option linter.unusedVariables false

section
variable {K : Ctx} {N : FuncId → Nat → List (Nat × Nat)} {fn : FuncId}

@[congr] theorem WPv_cg {α : Type} {x y : Option α} {k : α → Prop} (h : ∀ _ : Unit, x = y) : WPv x k = WPv y k := by rw [h ()]

/-! ### code -/
@[simp] theorem WPv_some {α : Type} {x : α} {k : α → Prop} : WPv (some x) k = k x := by
  unfold WPv; simp
@[simp] theorem WPv_none {α : Type} {k : α → Prop} : WPv none k = False := by
  unfold WPv; simp

@[simp] theorem wp_skip {st : GSt} {Q : GX → GSt → Prop} : wp K N fn .skip st Q = Q .normal st := by rw [wp]
@[simp] theorem wp_label {l : Nat} {st : GSt} {Q : GX → GSt → Prop} : wp K N fn (.label l) st Q = Q .normal st := by rw [wp]
@[simp] theorem wp_exit {id : Nat} {st : GSt} {Q : GX → GSt → Prop} : wp K N fn (.exit id) st Q = Q (.exit id) st := by rw [wp]
@[simp] theorem wp_ret {st : GSt} {Q : GX → GSt → Prop} : wp K N fn .ret st Q = Q .ret st := by rw [wp]
@[simp] theorem wp_region {id : Nat} {ops : Array Oper} {st : GSt} {Q : GX → GSt → Prop} : wp K N fn (.region id ops false) st Q = wpops K fn ops.toList ops.toList st (Q .normal) := by rw [wp]
@[simp] theorem wp_draw {id : Nat} {ops : Array Oper} {st : GSt} {Q : GX → GSt → Prop} : wp K N fn (.region id ops true) st Q = wpdraw K fn ops.toList (N fn id) 0 ops.toList [] [] st.h st (Q .normal) := by rw [wp]

def seqQ (b : Code) (Q : GX → GSt → Prop) (e : GX) (st : GSt) : Prop := match e with | .normal => wp K N fn b st Q | e => Q e st
@[simp] theorem wp_seq {a b : Code} {st : GSt} {Q : GX → GSt → Prop} : wp K N fn (.seq a b) st Q = wp K N fn a st (seqQ (K := K) (N := N) (fn := fn) b Q) := by rw [wp]; rfl
@[simp] theorem seqQ_normal {b : Code} {Q : GX → GSt → Prop} {st : GSt} : seqQ (K := K) (N := N) (fn := fn) b Q .normal st = wp K N fn b st Q := .trans rfl rfl
@[simp] theorem seqQ_exit {b : Code} {Q : GX → GSt → Prop} {id : Nat} {st : GSt} : seqQ (K := K) (N := N) (fn := fn) b Q (.exit id) st = Q (.exit id) st := .trans rfl rfl
@[simp] theorem seqQ_ret {b : Code} {Q : GX → GSt → Prop} {st : GSt} : seqQ (K := K) (N := N) (fn := fn) b Q .ret st = Q .ret st := .trans rfl rfl

@[simp] theorem wp_cond {c : Operand} {x y : Code} {st : GSt} {Q : GX → GSt → Prop} : wp K N fn (.cond c x y) st Q = WPv (asB (ev st.s c)) fun b => if b = true then wp K N fn x st Q else wp K N fn y st Q := by rw [wp]
@[simp] theorem asB_bool {b : Bool} : asB (.pure (.bool b)) = some b := .trans rfl rfl
@[simp] theorem wp_scope {c : Code} {st : GSt} {Q : GX → GSt → Prop} : wp K N fn (.scope c) st Q = wp K N fn c st Q := by rw [wp]
@[simp] theorem wp_block {id : Nat} {c : Code} {st : GSt} {Q : GX → GSt → Prop} : wp K N fn (.block id c) st Q = wp K N fn c st (blockQ id Q) := by rw [wp]
@[simp] theorem blockQ_normal {id : Nat} {Q : GX → GSt → Prop} {st : GSt} : blockQ id Q .normal st = Q .normal st := .trans rfl rfl
@[simp] theorem blockQ_ret {id : Nat} {Q : GX → GSt → Prop} {st : GSt} : blockQ id Q .ret st = Q .ret st := .trans rfl rfl
@[simp] theorem blockQ_exit {id id' : Nat} {Q : GX → GSt → Prop} {st : GSt} : blockQ id Q (.exit id') st = if id' = id then Q .normal st else Q (.exit id') st := .trans rfl rfl
@[simp] theorem wp_loop {c : Code} {st : GSt} {Q : GX → GSt → Prop} : wp K N fn (.loop c) st Q = WPv (K.ann fn (firstRegion c)) fun a => if K.car fn (firstRegion c) = true then WPLc K N fn c a.1 a.2 Q (keepSlots st.s a.1) st.h st.nt else WPL K N fn c a.1 a.2 Q (keepSlots st.s a.1) st.h st.nt := by rw [wp]
@[simp] theorem wp_rangeFunc {f : Operand} {ps : Array Tmp} {as b : Code} {st : GSt} {Q : GX → GSt → Prop} : wp K N fn (.rangeFunc f ps as b) st Q = WP K N fn (.rangeFunc f ps as b) st Q := by rw [wp]

@[simp] theorem loopQ_normal {W : Slots → Heap → Nat → Prop} {ks ks2 : List Nat} {Q : GX → GSt → Prop} {s : Slots} {fr : Fr} {H : Heap} {nt : Nat} :
    loopQ W ks ks2 Q .normal ⟨s, fr :: H, nt⟩ = (0 < H.length ∧ W (cleanSlots (fr :: H) (H.length - 1) (keepSlots s ks)) H nt) := .trans rfl rfl
@[simp] theorem loopQ_exit {W : Slots → Heap → Nat → Prop} {ks ks2 : List Nat} {Q : GX → GSt → Prop} {s : Slots} {fr : Fr} {H : Heap} {nt id : Nat} :
    loopQ W ks ks2 Q (.exit id) ⟨s, fr :: H, nt⟩ = (0 < H.length ∧ Q (.exit id) ⟨cleanSlots (fr :: H) (H.length - 1) (keepSlots s ks2), H, nt⟩) := .trans rfl rfl
@[simp] theorem loopQ_ret {W : Slots → Heap → Nat → Prop} {ks ks2 : List Nat} {Q : GX → GSt → Prop} {s : Slots} {fr : Fr} {H : Heap} {nt : Nat} :
    loopQ W ks ks2 Q .ret ⟨s, fr :: H, nt⟩ = (0 < H.length ∧ Q .ret ⟨cleanSlots (fr :: H) (H.length - 1) (keepSlots s ks2), H, nt⟩) := .trans rfl rfl

@[simp] theorem loopQc_normal {W : Slots → Heap → Nat → Prop} {ks ks2 : List Nat} {Q : GX → GSt → Prop} {s : Slots} {fr : Fr} {H : Heap} {nt : Nat} :
    loopQc W ks ks2 Q .normal ⟨s, fr :: H, nt⟩ = (0 < H.length ∧ WPv (gcol ⟨cleanSlots (fr :: H) (H.length - 1) (keepSlots s ks), H, nt⟩) fun st => W st.s st.h st.nt) := .trans rfl rfl
@[simp] theorem loopQc_exit {W : Slots → Heap → Nat → Prop} {ks ks2 : List Nat} {Q : GX → GSt → Prop} {s : Slots} {fr : Fr} {H : Heap} {nt id : Nat} :
    loopQc W ks ks2 Q (.exit id) ⟨s, fr :: H, nt⟩ = (0 < H.length ∧ Q (.exit id) ⟨cleanSlots (fr :: H) (H.length - 1) (keepSlots s ks2), H, nt⟩) := .trans rfl rfl
@[simp] theorem loopQc_ret {W : Slots → Heap → Nat → Prop} {ks ks2 : List Nat} {Q : GX → GSt → Prop} {s : Slots} {fr : Fr} {H : Heap} {nt : Nat} :
    loopQc W ks ks2 Q .ret ⟨s, fr :: H, nt⟩ = (0 < H.length ∧ Q .ret ⟨cleanSlots (fr :: H) (H.length - 1) (keepSlots s ks2), H, nt⟩) := .trans rfl rfl

@[simp] theorem outQ_normal {f : FuncId} {g : Func} {c : Nat} {R : GV × Heap → Prop} {st : GSt} : outQ K f g c R .normal st = WPv (gresults K g st) fun rs => WPv (gleave K f c (packG rs) st.h) R := by simp [outQ]
@[simp] theorem outQ_ret {f : FuncId} {g : Func} {c : Nat} {R : GV × Heap → Prop} {st : GSt} : outQ K f g c R .ret st = WPv (gresults K g st) fun rs => WPv (gleave K f c (packG rs) st.h) R := by simp [outQ]
@[simp] theorem outQ_exit {f : FuncId} {g : Func} {c : Nat} {R : GV × Heap → Prop} {st : GSt} {id : Nat} : outQ K f g c R (.exit id) st = False := by simp [outQ]

/-! ### slots -/
@[simp] theorem keepSlots_nil {s : Slots} : keepSlots s [] = [] := .trans rfl rfl
@[simp] theorem keepSlots_cons {s : Slots} {t : Nat} {r : List Nat} : keepSlots s (t :: r) = (t, look s t) :: keepSlots s r := .trans rfl rfl
@[simp] theorem cleanSlots_nil {H : Heap} {l0 : Nat} : cleanSlots H l0 [] = [] := .trans rfl rfl
@[simp] theorem cleanSlots_cons {H : Heap} {l0 : Nat} {t : Nat} {v : GV} {r : Slots} : cleanSlots H l0 ((t, v) :: r) = (t, clean H l0 v) :: cleanSlots H l0 r := .trans rfl rfl
@[simp] theorem look_nil {t : Nat} : look [] t = gdead := .trans rfl rfl
@[simp] theorem look_cons' {d t : Nat} {v : GV} {s : Slots} : look ((d, v) :: s) t = if t = d then v else look s t := .trans rfl rfl
@[simp] theorem ev_tmp {s : Slots} {t : Nat} : ev s (.tmp t) = look s t := .trans rfl rfl
@[simp] theorem ev_const {s : Slots} {v : Value} : ev s (.const v) = ofConst v := .trans rfl rfl
@[simp] theorem ev_func {s : Slots} {f : Nat} : ev s (.func f) = .pure (.fn f) := .trans rfl rfl
@[simp] theorem ofConst_int {k : IntKind} {n : Int} : ofConst (.int k n) = .pure (.int k n) := .trans rfl rfl
@[simp] theorem ofConst_bool {b : Bool} : ofConst (.bool b) = .pure (.bool b) := .trans rfl rfl
@[simp] theorem ofConst_nils : ofConst (.slice none 0 0) = .nils := .trans rfl rfl
@[simp] theorem ofConst_nilp : ofConst (.pointer none) = .pure .nilp := .trans rfl rfl
@[simp] theorem ofConst_nilf : ofConst .nilFunc = .pure .nilf := .trans rfl rfl
@[simp] theorem ofConst_nilm : ofConst (.map none) = .pure .nilm := .trans rfl rfl
@[simp] theorem ofConst_str {s : ByteArray} : ofConst (.string s) = .pure (.str s.data.toList) := .trans rfl rfl
@[simp] theorem putS_none {s : Slots} {v : GV} : putS s none v = s := .trans rfl rfl
@[simp] theorem putS_some {s : Slots} {d : Nat} {v : GV} : putS s (some d) v = (d, v) :: s := .trans rfl rfl
@[simp] theorem dstOk_none {nt : Nat} : dstOk nt none = True := .trans rfl rfl
@[simp] theorem dstOk_some {nt d : Nat} : dstOk nt (some d) = (d < nt) := .trans rfl rfl
@[simp] theorem slotsOf_nil {i : Nat} : slotsOf i [] = [] := .trans rfl rfl
@[simp] theorem slotsOf_cons {i : Nat} {v : GV} {l : List GV} : slotsOf i (v :: l) = (i, v) :: slotsOf (i + 1) l := .trans rfl rfl

/-! ### operations in a row -/
@[simp] theorem wpops_nil {all : List Oper} {st : GSt} {Q : GSt → Prop} : wpops K fn all [] st Q = Q st := .trans rfl rfl
@[simp] theorem wpops_cons {all : List Oper} {o : Oper} {r : List Oper} {st : GSt} {Q : GSt → Prop} : wpops K fn all (o :: r) st Q = WPv (wantedG all st.s o) fun b =>
      if b = false then dstOk st.nt o.dst ∧ wpops K fn all r ⟨putS st.s o.dst gundef, st.h, st.nt⟩ Q
      else WPv (gstep K (geval K) fn o st.s st.h) fun x => dstOk st.nt o.dst ∧ wpops K fn all r ⟨putS st.s o.dst x.1, x.2, st.nt⟩ Q := .trans rfl rfl
@[simp] theorem wpdraw_nil {all : List Oper} {L : List (Nat × Nat)} {i : Nat} {obl : List Obl} {old : List (Nat × Heap)} {hb : Heap} {st : GSt} {Q : GSt → Prop} : wpdraw K fn all L i [] obl old hb st Q = Q st := .trans rfl rfl
@[simp] theorem wpdraw_cons {all : List Oper} {L : List (Nat × Nat)} {i : Nat} {o : Oper} {r : List Oper} {obl : List Obl} {old : List (Nat × Heap)} {hb : Heap} {st : GSt} {Q : GSt → Prop} :
    wpdraw K fn all L i (o :: r) obl old hb st Q = WPv (wantedG all st.s o) fun b =>
      if b = false then dstOk st.nt o.dst ∧ wpdraw K fn all L (i + 1) r obl old hb ⟨putS st.s o.dst gundef, st.h, st.nt⟩ Q
      else if opPure K fn o = true then
        WPv (gop K fn o st.s hb) fun x => dstOk st.nt o.dst ∧ (∀ y ∈ old, y.1 = i → y.2 = hb ∨ sameAt K fn o st.s x.1 y.2 = true) ∧
          wpdraw K fn all L (i + 1) r ((L.filter fun p => p.2 == i).map (fun p => ⟨p.1, o, st.s, x.1, hb⟩) ++ obl) old hb ⟨putS st.s o.dst x.1, st.h, st.nt⟩ Q
      else
        WPv (gstep K (geval K) fn o st.s st.h) fun x => dstOk st.nt o.dst ∧
          if isAlloc o = true then wpdraw K fn all L (i + 1) r obl old hb ⟨putS st.s o.dst x.1, x.2, st.nt⟩ Q
          else (∀ y ∈ obl, y.i = i → x.2 = y.h ∨ sameAt K fn y.o y.s y.v x.2 = true) ∧
            wpdraw K fn all L (i + 1) r obl ((L.filter fun p => p.2 == i).map (fun p => (p.1, hb)) ++ old) x.2 ⟨putS st.s o.dst x.1, x.2, st.nt⟩ Q := .trans rfl rfl

/-! ### guards -/
def dstAt : List Oper → Nat → Option Nat
  | [], _ => none
  | o :: r, j => if j = 0 then o.dst else dstAt r (j - 1)
@[simp] theorem dstAt_cons {o : Oper} {r : List Oper} {j : Nat} : dstAt (o :: r) j = if j = 0 then o.dst else dstAt r (j - 1) := .trans rfl rfl
def wantD (s : Slots) (want : Bool) : Option Nat → Option Bool
  | none => none
  | some d => (match look s d with | .pure (.bool b) => some (b == want) | .pure (.tuple []) => some false | _ => none)
def wantV (want : Bool) : GV → Option Bool
  | .pure (.bool b) => some (b == want)
  | .pure (.tuple []) => some false
  | _ => none
@[simp] theorem wantV_bool {want b : Bool} : wantV want (.pure (.bool b)) = some (b == want) := .trans rfl rfl
@[simp] theorem wantV_undef {want : Bool} : wantV want gundef = some false := .trans rfl rfl
@[congr] theorem wantD_cg {s : Slots} {want : Bool} {x y : Option Nat} (h : ∀ _ : Unit, x = y) : wantD s want x = wantD s want y := by rw [h ()]
@[simp] theorem wantD_some {s : Slots} {want : Bool} {d : Nat} : wantD s want (some d) = wantV want (look s d) := by
  unfold wantD wantV; rfl
theorem getElem_dstAt : ∀ (l : List Oper) (j : Nat), dstAt l j = (l[j]?).bind (·.dst)
  | [], j => by simp [dstAt]
  | o :: r, 0 => by simp [dstAt]
  | o :: r, j + 1 => by simp [dstAt, getElem_dstAt r j]
@[simp] theorem wantedG_none {all : List Oper} {s : Slots} {dst : Option Tmp} {op : Op} {ty : TypeId} {pos : String} {af : Array Edge} : wantedG all s ⟨dst, op, ty, pos, af, none⟩ = some true := .trans rfl rfl
@[simp] theorem wantedG_some {all : List Oper} {s : Slots} {dst : Option Tmp} {op : Op} {ty : TypeId} {pos : String} {af : Array Edge} {j : Nat} {want : Bool} :
    wantedG all s ⟨dst, op, ty, pos, af, some (j, want)⟩ = wantD s want (dstAt all j) := by
  rw [getElem_dstAt]
  unfold wantedG wantD
  simp only
  cases all[j]? with
  | none => rfl
  | some oj =>
    simp only [Option.bind_some]
    cases oj.dst with
    | none => rfl
    | some d => rfl

/-! ### calls of Go code -/
variable {rec : Rec} {dst : Option Tmp} {ty : TypeId} {pos : String} {af : Array Edge} {gu : Option (Nat × Bool)} {s : Slots} {H : Heap}
def liftR (r : Option Nat) (H : Heap) (b : GV) (z : GV × Heap) : Option (GV × Heap) := match r with
  | none => glift H b z
  | some key => gliftRow H b key z
@[congr] theorem liftR_cg {r r' : Option Nat} {H : Heap} {b b' : GV} {z : GV × Heap} (h : ∀ _ : Unit, r = r') (h' : ∀ _ : Unit, b = b') : liftR r H b z = liftR r' H b' z := by rw [h (), h' ()]
@[simp] theorem liftR_none {H : Heap} {b : GV} {z : GV × Heap} : liftR none H b z = glift H b z := .trans rfl rfl
@[simp] theorem liftR_some {key : Nat} {H : Heap} {b : GV} {z : GV × Heap} : liftR (some key) H b z = gliftRow H b key z := .trans rfl rfl
def liftQ (x : Option Tmp) (r : Option Nat) (s : Slots) (H : Heap) (y : Option (GV × Heap)) : Option (GV × Heap) := match x with
  | none => y
  | some t => (match y with | some z => liftR r H (look s t) z | none => none)
@[congr] theorem liftQ_cg {x x' : Option Tmp} {r : Option Nat} {s : Slots} {H : Heap} {y y' : Option (GV × Heap)} (h : ∀ _ : Unit, x = x') (h' : ∀ _ : Unit, y = y') : liftQ x r s H y = liftQ x' r s H y' := by rw [h (), h' ()]
@[simp] theorem liftQ_none {r : Option Nat} {s : Slots} {H : Heap} {y : Option (GV × Heap)} : liftQ none r s H y = y := .trans rfl rfl
@[simp] theorem liftQ_some {t : Tmp} {r : Option Nat} {s : Slots} {H : Heap} {z : GV × Heap} : liftQ (some t) r s H (some z) = liftR r H (look s t) z := .trans rfl rfl
@[simp] theorem gstep_call {f : Operand} {args : Array Operand} {ats : Array TypeId} : gstep K rec fn ⟨dst, .call ⟨.value f, args, ats⟩, ty, pos, af, gu⟩ s H = liftQ (K.lift fn (dst.getD 0)) (K.row fn (dst.getD 0)) s H (gcallee K rec (ev s f) (args.toList.map (ev s)) (dst.getD 0) H) := by
  unfold gstep liftQ
  simp only [goCalls]
  cases K.lift fn (dst.getD 0) with
  | none => rfl
  | some t => simp only [liftR]; cases gcallee K rec (ev s f) (args.toList.map (ev s)) (dst.getD 0) H <;> rfl
@[simp] theorem gcallee_fn {f : Nat} {args : List GV} {c : Nat} : gcallee K rec (.pure (.fn f)) args c H = gcall K rec f args c H := .trans rfl rfl
@[simp] theorem gcallee_func {f : Nat} {first cap args : List GV} {c : Nat} : gcallee K rec (.func f first cap) args c H = gcall K rec f (first ++ args ++ cap) c H := .trans rfl rfl
@[simp] theorem gcallee_yield {nm : Nm} {args : List GV} {c : Nat} : gcallee K rec (.yield nm) args c H = ground rec nm args H := .trans rfl rfl

/-! ### operations -/
theorem gstep_gop {o : Oper} (h : goCalls o = none) : gstep K rec fn o s H = gop K fn o s H := by unfold gstep; rw [h]
end
end Go.Gh
