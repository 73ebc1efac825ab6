/- Texts joined: the evaluator over ghost values, its soundness, the walks. Spaces struck and names made short by a program, for the size. -/
import Derived.WalkKit
import Derived.RangeFuncLeaves
import Derived.Eval
import Derived.Laws.CopyRow
namespace Go.Gh
set_option linter.unusedVariables false
set_option linter.unusedSimpArgs false
set_option linter.unnecessarySimpa false
set_option maxRecDepth 100000
set_option maxHeartbeats 8000000
inductive GQ where
 | int (k : IntKind) (n : Int)
 | str (s : List UInt8)
 | anyInt (k : IntKind)
 | anyIface
def globT : List (Nat × List GQ) := []
inductive MK where
 | int (k : IntKind) (n : Int)
 | str (s : List UInt8)
abbrev MV := Nat
def mapT : List (Nat × List (MK × MV)) := [(92, [(.int .i64 1, 128), (.int .i64 2, 129), (.int .i64 3, 130), (.int .i64 4, 131), (.int .i64 5, 132), (.int .i64 6, 133)])]
def mapQ (f : Nat) : Option (List (MK × MV)) := (mapT.find? (·.1 == f)).map (·.2)
inductive PV where
 | int (k : IntKind) (n : Int)
 | bool (b : Bool)
 | str (s : List UInt8)
 | slice (l : List (List PV))
 | agg (l : List PV)
 | tuple (l : List PV)
 | fn (f : FuncId)
 | nilp
 | nilf
 | nilm
 | nili
 | iface (t : TypeId) (v : PV)
 | fmap (f : FuncId)
 | dead
 deriving Inhabited
abbrev Nm := Nat × Nat
inductive GV where
 | pure (p : PV)
 | pptr (cs : List PV)
 | nils
 | bptr (nm : Nm) (off : Nat)
 | eptr (nm : Nm) (es top i off : Nat)
 | hdr (nm : Nm) (es top lo len : Nat)
 | lits (l : List (List GV))
 | lptr (cs : List GV)
 | agg (l : List GV)
 | tuple (l : List GV)
 | func (f : FuncId) (first cap : List GV)
 | yield (nm : Nm)
 | map (nm : Nm)
 | rhdr (nm : Nm) (es i len : Nat)
 | rptr (nm : Nm) (es i j off : Nat)
 deriving Inhabited
mutual
def PV.beq : PV → PV → Bool
 | .int k a, .int k' b => decide (k = k') && a == b
 | .bool a, .bool b => a == b
 | .str a, .str b => a == b
 | .slice a, .slice b => PV.beqLL a b
 | .agg a, .agg b => PV.beqL a b
 | .tuple a, .tuple b => PV.beqL a b
 | .fn f, .fn g => f == g
 | .nilp, .nilp | .nilf, .nilf | .nilm, .nilm | .nili, .nili | .dead, .dead => true
 | .iface t v, .iface u w => t == u && PV.beq v w
 | .fmap f, .fmap g => f == g
 | _, _ => false
def PV.beqL : List PV → List PV → Bool
 | [], [] => true
 | a :: r, b :: s => PV.beq a b && PV.beqL r s
 | _, _ => false
def PV.beqLL : List (List PV) → List (List PV) → Bool
 | [], [] => true
 | a :: r, b :: s => PV.beqL a b && PV.beqLL r s
 | _, _ => false
end
mutual
def GV.beq : GV → GV → Bool
 | .pure a, .pure b => PV.beq a b
 | .pptr a, .pptr b => PV.beqL a b
 | .nils, .nils => true
 | .bptr n o, .bptr m p => n == m && o == p
 | .eptr n e t i o, .eptr m e' t' i' o' => n == m && e == e' && t == t' && i == i' && o == o'
 | .hdr n e t i o, .hdr m e' t' i' o' => n == m && e == e' && t == t' && i == i' && o == o'
 | .lits a, .lits b => GV.beqLL a b
 | .lptr a, .lptr b => GV.beqL a b
 | .agg a, .agg b => GV.beqL a b
 | .tuple a, .tuple b => GV.beqL a b
 | .func f a c, .func g b d => f == g && GV.beqL a b && GV.beqL c d
 | .yield n, .yield m => n == m
 | .map n, .map m => n == m
 | .rhdr n e i l, .rhdr m e' i' l' => n == m && e == e' && i == i' && l == l'
 | .rptr n e i j o, .rptr m e' i' j' o' => n == m && e == e' && i == i' && j == j' && o == o'
 | _, _ => false
def GV.beqL : List GV → List GV → Bool
 | [], [] => true
 | a :: r, b :: s => GV.beq a b && GV.beqL r s
 | _, _ => false
def GV.beqLL : List (List GV) → List (List GV) → Bool
 | [], [] => true
 | a :: r, b :: s => GV.beqL a b && GV.beqLL r s
 | _, _ => false
end
mutual
theorem PV.beq_eq : ∀ a b : PV, PV.beq a b = true → a = b
 | .int k a, b, h => by cases b <;> simp_all [PV.beq]
 | .bool a, b, h => by cases b <;> simp_all [PV.beq]
 | .str a, b, h => by cases b <;> simp_all [PV.beq]
 | .slice a, b, h => by cases b <;> simp [PV.beq] at h; rw [PV.beqLL_eq _ _ h]
 | .agg a, b, h => by cases b <;> simp [PV.beq] at h; rw [PV.beqL_eq _ _ h]
 | .tuple a, b, h => by cases b <;> simp [PV.beq] at h; rw [PV.beqL_eq _ _ h]
 | .fn f, b, h => by cases b <;> simp_all [PV.beq]
 | .nilp, b, h => by cases b <;> simp_all [PV.beq]
 | .nilf, b, h => by cases b <;> simp_all [PV.beq]
 | .nilm, b, h => by cases b <;> simp_all [PV.beq]
 | .nili, b, h => by cases b <;> simp_all [PV.beq]
 | .iface t v, b, h => by cases b <;> simp [PV.beq] at h; rw [h.1, PV.beq_eq _ _ h.2]
 | .fmap f, b, h => by cases b <;> simp_all [PV.beq]
 | .dead, b, h => by cases b <;> simp_all [PV.beq]
theorem PV.beqL_eq : ∀ a b : List PV, PV.beqL a b = true → a = b
 | [], b, h => by cases b <;> simp_all [PV.beqL]
 | x :: r, b, h => by
  cases b with
  | nil => simp [PV.beqL] at h
  | cons y s => simp [PV.beqL] at h; rw [PV.beq_eq _ _ h.1, PV.beqL_eq _ _ h.2]
theorem PV.beqLL_eq : ∀ a b : List (List PV), PV.beqLL a b = true → a = b
 | [], b, h => by cases b <;> simp_all [PV.beqLL]
 | x :: r, b, h => by
  cases b with
  | nil => simp [PV.beqLL] at h
  | cons y s => simp [PV.beqLL] at h; rw [PV.beqL_eq _ _ h.1, PV.beqLL_eq _ _ h.2]
end
mutual
theorem GV.beq_eq : ∀ a b : GV, GV.beq a b = true → a = b
 | .pure a, b, h => by cases b <;> simp [GV.beq] at h; rw [PV.beq_eq _ _ h]
 | .pptr a, b, h => by cases b <;> simp [GV.beq] at h; rw [PV.beqL_eq _ _ h]
 | .nils, b, h => by cases b <;> simp_all [GV.beq]
 | .bptr n o, b, h => by cases b <;> simp_all [GV.beq]
 | .eptr n e t i o, b, h => by cases b <;> simp_all [GV.beq]
 | .hdr n e t i o, b, h => by cases b <;> simp_all [GV.beq]
 | .lits a, b, h => by cases b <;> simp [GV.beq] at h; rw [GV.beqLL_eq _ _ h]
 | .lptr a, b, h => by cases b <;> simp [GV.beq] at h; rw [GV.beqL_eq _ _ h]
 | .agg a, b, h => by cases b <;> simp [GV.beq] at h; rw [GV.beqL_eq _ _ h]
 | .tuple a, b, h => by cases b <;> simp [GV.beq] at h; rw [GV.beqL_eq _ _ h]
 | .func f a c, b, h => by cases b <;> simp [GV.beq] at h; rw [h.1.1, GV.beqL_eq _ _ h.1.2, GV.beqL_eq _ _ h.2]
 | .yield n, b, h => by cases b <;> simp_all [GV.beq]
 | .map n, b, h => by cases b <;> simp_all [GV.beq]
 | .rhdr n e i l, b, h => by cases b <;> simp_all [GV.beq]
 | .rptr n e i j o, b, h => by cases b <;> simp_all [GV.beq]
theorem GV.beqL_eq : ∀ a b : List GV, GV.beqL a b = true → a = b
 | [], b, h => by cases b <;> simp_all [GV.beqL]
 | x :: r, b, h => by
  cases b with
  | nil => simp [GV.beqL] at h
  | cons y s => simp [GV.beqL] at h; rw [GV.beq_eq _ _ h.1, GV.beqL_eq _ _ h.2]
theorem GV.beqLL_eq : ∀ a b : List (List GV), GV.beqLL a b = true → a = b
 | [], b, h => by cases b <;> simp_all [GV.beqLL]
 | x :: r, b, h => by
  cases b with
  | nil => simp [GV.beqLL] at h
  | cons y s => simp [GV.beqLL] at h; rw [GV.beqL_eq _ _ h.1, GV.beqLL_eq _ _ h.2]
end
mutual
@[simp] theorem PV.beq_self : ∀ a : PV, PV.beq a a = true
 | .int k a => by simp [PV.beq]
 | .bool a => by simp [PV.beq]
 | .str a => by simp [PV.beq]
 | .slice a => by simp [PV.beq, PV.beqLL_self a]
 | .agg a => by simp [PV.beq, PV.beqL_self a]
 | .tuple a => by simp [PV.beq, PV.beqL_self a]
 | .fn f => by simp [PV.beq]
 | .nilp => rfl
 | .nilf => rfl
 | .nilm => rfl
 | .nili => rfl
 | .iface t v => by simp [PV.beq, PV.beq_self v]
 | .fmap f => by simp [PV.beq]
 | .dead => rfl
@[simp] theorem PV.beqL_self : ∀ a : List PV, PV.beqL a a = true
 | [] => rfl
 | x :: r => by simp [PV.beqL, PV.beq_self x, PV.beqL_self r]
@[simp] theorem PV.beqLL_self : ∀ a : List (List PV), PV.beqLL a a = true
 | [] => rfl
 | x :: r => by simp [PV.beqLL, PV.beqL_self x, PV.beqLL_self r]
end
mutual
@[simp] theorem GV.beq_self : ∀ a : GV, GV.beq a a = true
 | .pure a => by simp [GV.beq]
 | .pptr a => by simp [GV.beq]
 | .nils => rfl
 | .bptr n o => by simp [GV.beq]
 | .eptr n e t i o => by simp [GV.beq]
 | .hdr n e t i o => by simp [GV.beq]
 | .lits a => by simp [GV.beq, GV.beqLL_self a]
 | .lptr a => by simp [GV.beq, GV.beqL_self a]
 | .agg a => by simp [GV.beq, GV.beqL_self a]
 | .tuple a => by simp [GV.beq, GV.beqL_self a]
 | .func f a c => by simp [GV.beq, GV.beqL_self a, GV.beqL_self c]
 | .yield n => by simp [GV.beq]
 | .map n => by simp [GV.beq]
 | .rhdr n e i l => by simp [GV.beq]
 | .rptr n e i j o => by simp [GV.beq]
@[simp] theorem GV.beqL_self : ∀ a : List GV, GV.beqL a a = true
 | [] => rfl
 | x :: r => by simp [GV.beqL, GV.beq_self x, GV.beqL_self r]
@[simp] theorem GV.beqLL_self : ∀ a : List (List GV), GV.beqLL a a = true
 | [] => rfl
 | x :: r => by simp [GV.beqLL, GV.beqL_self x, GV.beqLL_self r]
end
inductive GX where
 | normal
 | exit (id : Nat)
 | ret
 deriving DecidableEq, Inhabited
structure GLoop where
 slots : List (Nat × GV)
 nt : Nat
 params : List Tmp
 assign : Code
 body : Code
 fn : FuncId
 state : LoopState
 pending : Option GX
 deriving Inhabited
inductive Blk where
 | box (cells : List GV)
 | arr (es : Nat) (elems : List (List PV)) (vf : Nat) (ro : Bool)
 | map (entries : List (PV × GV))
 | loop (l : GLoop)
 | mat (es : Nat) (rows : List (List (List PV))) (n : Nat)
 | gone
 deriving Inhabited
def tyBase : Nat := 1329227995784915872903807060280344576
def tyKey (t d : Nat) : Nat := tyBase + t * 4096 + d
def tyName (k : Nat) : Option Nat := if k < tyBase then none else some ((k - tyBase) / 4096)
def tyE (nm : Nat × Nat) (e : TypeId) : TypeId := match tyName nm.2 with | some t => t | none => e
abbrev Fr := List (Nat × Blk)
def Fr.get : Fr → Nat → Option Blk
 | [], _ => none
 | (k, b) :: r, q => if q = k then some b else Fr.get r q
def Fr.ins (q : Nat) (x : Blk) : Fr → Fr
 | [] => [(q, x)]
 | (k, b) :: r => if q = k then (q, x) :: r else if q < k then (q, x) :: (k, b) :: r else (k, b) :: Fr.ins q x r
abbrev Heap := List Fr
def Heap.get : Heap → Nm → Option Blk
 | [], _ => none
 | f :: H, nm => if nm.1 = H.length then f.get nm.2 else Heap.get H nm
def Heap.set : Heap → Nm → Blk → Heap
 | [], _, _ => []
 | f :: H, nm, b => if nm.1 = H.length then f.ins nm.2 b :: H else f :: Heap.set H nm b
abbrev Slots := List (Nat × GV)
def gdead : GV := .pure .dead
def gundef : GV := .pure (.tuple [])
def look : Slots → Nat → GV
 | [], _ => gdead
 | (k, v) :: r, t => if t = k then v else look r t
structure GSt where
 s : Slots
 h : Heap
 nt : Nat
def GSt.put (st : GSt) (d : Option Tmp) (v : GV) : Option GSt :=
 match d with
 | none => some st
 | some d => if d < st.nt then some { st with s := (d, v) :: st.s } else none
def allPure : List GV → Option (List PV)
 | [] => some []
 | .pure p :: r => match allPure r with | some ps => some (p :: ps) | none => none
 | _ :: _ => none
def mkAgg (l : List GV) : GV := match allPure l with | some ps => .pure (.agg ps) | none => .agg l
def mkTuple (l : List GV) : GV := match allPure l with | some ps => .pure (.tuple ps) | none => .tuple l
def cellsO : GV → Option (List GV)
 | .agg l => some l
 | .pure (.agg l) => some (l.map .pure)
 | .pure .dead | .pure (.tuple _) | .tuple _ => none
 | g => some [g]
def ofConst1 : Value → GV
 | .int k n => .pure (.int k n)
 | .bool b => .pure (.bool b)
 | .string s => .pure (.str s.data.toList)
 | .slice none 0 0 => .nils
 | .pointer none => .pure .nilp
 | .nilFunc => .pure .nilf
 | .map none => .pure .nilm
 | .nilIface => .pure .nili
 | _ => gdead
def ofConst : Value → GV
 | .agg cs => if cs.toList.all Value.oneCell' then mkAgg (cs.toList.map ofConst1) else gdead
 | v => ofConst1 v
def GQ.pv : GQ → PV
 | .int k n => .int k n
 | .str s => .str s
 | .anyInt _ | .anyIface => .dead
def globQ (g : Nat) : Option (List GQ) := (globT.find? fun x => x.1 == g).map (·.2)
def globs (g : Nat) : Option (List PV) := (globQ g).map fun l => l.map GQ.pv
def ev (s : Slots) : Operand → GV
 | .tmp t => look s t
 | .const v => ofConst v
 | .func f => .pure (.fn f)
 | .global g => match globs g with | some cs => .pptr cs | none => gdead
def canon1 : GV → GV
 | .nils => .pure (.slice [])
 | g => g
def canon : GV → GV
 | .nils => .pure (.slice [])
 | .agg l => mkAgg (l.map canon1)
 | .tuple l => mkTuple (l.map fun g => match g with | .agg l => mkAgg (l.map canon1) | g => canon1 g)
 | g => g
def tsize (P : Program) (t : TypeId) : Option Nat := (P.info? t).map (·.size)
def tbytes (P : Program) (t : TypeId) : Option Nat := (P.info? t).map (·.bytes)
def tzero (P : Program) (t : TypeId) : Option GV := match P.info? t with | some i => (match i.zero with | some v => some (ofConst v) | none => none) | none => none
def tagg (P : Program) (t : TypeId) : Option Bool :=
 match P.underlying t with
 | some (.struct _) | some (.array _ _) => some true
 | some _ => some false
 | none => none
def telem (P : Program) (t : TypeId) : Option TypeId := match P.underlying t with | some (.slice e) => some e | _ => none
def tarr (P : Program) (t : TypeId) : Option (Nat × TypeId) := match P.underlying t with | some (.array n e) => some (n, e) | _ => none
def tfield (P : Program) (t : TypeId) (f : Nat) : Option (Nat × TypeId) :=
 match P.underlying t with
 | some (.struct fs) => match fs[f]? with | some x => some (x.offset, x.type) | none => none
 | _ => none
def placesOf (P : Program) : List Field → Option (List (Nat × Nat))
 | [] => some []
 | f :: r => match tsize P f.type, placesOf P r with | some n, some l => some ((f.offset, n) :: l) | _, _ => none
def tplaces (P : Program) (t : TypeId) : Option (List (Nat × Nat)) :=
 match P.underlying t with
 | some (.struct fs) => placesOf P fs.toList
 | _ => none
def sliceOf (H : Heap) (nm : Nm) (es top lo len : Nat) : PV :=
 match H.get nm with
 | some (.arr es' elems vf _) => if es' = es ∧ vf ≤ top ∧ lo + len ≤ top ∧ top ≤ elems.length then .slice ((elems.drop lo).take len) else .dead
 | _ => .dead
def sliceOfM (H : Heap) (nm : Nm) (es top lo len : Nat) : PV :=
 match H.get nm with
 | some (.mat _ rows n) => if es = 1 ∧ lo + len ≤ top ∧ top ≤ n then .slice (((rows.drop lo).take len).map fun r => [.slice r]) else .dead
 | _ => sliceOf H nm es top lo len
def allLe (l0 : Nat) : List GV → Bool
 | [] => true
 | .pure _ :: r | .pptr _ :: r | .nils :: r => allLe l0 r
 | .bptr nm _ :: r | .eptr nm _ _ _ _ :: r | .hdr nm _ _ _ _ :: r | .yield nm :: r | .map nm :: r => decide (nm.1 ≤ l0) && allLe l0 r
 | _ :: _ => false
def clean1 (H : Heap) (l0 : Nat) : GV → GV
 | .hdr nm es top lo len => if nm.1 ≤ l0 then .hdr nm es top lo len else .pure (sliceOfM H nm es top lo len)
 | .bptr nm off => if nm.1 ≤ l0 then .bptr nm off else gdead
 | .eptr nm es top i off => if nm.1 ≤ l0 then .eptr nm es top i off else gdead
 | .yield nm => if nm.1 ≤ l0 then .yield nm else gdead
 | .map nm => if nm.1 ≤ l0 then .map nm else gdead
 | .func f first cap => if allLe l0 first && allLe l0 cap then .func f first cap else gdead
 | .pure p => .pure p
 | .pptr cs => .pptr cs
 | .nils => .nils
 | .lits l => if l.all (allLe l0) then .lits l else gdead
 | .lptr cs => if allLe l0 cs then .lptr cs else gdead
 | .rhdr nm es i len => if nm.1 ≤ l0 then .rhdr nm es i len else gdead
 | .rptr nm es i j off => if nm.1 ≤ l0 then .rptr nm es i j off else gdead
 | .agg _ | .tuple _ => gdead
def capP (H : Heap) (l0 : Nat) : GV → Option GV
 | .pure p => some (.pure p)
 | .pptr cs => some (.pptr cs)
 | .nils => some .nils
 | .bptr nm off => if nm.1 ≤ l0 then some (.bptr nm off) else
  match H.get nm with
  | some (.box cs) => (match allPure cs with | some ps => if off ≤ ps.length then some (.pptr (ps.drop off)) else none | none => none)
  | _ => none
 | _ => none
def capsP (H : Heap) (l0 : Nat) : List GV → Option (List GV)
 | [] => some []
 | g :: r => match capP H l0 g, capsP H l0 r with | some g, some r => some (g :: r) | _, _ => none
def clean2 (H : Heap) (l0 : Nat) : GV → GV
 | .agg l => mkAgg (l.map (clean1 H l0))
 | .func f first cap => if allLe l0 first && allLe l0 cap then .func f first cap else if allLe l0 first then (match capsP H l0 cap with | some cap => .func f first cap | none => gdead) else gdead
 | g => clean1 H l0 g
def clean (H : Heap) (l0 : Nat) : GV → GV
 | .tuple l => mkTuple (l.map (clean2 H l0))
 | g => clean2 H l0 g
def pureCell (H : Heap) : GV → PV × Heap
 | .pure p => (p, H)
 | .nils => (.slice [], H)
 | .hdr nm es top lo len =>
  match H.get nm with
  | some (.arr es' elems vf _) => if es' = es ∧ vf ≤ top ∧ lo + len ≤ top ∧ top ≤ elems.length then (.slice ((elems.drop lo).take len), H.set nm (.arr es' elems vf true)) else (.dead, H)
  | _ => (.dead, H)
 | _ => (.dead, H)
def pureCells (H : Heap) : List GV → List PV × Heap
 | [] => ([], H)
 | g :: r => let (p, H1) := pureCell H g; let (ps, H2) := pureCells H1 r; (p :: ps, H2)
def lowerCell (H : Heap) (l0 : Nat) : GV → GV × Heap
 | .hdr nm es top lo len => if nm.1 ≤ l0 then (.hdr nm es top lo len, H) else let (p, H1) := pureCell H (.hdr nm es top lo len); (.pure p, H1)
 | g => (clean1 H l0 g, H)
def lowerCells (H : Heap) (l0 : Nat) : List GV → List GV × Heap
 | [] => ([], H)
 | g :: r => let (p, H1) := lowerCell H l0 g; let (ps, H2) := lowerCells H1 l0 r; (p :: ps, H2)
def splice {α : Type} (l : List α) (off : Nat) (xs : List α) : List α := l.take off ++ xs ++ l.drop (off + xs.length)
def gload (P : Program) (t : TypeId) (H : Heap) (a : GV) : Option GV :=
 match tagg P t, tsize P t with
 | some ag, some size =>
  match a with
  | .bptr nm off =>
   match H.get nm with
   | some (.box cs) => if ag then (if off + size ≤ cs.length then some (mkAgg ((cs.drop off).take size)) else none) else cs[off]?
   | _ => none
  | .eptr nm es top i off =>
   match H.get nm with
   | some (.arr es' elems vf _) =>
    if es' = es ∧ vf ≤ top ∧ i < top ∧ top ≤ elems.length then
     (match elems[i]? with
     | some e => if ag then (if off + size ≤ e.length then some (.pure (.agg ((e.drop off).take size))) else none) else (match e[off]? with | some p => some (.pure p) | none => none)
     | none => none)
    else none
   | some (.mat es' rows n) => if ag = false ∧ es = 1 ∧ off = 0 ∧ i < top ∧ top ≤ n then (match rows[i]? with | some r => some (.rhdr nm es' i r.length) | none => none) else none
   | _ => none
  | .rptr nm es i j off =>
   match H.get nm with
   | some (.mat es' rows _) =>
    if es' = es then
     (match rows[i]? with
     | some r =>
      (match r[j]? with
      | some e => if ag then (if off + size ≤ e.length then some (.pure (.agg ((e.drop off).take size))) else none) else (match e[off]? with | some p => some (.pure p) | none => none)
      | none => none)
     | none => none)
    else none
   | _ => none
  | .pptr cs => if ag then (if size ≤ cs.length then some (.pure (.agg (cs.take size))) else none) else (match cs[0]? with | some p => some (.pure p) | none => none)
  | .lptr cs => if ag then (if size ≤ cs.length then some (mkAgg (cs.take size)) else none) else cs[0]?
  | _ => none
 | _, _ => none
def gstore (P : Program) (t : TypeId) (H : Heap) (a v : GV) : Option Heap :=
 match tsize P t with
 | some size =>
  match cellsO v with
  | none => none
  | some cells =>
  if cells.length ≠ size then none else
  match a with
  | .bptr nm off =>
   let (cs', H1) := lowerCells H nm.1 cells
   match H1.get nm with
   | some (.box cs) => if off + size ≤ cs.length then some (H1.set nm (.box (splice cs off cs'))) else none
   | _ => none
  | .eptr nm es top i off =>
   let (ps, H1) := pureCells H cells
   match H1.get nm with
   | some (.arr es' elems _ ro) =>
    if es' = es ∧ ro = false ∧ top = elems.length ∧ i < top then
     (match elems[i]? with
     | some e => if off + size ≤ e.length then some (H1.set nm (.arr es' (elems.set i (splice e off ps)) elems.length false)) else none
     | none => none)
    else none
   | _ => none
  | .rptr nm es i j off =>
   let (ps, H1) := pureCells H cells
   match H1.get nm with
   | some (.mat es' rows n) =>
    if es' = es then
     (match rows[i]? with
     | some r =>
      (match r[j]? with
      | some e => if off + size ≤ e.length then some (H1.set nm (.mat es' (rows.set i (r.set j (splice e off ps))) n)) else none
      | none => none)
     | none => none)
    else none
   | _ => none
  | _ => none
 | none => none
def gfill (place : Nat → Option (Nat × Nat)) (cells : List GV) : List (Nat × GV) → Option (List GV)
  | [] => some cells
  | (i, v) :: rest =>
    match place i with
    | none => none
    | some (off, size) =>
      match cellsO v with
      | none => none
      | some vs =>
      if vs.length ≠ size ∨ off + vs.length > cells.length then none else gfill place (splice cells off vs) rest
def chunks {α : Type} (es : Nat) : Nat → List α → List (List α)
 | 0, _ => []
 | n + 1, l => l.take es :: chunks es n (l.drop es)
def gint (op : BinOp) (k : IntKind) (a b : Int) : Option PV :=
 match op with
 | .add => some (.int k (k.wrap (a + b)))
 | .sub => some (.int k (k.wrap (a - b)))
 | .mul => some (.int k (k.wrap (a * b)))
 | .quo => if b = 0 then none else some (.int k (k.wrap (a.tdiv b)))
 | .rem => if b = 0 then none else some (.int k (a.tmod b))
 | .and => some (.int k (k.wrap (BitVec.ofInt k.bits a &&& BitVec.ofInt k.bits b).toNat))
 | .or => some (.int k (k.wrap (BitVec.ofInt k.bits a ||| BitVec.ofInt k.bits b).toNat))
 | .xor => some (.int k (k.wrap (BitVec.ofInt k.bits a ^^^ BitVec.ofInt k.bits b).toNat))
 | .andNot => some (.int k (k.wrap (BitVec.ofInt k.bits a &&& ~~~(BitVec.ofInt k.bits b)).toNat))
 | .eql => some (.bool (a == b))
 | .neq => some (.bool (a != b))
 | .lss => some (.bool (a < b))
 | .leq => some (.bool (a ≤ b))
 | .gtr => some (.bool (a > b))
 | .geq => some (.bool (a ≥ b))
 | _ => none
def gshift (op : BinOp) (k : IntKind) (a b : Int) : Option PV :=
 if b < 0 then none else
 match op with
 | .shl => some (.int k (k.wrap (a * 2 ^ (min b.toNat k.bits))))
 | .shr => some (.int k (a.fdiv (2 ^ (min b.toNat k.bits))))
 | _ => none
def gstr (op : BinOp) (a b : List UInt8) : Option PV :=
 match op with
 | .add => if a.length + b.length ≤ 4611686018427387904 then some (.str (a ++ b)) else none
 | .eql => some (.bool (a == b))
 | .neq => some (.bool (!(a == b)))
 | .lss => some (.bool (Op.bytesLess a b))
 | .leq => some (.bool (Op.bytesLess a b || a == b))
 | .gtr => some (.bool (!(Op.bytesLess a b || a == b)))
 | .geq => some (.bool (!Op.bytesLess a b))
 | _ => none
inductive SK where
 | int (k : IntKind)
 | bool
 | str
def eqRow : List SK → List PV → List PV → Option Bool
 | [], [], [] => some true
 | .int k :: ks, .int k1 x :: a, .int k2 y :: b => if k1 = k ∧ k2 = k then (match eqRow ks a b with | some q => some (x == y && q) | none => none) else none
 | .bool :: ks, .bool x :: a, .bool y :: b => (match eqRow ks a b with | some q => some (x == y && q) | none => none)
 | .str :: ks, .str x :: a, .str y :: b => (match eqRow ks a b with | some q => some (x == y && q) | none => none)
 | _, _, _ => none
section
inductive Up where
 | scopes (n : Nat)
 | box (t : Tmp)
structure Ctx where
 P : Program
 keep : FuncId → Bool
 ann : FuncId → Nat → Option (List Nat × List Nat)
 up : FuncId → Nat → Up
 own : FuncId → Nat → Bool
 frz : FuncId → Bool
 bor : FuncId → Bool
 car : FuncId → Nat → Bool
 cln : FuncId → Bool
 lift : FuncId → Nat → Option Tmp
 row : FuncId → Nat → Option Nat
 eqs : TypeId → Option (List SK)
 typ : TypeId → Bool := fun _ => false
 tab : FuncId → Bool := fun _ => false
 lit : FuncId → Nat → Bool := fun _ _ => false
 ext : FuncId → Option (List GV → Heap → Option (GV × Heap)) := fun _ => none
def evp (s : Slots) (x : Nat × Operand) : Nat × GV := (x.1, ev s x.2)
section
variable (K : Ctx)
def tyOk (key : Nat) : Blk → Bool
 | .box _ | .arr .. => decide (key < tyBase)
 | _ => true
def gnewAt (H : Heap) (l key : Nat) (b : Blk) : Option (Nm × Heap) :=
 if H.length ≤ l then none else
 match H.get (l, key) with
 | some _ => none
 | none => if tyOk key b then some ((l, key), H.set (l, key) b) else none
def gnewT (H : Heap) (l t d : Nat) (b : Blk) : Option (Nm × Heap) :=
 if H.length ≤ l then none else
 match H.get (l, tyKey t d) with
 | some _ => none
 | none => if tyName (tyKey t d) = some t then some ((l, tyKey t d), H.set (l, tyKey t d) b) else none
def gnewE (H : Heap) (l e key : Nat) (b : Blk) : Option (Nm × Heap) := if K.typ e then gnewT H l e key b else gnewAt H l key b
def gnew (H : Heap) (key : Nat) (b : Blk) : Option (Nm × Heap) := gnewAt H (H.length - 1) key b
def upLevel (H : Heap) (s : Slots) : Up → Option Nat
 | .scopes n => if H.length ≤ n then none else some (H.length - 1 - n)
 | .box t => match look s t with | .bptr nm _ => some nm.1 | _ => none
def upBox (s : Slots) : Up → Option Nm
 | .box t => match look s t with | .bptr nm _ => some nm | _ => none
 | _ => none
def glen (t : TypeId) (H : Heap) (x : GV) : Option Int :=
 match K.P.underlying t, x with
 | some (.array n _), _ => some n
 | some (.slice _), .hdr _ _ _ _ len => some len
 | some (.slice _), .rhdr _ _ _ len => some len
 | some (.slice _), .nils => some 0
 | some (.slice _), .lits l => some l.length
 | some (.slice _), .pure (.slice l) => some l.length
 | some .string, .pure (.str l) => some l.length
 | some (.map _ _), .pure .nilm => some 0
 | some (.map _ _), .map nm => (match H.get nm with | some (.map es) => some es.length | _ => none)
 | _, _ => none
def gbin (op : BinOp) (t : TypeId) (x y : GV) : Option PV :=
 match x, y with
 | .pure (.int k a), .pure (.int k' b) =>
  match op with
  | .shl | .shr => gshift op k a b
  | _ => if k = k' then gint op k a b else none
 | .pure (.str a), .pure (.str b) => gstr op a b
 | .pure (.bool a), .pure (.bool b) =>
  (match op, K.P.underlying t with
  | .eql, some .bool => some (.bool (a == b))
  | .neq, some .bool => some (.bool (!(a == b)))
  | _, _ => none)
 | .pure (.agg a), .pure (.agg b) =>
  match K.eqs t with
  | some ks =>
   (match op, eqRow ks a b with
   | .eql, some q => some (.bool q)
   | .neq, some q => some (.bool (!q))
   | _, _ => none)
  | none => none
 | .pure .nilp, .pure .nilp => (match op, K.P.underlying t with | .eql, some (.pointer _) => some (.bool true) | .neq, some (.pointer _) => some (.bool false) | _, _ => none)
 | .bptr _ _, .pure .nilp => (match op, K.P.underlying t with | .eql, some (.pointer _) => some (.bool false) | .neq, some (.pointer _) => some (.bool true) | _, _ => none)
 | .bptr nm o, .bptr nm' o' => if nm = nm' ∧ o = o' then (match op, K.P.underlying t with | .eql, some (.pointer e) => if (tsize K.P e).isSome then some (.bool true) else none | .neq, some (.pointer e) => if (tsize K.P e).isSome then some (.bool false) else none | _, _ => none) else none
 | _, _ => none
def isNilC : Operand → Bool
 | .const (.slice none 0 0) => true
 | _ => false
def nonNil : GV → Bool
 | .hdr .. => true
 | .pure (.slice (_ :: _)) => true
 | .lits (_ :: _) => true
 | _ => false
def gnilEq (op : BinOp) (t : TypeId) (x : GV) : Option PV :=
 match K.P.underlying t, op with
 | some (.slice _), .eql => if nonNil x then some (.bool false) else none
 | some (.slice _), .neq => if nonNil x then some (.bool true) else none
 | _, _ => none
def isNilI : Operand → Bool
 | .const .nilIface => true
 | _ => false
def gnilI (op : BinOp) (t : TypeId) (x : GV) : Option PV :=
 match K.P.underlying t, op, x with
 | some (.interface _), .eql, .pure .nili => some (.bool true)
 | some (.interface _), .neq, .pure .nili => some (.bool false)
 | some (.interface _), .eql, .pure (.iface _ _) => some (.bool false)
 | some (.interface _), .neq, .pure (.iface _ _) => some (.bool true)
 | _, _, _ => none
def gbinN (op : BinOp) (t : TypeId) (s : Slots) (x y : Operand) : Option PV := if isNilC y then gnilEq K op t (ev s x) else if isNilI y then gnilI K op t (ev s x) else gbin K op t (ev s x) (ev s y)
def gindex (x i : GV) (t : TypeId) : Option GV :=
 match i with
 | .pure (.int _ i) =>
  if i < 0 then none else
  match tarr K.P t with
  | some (n, e) =>
   match tagg K.P e, tsize K.P e with
   | some ag, some size =>
    if (n : Int) ≤ i then none else
    (match x with
    | .agg cs => if (i.toNat * size) + size ≤ cs.length then (if ag then some (mkAgg ((cs.drop (i.toNat * size)).take size)) else cs[i.toNat * size]?) else none
    | .pure (.agg cs) => if (i.toNat * size) + size ≤ cs.length then (if ag then some (.pure (.agg ((cs.drop (i.toNat * size)).take size))) else (match cs[i.toNat * size]? with | some p => some (.pure p) | none => none)) else none
    | _ => none)
   | _, _ => none
  | none => match x, K.P.underlying t with
   | .pure (.str l), some .string => (match l[i.toNat]? with | some b => some (.pure (.int .u8 b.toNat)) | none => none)
   | _, _ => none
 | _ => none
def gmoved (q : Nat) : GV → Option GV
 | .bptr nm off => some (.bptr nm (off + q))
 | .eptr nm es top j off => some (.eptr nm es top j (off + q))
 | .pptr cs => if q ≤ cs.length then some (.pptr (cs.drop q)) else none
 | .lptr cs => if q ≤ cs.length then some (.lptr (cs.drop q)) else none
 | .rptr nm es i j off => some (.rptr nm es i j (off + q))
 | _ => none
def gindexAddr (t : TypeId) (x i : GV) : Option GV :=
 match i with
 | .pure (.int _ i) =>
  if i < 0 then none else
  match tarr K.P t with
  | some (n, e) =>
   match tsize K.P e with
   | some size =>
    if (n : Int) ≤ i then none else
    gmoved (i.toNat * size) x
   | none => none
  | none => match telem K.P t with
   | some e => match tsize K.P e with
    | some size =>
     (match x with
     | .hdr nm es top lo len => if es = size ∧ i < len then some (.eptr nm es top (lo + i.toNat) 0) else none
     | .pure (.slice l) => (match l[i.toNat]? with | some cs => if cs.length = size then some (.pptr cs) else none | none => none)
     | .lits l => (match l[i.toNat]? with | some cs => if cs.length = size then some (.lptr cs) else none | none => none)
     | .rhdr nm es q len => if es = size ∧ i < len then some (.rptr nm es q i.toNat 0) else none
     | _ => none)
    | none => none
   | none => none
 | _ => none
def gbound (x : Option GV) (dflt : Nat) : Option Nat :=
 match x with
 | none => some dflt
 | some (.pure (.int _ i)) => if i < 0 then none else some i.toNat
 | _ => none
def gslice (t : TypeId) (x : GV) (lo hi mx : Option GV) : Option GV :=
 if mx.isSome then
  (match gbound lo 0, hi, mx, telem K.P t with
  | some a, some (.pure (.int _ b)), some (.pure (.int _ m)), some e =>
   (match tsize K.P e, x with
   | some _, .nils => if a = 0 ∧ b = 0 ∧ m = 0 then some .nils else none
   | some _, .pure (.slice _) => if a = 0 ∧ b = 0 ∧ m = 0 then some .nils else none
   | some es', .hdr nm es top l0 len =>
    if a = 0 ∧ b = 0 ∧ m = 0 then some .nils
    else if (a : Int) < b ∧ b ≤ m ∧ m = len ∧ l0 + len = top ∧ es' = es then some (.hdr nm es top (l0 + a) (b.toNat - a)) else none
   | _, _ => none)
  | _, _, _, _ => none)
 else
 match x with
 | .pptr cs =>
  (match lo, hi, tarr K.P t with
  | none, none, some (n, e) =>
   (match tsize K.P e with
   | some size => if 0 < size ∧ 0 < n ∧ n * size ≤ cs.length then some (.pure (.slice (chunks size n cs))) else none
   | none => none)
  | _, _, _ => none)
 | .pure (.str l) =>
  (match gbound lo 0, gbound hi l.length, K.P.underlying t with
  | some a, some b, some .string => if a ≤ b ∧ b ≤ l.length then some (.pure (.str ((l.take b).drop a))) else none
  | _, _, _ => none)
 | .hdr nm es top l0 len =>
  (match gbound lo 0, gbound hi len, telem K.P t with
  | some a, some b, some e => if a ≤ b ∧ (b ≤ len ∨ l0 + b ≤ top) ∧ tsize K.P e = some es then (if a = b ∧ 0 < a then some (.pure (.slice [])) else some (.hdr nm es top (l0 + a) (b - a))) else none
  | _, _, _ => none)
 | .pure (.slice l) =>
  (match gbound lo 0, gbound hi l.length, telem K.P t with
  | some a, some b, some e =>
   if a ≤ b ∧ b ≤ l.length then
    (match tsize K.P e with
    | some es => if l.all (fun r => r.length == es) then some (.pure (.slice ((l.take b).drop a))) else none
    | none => none)
   else none
  | _, _, _ => none)
 | .nils => (match gbound lo 0, gbound hi 0, telem K.P t with | some 0, some 0, some e => if (tsize K.P e).isSome then some (.pure (.slice [])) else none | _, _, _ => none)
 | _ => none
def pureRows (H : Heap) : List (List GV) → List (List PV) × Heap
 | [] => ([], H)
 | g :: r => let (p, H1) := pureCells H g; let (ps, H2) := pureRows H1 r; (p :: ps, H2)
def bytesOf : List (List PV) → Option (List UInt8)
 | [] => some []
 | [.int .u8 n] :: r => if 0 ≤ n ∧ n < 256 then (match bytesOf r with | some l => some (UInt8.ofNat n.toNat :: l) | none => none) else none
 | _ :: _ => none
def gelems (H : Heap) : GV → Option (List (List PV) × Heap)
 | .nils => some ([], H)
 | .pure (.slice l) => some (l, H)
 | .pure (.str l) => some (l.map fun b => [.int .u8 b.toNat], H)
 | .lits l => some (pureRows H l)
 | .hdr nm es top lo len => match sliceOf H nm es top lo len with | .slice l => some (l, H) | _ => none
 | _ => none
def zsize (P : Program) (t : TypeId) : Option Nat := match tzero P t with | some z => (match cellsO z with | some zs => some zs.length | none => none) | none => none
def spreads (P : Program) (t : Option TypeId) : Bool :=
 match t with
 | some t => (match P.underlying t with | some (.slice _) | some .string => true | _ => false)
 | none => false
def nmOk (e : TypeId) (nm : Nm) : Bool := if K.typ e then decide (tyName nm.2 = some e) else decide (nm.2 < tyBase)
def pureRowsO : List (List GV) → Option (List (List PV))
 | [] => some []
 | r :: rs => match allPure r, pureRowsO rs with | some p, some ps => some (p :: ps) | _, _ => none
def gappend (H : Heap) (l key : Nat) (t : TypeId) (s x : GV) : Option (GV × Heap) :=
  match telem K.P t with
  | some e =>
    match tsize K.P e, tbytes K.P e, gelems H x with
    | some size, some bytes, some (xs, H) =>
      if decide (zsize K.P e = some size) && xs.all (fun r => r.length == size) && decide (0 < size) && decide (0 < bytes) && decide (bytes ≤ 1048576) then
        match s with
        | .nils =>
          if xs.length * bytes ≤ 1099511627776 then
            (if xs.isEmpty then some (.nils, H) else
            match gnewE K H l e key (.arr size xs 0 false) with
            | some (nm, H) => some (.hdr nm size xs.length 0 xs.length, H)
            | none => none)
          else none
        | .lits old =>
          (match pureRowsO old with
          | some ps =>
            if ps.isEmpty = false ∧ xs.isEmpty = false ∧ (ps.all fun r => r.length == size) = true ∧ (ps.length + xs.length) * bytes ≤ 1099511627776 then
              (match gnewE K H l e key (.arr size (ps ++ xs) 0 false) with
              | some (nm, H) => some (.hdr nm size (ps.length + xs.length) 0 (ps.length + xs.length), H)
              | none => none)
            else none
          | none => none)
        | .hdr nm es top lo len =>
          (match H.get nm with
          | some (.arr es' elems vf ro) =>
            if es' = size ∧ es = size ∧ top = elems.length ∧ lo = 0 ∧ len = top ∧ vf ≤ top ∧ ro = false ∧ (len + xs.length) * bytes ≤ 1099511627776 ∧ nmOk K e nm = true then
              (if xs.isEmpty then some (.hdr nm es top lo len, H)
               else some (.hdr nm es (top + xs.length) 0 (top + xs.length), H.set nm (.arr es' (elems ++ xs) vf false)))
            else if es' = size ∧ es = size ∧ top = elems.length ∧ vf ≤ top ∧ ro = false ∧ lo + len + xs.length ≤ top then
              (if xs.isEmpty then some (.hdr nm es top lo len, H) else some (.hdr nm es top lo (len + xs.length), H.set nm (.arr es' (splice elems (lo + len) xs) top false)))
            else none
          | _ => none)
        | _ => none
      else none
    | _, _, _ => none
  | none => none
def leads (nm : Nm) : List GV → Bool
 | [] => false
 | .hdr m _ _ _ _ :: r => decide (m = nm) || leads nm r
 | _ :: r => leads nm r
def addRow (H : Heap) (bn : Nm) (key es : Nat) (r : List (List PV)) : Option (Nat × Heap) :=
 if H.length ≤ bn.1 then none else
 match H.get (bn.1, key) with
 | none => some (0, H.set (bn.1, key) (.mat es [r] 0))
 | some (.mat es' rows n) =>
  (match H.get bn with
  | some (.box cs) => if es' = es ∧ leads (bn.1, key) cs = true then some (rows.length, H.set (bn.1, key) (.mat es (rows ++ [r]) n)) else none
  | _ => none)
 | _ => none
def tellRow (H : Heap) (bytes : Nat) (s : GV) (nm : Nm) (es i len : Nat) : Option (GV × Heap) :=
 match H.get nm with
 | some (.mat es' rows n) =>
  if es' = es ∧ i = n ∧ n < rows.length ∧ (rows.getD n []).length = len ∧ (n + 1) * bytes ≤ 1099511627776 then
   match s with
   | .nils => if n = 0 then some (.hdr nm 1 1 0 1, H.set nm (.mat es rows 1)) else none
   | .hdr nm' es1 top lo ln => if nm' = nm ∧ es1 = 1 ∧ top = n ∧ lo = 0 ∧ ln = n then some (.hdr nm 1 (n + 1) 0 (n + 1), H.set nm (.mat es rows (n + 1))) else none
   | _ => none
  else none
 | _ => none
def layRow (H : Heap) (bn : Nm) (key size bytes : Nat) (s x : GV) : Option (GV × Heap) :=
 match s, gelems H x with
 | .nils, some (xs, H) =>
  if xs.all (fun r => r.length == size) && !xs.isEmpty && decide (xs.length * bytes ≤ 1099511627776) then
   (match addRow H bn key size xs with | some (i, H) => some (.rhdr (bn.1, key) size i xs.length, H) | none => none)
  else none
 | _, _ => none
def rowLit : GV → Option (Nm × Nat × Nat × Nat)
 | .lits [[.rhdr nm es i len]] => some (nm, es, i, len)
 | _ => none
def gappendR (H : Heap) (bn : Nm) (key : Nat) (t : TypeId) (s x : GV) : Option (GV × Heap) :=
 match telem K.P t with
 | some e =>
  match tsize K.P e, tbytes K.P e with
  | some size, some bytes =>
   if decide (zsize K.P e = some size) && decide (0 < size) && decide (0 < bytes) && decide (bytes ≤ 1048576) then
    match rowLit x with
    | some (nm, es, i, len) => if size = 1 then tellRow H bytes s nm es i len else none
    | none => layRow H bn key size bytes s x
   else none
  | _, _ => none
 | none => none
def lowerVal (H : Heap) (l0 : Nat) : GV → Option (GV × Heap)
 | .agg l => let (l', H1) := lowerCells H l0 l; some (mkAgg l', H1)
 | .tuple _ | .lits _ => none
 | g => let (g', H1) := lowerCell H l0 g; some (g', H1)
def rowEq : List PV → List PV → Option Bool
 | [], [] => some true
 | .int k x :: a, .int k' y :: b => if k = k' then (match rowEq a b with | some q => some (x == y && q) | none => none) else none
 | .bool x :: a, .bool y :: b => (match rowEq a b with | some q => some (x == y && q) | none => none)
 | .str x :: a, .str y :: b => (match rowEq a b with | some q => some (x == y && q) | none => none)
 | _, _ => none
def keyEq : PV → PV → Option Bool
 | .int k a, .int k' b => if k = k' then some (a == b) else none
 | .str a, .str b => some (a == b)
 | .bool a, .bool b => some (a == b)
 | .agg a, .agg b => rowEq a b
 | _, _ => none
def findEntry (k : PV) : List (PV × GV) → Nat → Option (Option (Nat × GV))
 | [], _ => some none
 | (k', v) :: r, i => match keyEq k k' with | some true => some (some (i, v)) | some false => findEntry k r (i + 1) | none => none
def tmap (P : Program) (t : TypeId) : Option (TypeId × TypeId) := match P.underlying t with | some (.map k e) => some (k, e) | _ => none
def keyFits (P : Program) (t : TypeId) (k : PV) : Bool :=
 match P.underlying t, k with
 | some (.int k), .int k' _ => decide (k' = k)
 | some .string, .str _ => true
 | some .bool, .bool _ => true
 | _, _ => false
def fitsRow : List SK → List PV → Bool
 | [], [] => true
 | .int k :: ks, .int k' _ :: a => decide (k' = k) && fitsRow ks a
 | .bool :: ks, .bool _ :: a => fitsRow ks a
 | .str :: ks, .str _ :: a => fitsRow ks a
 | _, _ => false
def keyFitsK (t : TypeId) (k : PV) : Bool :=
 keyFits K.P t k || (match K.eqs t, k, K.P.underlying t with | some ks, .agg l, some _ => fitsRow ks l | _, _, _ => false)
def MK.pv : MK → PV
 | .int k n => .int k n
 | .str s => .str s
def mapOf (H : Heap) : GV → Option (List (PV × GV))
 | .pure .nilm => some []
 | .pure (.fmap f) => (match mapQ f with | some es => some (es.map fun e => (e.1.pv, .pure (.fn e.2))) | none => none)
 | .map nm => (match H.get nm with | some (.map es) => some es | _ => none)
 | _ => none
def glookup (t : TypeId) (H : Heap) (x k : GV) (ok : Bool) : Option GV :=
 match tmap K.P t, k, mapOf H x with
 | some (kt, e), .pure k, some es =>
  if keyFitsK K kt k = false then none else
  match findEntry k es 0 with
  | some (some (_, v)) => some (if ok then mkTuple [v, .pure (.bool true)] else v)
  | some none => (match tzero K.P e with | some z => some (if ok then mkTuple [z, .pure (.bool false)] else z) | none => none)
  | none => none
 | _, _, _ => none
def gmapUpdate (t : TypeId) (H : Heap) (m k v : GV) : Option Heap :=
 match tmap K.P t, m, k with
 | some (kt, _), .map nm, .pure k =>
  match lowerVal H nm.1 v with
  | some (v', H1) =>
   match H1.get nm with
   | some (.map es) =>
    if keyFitsK K kt k = false then none else
    match findEntry k es 0 with
    | some (some (i, _)) => some (H1.set nm (.map (es.set i (k, v'))))
    | some none => some (H1.set nm (.map (es ++ [(k, v')])))
    | none => none
   | _ => none
  | none => none
 | _, _, _ => none
def gclear (t : TypeId) (H : Heap) (x : GV) : Option Heap :=
 match telem K.P t with
 | some e =>
  match tsize K.P e, tzero K.P e, x with
  | some size, some z, .hdr nm es top lo len =>
   (match cellsO z, H.get nm with
   | some zs, some (.arr es' elems vf ro) =>
    (match allPure (zs.map canon1) with
    | some ps => if es' = size ∧ es = size ∧ ps.length = size ∧ top = elems.length ∧ vf ≤ top ∧ ro = false ∧ lo + len ≤ top ∧ 0 < len then some (H.set nm (.arr es' (splice elems lo (List.replicate len ps)) top false)) else none
    | none => none)
   | _, _ => none)
  | _, _, _ => none
 | none => none
def gminmax (mx : Bool) : List GV → Option GV
 | [] => none
 | [.pure (.int k a)] => some (.pure (.int k a))
 | .pure (.int k a) :: .pure (.int k' b) :: r => if k = k' then gminmax mx (.pure (.int k (if mx then (if a < b then b else a) else (if b < a then b else a))) :: r) else none
 | _ => none
termination_by l => l.length
def mkFunc (f : FuncId) (first cap : List GV) : GV := if first.isEmpty && cap.isEmpty then .pure (.fn f) else .func f first cap
def gunsafeStr (pt : TypeId) (H : Heap) (x y : GV) : Option (GV × Heap) :=
 match x, y, K.P.underlying pt with
 | .eptr nm 1 top 0 0, .pure (.int .i64 n), some (.pointer e) =>
  (match H.get nm with
  | some (.arr 1 rows vf false) =>
   if 0 < n ∧ n.toNat ≤ top ∧ n ≤ 9223372036854775807 ∧ top = rows.length ∧ vf ≤ top ∧ tyName nm.2 = some e ∧ tsize K.P e = some 1 then
    (match bytesOf (rows.take n.toNat) with | some l => some (.pure (.str l), H.set nm .gone) | none => none)
   else none
  | _ => none)
 | _, _, _ => none
def extTab (f : FuncId) (args : List GV) (H : Heap) : Option (GV × Heap) := if args.isEmpty then some (.pure (.fmap f), H) else none
def tabF (fn : FuncId) (o : Oper) : Option FuncId :=
 match o.op, o.dst with
 | .call { callee := .value (.func f), args, .. }, some d => if args.isEmpty && K.tab f && (K.lift fn d).isNone then some f else none
 | _, _ => none
def gop (fn : FuncId) (o : Oper) (s : Slots) (H : Heap) : Option (GV × Heap) :=
 match o.op with
 | .move x | .assign x => some (ev s x, H)
 | .pick c a b => match ev s c with | .pure (.bool t) => some (if t then ev s a else ev s b, H) | _ => none
 | .alloc t =>
  match o.dst, tzero K.P t with
  | some d, some z => (match cellsO z with | some cs => (match gnewE K H (H.length - 1) t d (.box cs) with | some (nm, H) => some (.bptr nm 0, H) | none => none) | none => none)
  | _, _ => none
 | .box _ x =>
  match o.dst, cellsO (ev s x) with
  | some d, some cs => (match gnew H d (.box cs) with | some (nm, H) => some (.bptr nm 0, H) | none => none)
  | _, _ => none
 | .build t parts =>
  match tzero K.P t with
  | some z =>
   match cellsO z with
   | some zs =>
    let ps := parts.toList.map (evp s)
    let r := match tarr K.P t with
     | some (_, e) => (match tsize K.P e with | some size => gfill (fun i => some (i * size, size)) zs ps | none => none)
     | none => (match tplaces K.P t with | some l => gfill (fun i => l[i]?) zs ps | none => none)
    (match r with | some cs => some (mkAgg cs, H) | none => none)
   | none => none
  | none => none
 | .buildSlice t len parts =>
  match telem K.P t with
  | some e =>
   match tsize K.P e, tzero K.P e with
   | some size, some z =>
    match cellsO z with
    | some zs =>
     if zs.length = size ∧ 0 < size ∧ len * size ≤ 16777216 then
      match gfill (fun i => some (i * size, size)) (List.replicate len zs).flatten (parts.toList.map (evp s)) with
      | some cs =>
       if len = 0 then some (.nils, H) else
       let rows := chunks size len cs
       (match allPure (cs.map canon1) with
       | some ps =>
        (match o.dst with
        | some d => if K.own fn d then (match gnew H d (.arr size (chunks size len ps) 0 false) with | some (nm, H) => some (.hdr nm size len 0 len, H) | none => none) else if K.lit fn d then some (.lits rows, H) else some (.pure (.slice (chunks size len ps)), H)
        | none => none)
       | none =>
        (match o.dst with
        | some d => if K.own fn d then (match gnew (pureCells H cs).2 d (.arr size (chunks size len (pureCells H cs).1) 0 false) with | some (nm, H) => some (.hdr nm size len 0 len, H) | none => none) else some (.lits rows, H)
        | none => some (.lits rows, H)))
      | none => none
     else none
    | none => none
   | _, _ => none
  | none => none
 | .load t a => match gload K.P t H (ev s a) with | some v => some (v, H) | none => none
 | .store t a x => match gstore K.P t H (ev s a) (ev s x) with | some H => some (gdead, H) | none => none
 | .nilCheck x =>
  match ev s x with
  | .bptr nm off => some (.bptr nm off, H)
  | .eptr nm es top i off => some (.eptr nm es top i off, H)
  | .pptr cs => some (.pptr cs, H)
  | .lptr cs => some (.lptr cs, H)
  | .func f first cap => some (.func f first cap, H)
  | .pure (.fn f) => some (.pure (.fn f), H)
  | .yield nm => some (.yield nm, H)
  | _ => none
 | .binOp op t x y _ => match gbinN K op t s x y with | some p => some (.pure p, H) | none => none
 | .unOp op _ x =>
  match op, ev s x with
  | .not, .pure (.bool b) => some (.pure (.bool (!b)), H)
  | .neg, .pure (.int k n) => some (.pure (.int k (k.wrap (-n))), H)
  | _, _ => none
 | .convert src dst x =>
  match K.P.underlying src, K.P.underlying dst, ev s x with
  | some _, some (.int k), .pure (.int _ n) => some (.pure (.int k (k.wrap n)), H)
  | some _, some .string, .pure (.str l) => some (.pure (.str l), H)
  | some .string, some (.slice e), .pure (.str l) => (match K.P.underlying e with | some (.int .u8) => some (.pure (.slice (l.map fun b => [.int .u8 b.toNat])), H) | _ => none)
  | some (.slice e), some .string, .pure (.slice rows) => (match K.P.underlying e, bytesOf rows with | some (.int .u8), some l => if rows.isEmpty then none else some (.pure (.str l), H) | _, _ => none)
  | _, _, _ => none
 | .makeFunc (.func f) first cap => some (mkFunc f (first.toList.map (ev s)) (cap.toList.map (ev s)), H)
 | .makeMap _ none => match o.dst with | some d => (match gnew H d (.map []) with | some (nm, H) => some (.map nm, H) | none => none) | none => none
 | .makeSlice t l c =>
  match telem K.P t with
  | some e =>
   match tsize K.P e, tbytes K.P e, tzero K.P e, ev s l, ev s c, o.dst with
   | some size, some bytes, some z, .pure (.int _ l), .pure (.int _ c), some d =>
    match cellsO z with
    | some zs =>
     (match allPure (zs.map canon1) with
     | some ps =>
      if ps.length = size ∧ 0 < size ∧ 0 < bytes ∧ 0 ≤ l ∧ l ≤ c ∧ c * bytes ≤ 1099511627776 then
       (match gnew H d (.arr size (List.replicate l.toNat ps) 0 false) with | some (nm, H) => some (.hdr nm size l.toNat 0 l.toNat, H) | none => none)
      else none
     | none => none)
    | none => none
   | _, _, _, _, _, _ => none
  | none => none
 | .slice t x lo hi mx => match gslice K t (ev s x) (lo.map (ev s)) (hi.map (ev s)) (mx.map (ev s)) with | some v => some (v, H) | none => none
 | .fieldAddr st x f =>
  match tfield K.P st f with
  | some (off, ft) =>
   match tsize K.P ft with
   | some size =>
    if size = 0 then none else
    (match gmoved off (ev s x) with | some v => some (v, H) | none => none)
   | none => none
  | none => none
 | .field t x f =>
  match tfield K.P t f with
  | some (off, ft) =>
   match tagg K.P ft, tsize K.P ft, ev s x with
   | some ag, some size, .agg cs => if off + size ≤ cs.length then (if ag then some (mkAgg ((cs.drop off).take size), H) else (match cs[off]? with | some v => some (v, H) | none => none)) else none
   | some ag, some size, .pure (.agg cs) => if off + size ≤ cs.length then (if ag then some (.pure (.agg ((cs.drop off).take size)), H) else (match cs[off]? with | some v => some (.pure v, H) | none => none)) else none
   | _, _, _ => none
  | none => none
 | .indexAddr t x i => match gindexAddr K t (ev s x) (ev s i) with | some v => some (v, H) | none => none
 | .index t x i => match gindex K (ev s x) (ev s i) t with | some v => some (v, H) | none => none
 | .lookup t x k ok => match glookup K t H (ev s x) (ev s k) ok with | some v => some (v, H) | none => none
 | .mapUpdate t m k v => match gmapUpdate K t H (ev s m) (ev s k) (ev s v) with | some H => some (gdead, H) | none => none
 | .insert t m k v => match gmapUpdate K t H (ev s m) (ev s k) (ev s v) with | some H => some (gdead, H) | none => none
 | .extract t ix =>
  match ev s t with
  | .tuple l => (match l[ix]? with | some v => some (v, H) | none => none)
  | .pure (.tuple l) => (match l[ix]? with | some v => some (.pure v, H) | none => none)
  | _ => none
 | .call c =>
  match c.callee with
  | .builtin .len => (match c.argTypes[0]?, c.args[0]? with | some t, some x => (match glen K t H (ev s x) with | some n => some (.pure (.int .i64 n), H) | none => none) | _, _ => none)
  | .builtin .append => (match c.argTypes[0]?, c.args[0]?, c.args[1]?, o.dst with | some t, some x, some y, some d => if spreads K.P c.argTypes[1]? then (match K.row fn d with | none => (match upLevel H s (K.up fn d) with | some l => gappend K H l d t (ev s x) (ev s y) | none => none) | some key => (match upBox s (K.up fn d) with | some bn => gappendR K H bn key t (ev s x) (ev s y) | none => none)) else none | _, _, _, _ => none)
  | .builtin .clear => (match c.argTypes[0]?, c.args[0]? with | some t, some x => (match gclear K t H (ev s x) with | some H => some (.pure (.tuple []), H) | none => none) | _, _ => none)
  | .builtin .unsafeSliceData => (match c.args.toList with
   | [x] => (match ev s x with | .hdr nm es top 0 _ => if 0 < top then some (.eptr nm es top 0 0, H) else none | _ => none)
   | _ => none)
  | .builtin .unsafeString => (match c.args.toList, c.argTypes.toList with
   | [x, y], [pt, _] => gunsafeStr K pt H (ev s x) (ev s y)
   | _, _ => none)
  | .builtin .min => (match gminmax false (c.args.toList.map (ev s)) with | some v => some (v, H) | none => none)
  | .builtin .max => (match gminmax true (c.args.toList.map (ev s)) with | some v => some (v, H) | none => none)
  | .value _ => (match tabF K fn o with | some f => some (.pure (.fmap f), H) | none => none)
  | _ => none
 | _ => none
def goCalls (o : Oper) : Option (Operand × List Operand) :=
 match o.op with
 | .call { callee := .value f, args, .. } => some (f, args.toList)
 | _ => none
abbrev Rec := FuncId → Code → GSt → Option (GX × GSt)
def slotsOf : Nat → List GV → Slots
 | _, [] => []
 | i, v :: r => (i, v) :: slotsOf (i + 1) r
def gresults (fn : Func) (st : GSt) : Option (List GV) :=
 fn.results.toList.mapM fun
  | .tmp t => some (look st.s t)
  | .cell a t => gload K.P t st.h (look st.s a)
def refs1 (L : Nat) : GV → List Nat
 | .bptr nm _ | .hdr nm _ _ _ _ | .eptr nm _ _ _ _ | .map nm => if nm.1 = L then [nm.2] else []
 | _ => []
def refs2 (L : Nat) : GV → List Nat
 | .agg l => l.flatMap (refs1 L)
 | .func _ first cap => first.flatMap (refs1 L) ++ cap.flatMap (refs1 L)
 | g => refs1 L g
def refs (L : Nat) : GV → List Nat
 | .tuple l => l.flatMap (refs2 L)
 | g => refs2 L g
def matRefs (fr : Fr) (L : Nat) : GV → List Nat
 | .hdr nm _ _ _ _ => if nm.1 = L then (match fr.get nm.2 with | some (.mat ..) => [nm.2] | _ => []) else []
 | _ => []
def boxRefs (fr : Fr) (L k : Nat) : List Nat := match fr.get k with | some (.box cs) => cs.flatMap (matRefs fr L) | _ => []
def deepRefs (fr : Fr) (L : Nat) (ks : List Nat) : List Nat := ks ++ ks.flatMap (boxRefs fr L)
def newKey (c k : Nat) : Nat := k * 4096 + (c + 1)
def ren1 (L c : Nat) : GV → GV
 | .bptr nm off => if nm.1 = L then .bptr (L - 1, newKey c nm.2) off else .bptr nm off
 | .hdr nm es top lo len => if nm.1 = L then .hdr (L - 1, newKey c nm.2) es top lo len else .hdr nm es top lo len
 | .eptr nm es top i off => if nm.1 = L then .eptr (L - 1, newKey c nm.2) es top i off else .eptr nm es top i off
 | .map nm => if nm.1 = L then .map (L - 1, newKey c nm.2) else .map nm
 | .yield nm => if nm.1 = L then gdead else .yield nm
 | .pure p => .pure p
 | .pptr cs => .pptr cs
 | .nils => .nils
 | _ => gdead
def ren2 (L c : Nat) : GV → GV
 | .agg l => mkAgg (l.map (ren1 L c))
 | .func f first cap => .func f (first.map (ren1 L c)) (cap.map (ren1 L c))
 | g => ren1 L c g
def ren (L c : Nat) : GV → GV
 | .tuple l => mkTuple (l.map (ren2 L c))
 | g => ren2 L c g
def isMat (fr : Fr) (k : Nat) : Bool := match fr.get k with | some (.mat ..) => true | _ => false
def clM (c : Nat) (fr : Fr) (H : Heap) (ks : List Nat) (l0 : Nat) : GV → GV
 | .hdr nm es top lo len =>
  if nm.1 = H.length ∧ nm.2 ∉ ks then .pure (sliceOfM (fr :: H) nm es top lo len)
  else if nm.1 = H.length ∧ isMat fr nm.2 = true then .hdr (H.length - 1, newKey c nm.2) es top lo len
  else clean1 [] l0 (.hdr nm es top lo len)
 | g => clean1 [] l0 g
def cleanBlk (cl : GV → GV) (H : Heap) (l0 : Nat) : Blk → Option Blk
 | .box cs => some (.box (cs.map cl))
 | .arr es elems vf ro => some (.arr es elems vf ro)
 | .map es => some (.map (es.map fun e => (e.1, clean2 H l0 e.2)))
 | .mat es rows n => some (.mat es rows n)
 | _ => none
def moveOut (cl : GV → GV) (f : Fr) (H : Heap) (c : Nat) : List Nat → Heap → Option Heap
 | [], H' => some H'
 | k :: r, H' =>
  match f.get k with
  | some b =>
   match cleanBlk cl [] (H.length - 1) b, Heap.get H' (H.length - 1, newKey c k) with
   | some b', none => if tyOk (newKey c k) b' then moveOut cl f H c r (Heap.set H' (H.length - 1, newKey c k) b') else none
   | _, _ => none
  | none => none
def dedup : List Nat → List Nat
 | [] => []
 | k :: r => if r.contains k then dedup r else k :: dedup r
def gleave (f : FuncId) (c : Nat) (r : GV) : Heap → Option (GV × Heap)
 | [] => none
 | fr :: H =>
  if K.keep f then
   match moveOut (clM c fr H (dedup (deepRefs fr H.length (refs H.length r))) (H.length - 1)) fr H c (dedup (deepRefs fr H.length (refs H.length r))) H with
   | some H' => some (ren H.length c r, H')
   | none => none
  else some (canon (clean (fr :: H) (H.length - 1) r), H)
def gcall0 (rec : Rec) (f : FuncId) (args : List GV) (c : Nat) (H : Heap) : Option (GV × Heap) :=
 match K.P.funcs[f]? with
 | none => none
 | some fn =>
  match fn.body with
  | none => none
  | some code =>
   if fn.name == "runtime.NumGoroutine" || decide (fn.ntmps < args.length) || decide (H.length = 0) then none else
   match rec f code ⟨slotsOf 0 (args.map canon), [] :: H, fn.ntmps⟩ with
   | some (.exit _, _) => none
   | some (_, st) =>
    (match gresults K fn st with
    | some rs => (match rs with
     | [r] => gleave K f c r st.h
     | rs => gleave K f c (mkTuple rs) st.h)
    | none => none)
   | none => none
def frzCell (H : Heap) : GV → GV × Heap
 | .hdr nm es top lo len => let (p, H1) := pureCell H (.hdr nm es top lo len); (.pure p, H1)
 | g => (g, H)
def frzCells (H : Heap) : List GV → List GV × Heap
 | [] => ([], H)
 | g :: r => let (p, H1) := frzCell H g; let (ps, H2) := frzCells H1 r; (p :: ps, H2)
def frzVal (H : Heap) : GV → GV × Heap
 | .agg l => let (l', H1) := frzCells H l; (mkAgg l', H1)
 | g => frzCell H g
def frzVals (H : Heap) : List GV → List GV × Heap
 | [] => ([], H)
 | g :: r => let (p, H1) := frzVal H g; let (ps, H2) := frzVals H1 r; (p :: ps, H2)
mutual
def flatP : PV → Bool
 | .slice l => l.isEmpty
 | .agg l => flatPL l
 | .tuple l => flatPL l
 | .iface _ v => flatP v
 | .fmap _ => false
 | _ => true
def flatPL : List PV → Bool
 | [] => true
 | p :: r => flatP p && flatPL r
end
def flatG : GV → Bool
 | .pure p => flatP p
 | .nils => true
 | _ => false
def flatGL : List GV → Bool
 | [] => true
 | g :: r => flatG g && flatGL r
def borBox : List GV → Option (Option Nm)
 | [] => some none
 | g :: r =>
  match borBox r with
  | none => none
  | some q =>
   match g with
   | .pure _ | .nils => some q
   | .func _ a c => if (allPure a).isSome && (allPure c).isSome then some q else none
   | .bptr nm _ => (match q with | none => some (some nm) | some nm' => if nm = nm' then some q else none)
   | _ => none
def emptyH (H : Heap) : Heap := H.map fun _ => []
def flatRows : List (List PV) → Bool
 | [] => true
 | r :: l => flatPL r && flatRows l
def lent1 (L : Nat) : GV → Bool
 | .pure p => flatP p
 | .nils => true
 | .hdr nm _ _ _ _ => decide (nm.1 = L)
 | _ => false
def lentL (L : Nat) : List GV → Bool
 | [] => true
 | g :: r => lent1 L g && lentL L r
def lent2 (L : Nat) : GV → Bool
 | .agg l => lentL L l
 | g => lent1 L g
def lentLL (L : Nat) : List GV → Bool
 | [] => true
 | g :: r => lent2 L g && lentLL L r
def lentV (L : Nat) : GV → Bool
 | .tuple l => lentLL L l
 | g => lent2 L g
def lentIns (H0 : Heap) (L : Nat) : List Nat → Heap → Option Heap
 | [], H => some H
 | k :: r, H =>
  match H0.get (L, k), H.get (L, k) with
  | some (.arr es rows vf false), none => if flatRows rows then lentIns H0 L r (H.set (L, k) (.arr es rows vf false)) else none
  | _, _ => none
def lentEnd (H0 : Heap) (v : GV) (H : Heap) : Option (GV × Heap) :=
 if lentV (H.length - 1) v then
  match lentIns H0 (H.length - 1) (dedup (refs (H.length - 1) v)) H with
  | some H' => some (v, H')
  | none => none
 else none
def gborrow (rec : Rec) (f : FuncId) (args : List GV) (c : Nat) (H : Heap) : Option (GV × Heap) :=
 match borBox args with
 | none => none
 | some none =>
  (match gcall0 K rec f args c (emptyH H) with
  | some (v, H0) => lentEnd H0 v H
  | none => none)
 | some (some nm) =>
  match H.get nm with
  | some (.box cs) =>
   if flatGL cs = false then none else
   (match gcall0 K rec f args c ((emptyH H).set nm (.box cs)) with
   | some (v, H0) =>
    (match H0.get nm with
    | some (.box cs') => if flatGL cs' then lentEnd H0 v (H.set nm (.box cs')) else none
    | _ => none)
   | none => none)
  | _ => none
def emptyArg : List GV → Bool
 | [.nils] => true
 | [.pure (.slice [])] => true
 | _ => false
def gcallN (rec : Rec) (f : FuncId) (args : List GV) (c : Nat) (H : Heap) : Option (GV × Heap) :=
 if K.cln f && emptyArg args then some (.nils, H)
 else if K.bor f then gborrow K rec f ((frzVals H args).1.map canon) c H
 else if K.frz f then gcall0 K rec f (frzVals H args).1 c (frzVals H args).2 else gcall0 K rec f args c H
def gcall (rec : Rec) (f : FuncId) (args : List GV) (c : Nat) (H : Heap) : Option (GV × Heap) :=
 if K.cln f then
  match K.ext f with
  | some e => if H.length = 0 then none else e args H
  | none => gcallN K rec f args c H
 else gcallN K rec f args c H
def putParams : Slots → Nat → List Tmp → List GV → Option Slots
 | s, _, [], [] => some s
 | s, nt, t :: ts, v :: vs => if t < nt then putParams ((t, v) :: s) nt ts vs else none
 | _, _, _, _ => none
def ground (rec : Rec) (nm : Nm) (args : List GV) (H : Heap) : Option (GV × Heap) :=
 match H.get nm with
 | some (.loop l) =>
  if l.state = .ready then
   match putParams l.slots l.nt l.params (args.map canon) with
   | some s =>
    match rec l.fn l.assign ⟨s, [] :: H, l.nt⟩ with
    | some (.normal, st) =>
     match st.h with
     | fr :: H1 =>
      (match Heap.get H1 nm with
      | some (.loop l1) =>
       if l1.state ≠ .ready then none else
       match rec l.fn l.body ⟨st.s, fr :: Heap.set H1 nm (.loop { l1 with state := .busy }), l.nt⟩ with
       | some (e, st') =>
        (match st'.h with
        | _ :: H2 =>
         (match Heap.get H2 nm with
         | some (.loop l2) =>
          (match e with
          | .normal => some (.pure (.bool true), Heap.set H2 nm (.loop { l2 with state := .ready, pending := none }))
          | e => some (.pure (.bool false), Heap.set H2 nm (.loop { l2 with state := .done, pending := some e })))
         | _ => none)
        | [] => none)
       | none => none
      | _ => none)
     | [] => none
    | _ => none
   | none => none
  else none
 | _ => none
def gcallF (rec : Rec) (f : GV) (args : List GV) (c : Nat) (H : Heap) : Option (GV × Heap) :=
 match f with
 | .pure (.fn f) => gcall K rec f args c H
 | .func f first cap => gcall K rec f (first ++ args ++ cap) c H
 | _ => none
def gcallee (rec : Rec) (f : GV) (args : List GV) (c : Nat) (H : Heap) : Option (GV × Heap) :=
 match f with
 | .yield nm => ground rec nm args H
 | f => gcallF K rec f args c H
def wantedG (ops : List Oper) (s : Slots) (o : Oper) : Option Bool :=
 match o.guard with
 | none => some true
 | some (j, want) =>
  match ops[j]? with
  | some oj => (match oj.dst with
   | some d => (match look s d with | .pure (.bool b) => some (b == want) | .pure (.tuple []) => some false | _ => none)
   | none => none)
  | none => none
def Fr.del (q : Nat) : Fr → Fr
 | [] => []
 | (k, b) :: r => if q = k then Fr.del q r else (k, b) :: Fr.del q r
def delAll : List Nat → Fr → Fr
 | [], f => f
 | q :: r, f => delAll r (f.del q)
mutual
def noRef (nm : Nm) : GV → Bool
 | .bptr n _ | .eptr n _ _ _ _ | .hdr n _ _ _ _ | .yield n | .map n | .rhdr n _ _ _ | .rptr n _ _ _ _ => decide (n ≠ nm)
 | .lits l => noRefLL nm l
 | .lptr l => noRefL nm l
 | .agg l => noRefL nm l
 | .tuple l => noRefL nm l
 | .func _ a c => noRefL nm a && noRefL nm c
 | .pure _ | .pptr _ | .nils => true
def noRefL (nm : Nm) : List GV → Bool
 | [] => true
 | g :: r => noRef nm g && noRefL nm r
def noRefLL (nm : Nm) : List (List GV) → Bool
 | [] => true
 | g :: r => noRefL nm g && noRefLL nm r
end
def noRefE (nm : Nm) : List (PV × GV) → Bool
 | [] => true
 | e :: r => noRef nm e.2 && noRefE nm r
def noRefB (nm : Nm) : Blk → Bool
 | .box cs => noRefL nm cs
 | .arr .. => true
 | .mat .. => true
 | .gone => true
 | .map es => noRefE nm es
 | .loop _ => false
def noRefF (nm : Nm) : Fr → Bool
 | [] => true
 | x :: r => noRefB nm x.2 && noRefF nm r
def noRefS (nm : Nm) : Slots → Bool
 | [] => true
 | x :: r => noRef nm x.2 && noRefS nm r
def altKey (j k : Nat) : Nat := (j + 1) * 1000000000000 + k
def lift1 (L l j : Nat) : GV → Option GV
 | .hdr nm es top lo len => if nm.1 = L then some (.hdr (l, altKey j nm.2) es top lo len) else some (.hdr nm es top lo len)
 | .pure p => some (.pure p)
 | .nils => some .nils
 | _ => none
def liftL (L l j : Nat) : List GV → Option (List GV)
 | [] => some []
 | g :: r => match lift1 L l j g, liftL L l j r with | some g, some r => some (g :: r) | _, _ => none
def liftV (L l j : Nat) : GV → Option GV
 | .agg cs => (match liftL L l j cs with | some cs => some (.agg cs) | none => none)
 | g => lift1 L l j g
def allFree (H : Heap) (l j : Nat) : List Nat → Bool
 | [] => true
 | k :: r => (H.get (l, altKey j k)).isNone && allFree H l j r
def allNew (H : Heap) (L : Nat) (f0 : Fr) : List Nat → Bool
 | [] => true
 | k :: r => (H.get (L, k)).isNone && noRefF (L, k) f0 && allNew H L f0 r
def insAll (f0 : Fr) (l j : Nat) : List Nat → Heap → Option Heap
 | [], H => some H
 | k :: r, H => match f0.get k with | some (.arr es elems vf ro) => if tyOk (altKey j k) (.arr es elems vf ro) then insAll f0 l j r (H.set (l, altKey j k) (.arr es elems vf ro)) else none | _ => none
def glift (H0 : Heap) (b : GV) (x : GV × Heap) : Option (GV × Heap) :=
 match b, x.2 with
 | .bptr nm _, f0 :: Hr =>
  let names := dedup (refs Hr.length x.1)
  let j := if allFree x.2 nm.1 0 names then 0 else 1
  if decide (nm.1 < Hr.length) && decide (H0.length = Hr.length + 1) && allNew H0 Hr.length f0 names && allFree x.2 nm.1 j names then
   (match liftV Hr.length nm.1 j x.1, insAll f0 nm.1 j names (delAll names f0 :: Hr) with
   | some v, some H => some (v, H)
   | _, _ => none)
  else none
 | _, _ => none
def gliftRow (H0 : Heap) (b : GV) (key : Nat) (x : GV × Heap) : Option (GV × Heap) :=
 match b, x.1, x.2 with
 | .bptr nm _, .hdr nm2 es top lo len, f0 :: Hr =>
  if decide (nm2.1 = Hr.length) && decide (nm.1 < Hr.length) && decide (H0.length = Hr.length + 1) && allNew H0 Hr.length f0 [nm2.2] then
   match f0.get nm2.2 with
   | some (.arr es' elems vf false) =>
    if es' = es ∧ vf ≤ top ∧ top = elems.length ∧ lo = 0 ∧ len = top ∧ 0 < top then
     (match addRow (delAll [nm2.2] f0 :: Hr) nm key es elems with | some (i, H) => some (.rhdr (nm.1, key) es i top, H) | none => none)
    else none
   | _ => none
  else none
 | _, _, _ => none
def gstep (rec : Rec) (fn : FuncId) (o : Oper) (s : Slots) (H : Heap) : Option (GV × Heap) :=
 match goCalls o with
 | some (f, args) =>
  (match K.lift fn (o.dst.getD 0) with
  | none => gcallee K rec (ev s f) (args.map (ev s)) (o.dst.getD 0) H
  | some t => (match gcallee K rec (ev s f) (args.map (ev s)) (o.dst.getD 0) H with | some x => (match K.row fn (o.dst.getD 0) with | none => glift H (look s t) x | some key => gliftRow H (look s t) key x) | none => none))
 | none => gop K fn o s H
def gops (rec : Rec) (fn : FuncId) (all : List Oper) : List Oper → GSt → Option GSt
 | [], st => some st
 | o :: r, st =>
  match wantedG all st.s o with
  | some false => (match st.put o.dst gundef with | some st => gops rec fn all r st | none => none)
  | some true =>
   (match gstep K rec fn o st.s st.h with
   | some (v, H) => (match GSt.put { st with h := H } o.dst v with | some st => gops rec fn all r st | none => none)
   | none => none)
  | none => none
def firstRegion : Code → Nat
 | .region id _ _ => id + 1
 | .seq a b => if firstRegion a = 0 then firstRegion b else firstRegion a
 | .cond _ a b => if firstRegion a = 0 then firstRegion b else firstRegion a
 | .block _ a => firstRegion a
 | .loop a => firstRegion a + 100000
 | .scope a => firstRegion a
 | .rangeFunc _ _ a b => if firstRegion a = 0 then firstRegion b else firstRegion a
 | _ => 0
def keepSlots (s : Slots) : List Nat → Slots
 | [] => []
 | t :: r => (t, look s t) :: keepSlots s r
def cleanSlots (H : Heap) (l0 : Nat) : Slots → Slots
 | [] => []
 | (t, v) :: r => (t, clean H l0 v) :: cleanSlots H l0 r
def keepO (ks : Option (List Nat)) (s : Slots) : Slots := match ks with | some l => keepSlots s l | none => s
def gscope (ks : Option (List Nat)) (st : GSt) : Option GSt :=
 match st.h with
 | fr :: H =>
  if H.length = 0 then none else
  some { s := cleanSlots (fr :: H) (H.length - 1) (keepO ks st.s), h := H, nt := st.nt }
 | [] => none
def famKey (k : Nat) : Bool := decide (1000000000000 ≤ k)
def deadKeys (L : Nat) (s : Slots) (fr : Fr) : Fr → List Nat
 | [] => []
 | x :: r => if famKey x.1 && noRefS (L, x.1) s && noRefF (L, x.1) fr then x.1 :: deadKeys L s fr r else deadKeys L s fr r
def gcol (st : GSt) : Option GSt :=
 match st.h with
 | fr :: H => if H.length = 0 then none else some { st with h := delAll (deadKeys H.length st.s fr fr) fr :: H }
 | [] => none
def gnext (fn : FuncId) (c : Code) (st : GSt) : Option GSt :=
 if K.car fn (firstRegion c) then
  match gscope ((K.ann fn (firstRegion c)).map (·.1)) st with
  | some st => gcol st
  | none => none
 else gscope none st
def isAlloc (o : Oper) : Bool :=
 match o.op, o.dst, o.guard with
 | .alloc _, some _, none => true
 | _, _, _ => false
def opPure (fn : FuncId) (o : Oper) : Bool :=
 match o.op with
 | .move _ | .assign _ | .pick .. | .build .. | .load .. | .nilCheck _ | .binOp .. | .unOp .. | .convert .. | .makeFunc .. | .slice .. | .fieldAddr .. | .field .. | .indexAddr .. | .index .. | .lookup .. | .extract .. => true
 | .buildSlice .. => (match o.dst with | some d => !K.own fn d | none => true)
 | .call { callee := .builtin .len, .. } | .call { callee := .builtin .min, .. } | .call { callee := .builtin .max, .. } => true
 | .call { callee := .value _, .. } => (tabF K fn o).isSome
 | _ => false
def opR (o : Oper) : Bool :=
 match o.op with
 | .load .. | .lookup .. => true
 | .call { callee := .builtin .len, .. } => true
 | _ => false
def tmpsOf (l : List Operand) : List Nat := l.filterMap fun | .tmp t => some t | _ => none
def depsO (fn : FuncId) (o : Oper) : List Nat :=
 tmpsOf o.op.operands.toList ++ (match o.dst with | some d => (match K.up fn d with | .box t => [t] | _ => []) | none => []) ++ (match K.lift fn (o.dst.getD 0) with | some t => [t] | none => [])
def depsG (all : List Oper) (o : Oper) : List Nat :=
 match o.guard with | some (j, _) => (match all[j]? with | some oj => oj.dst.toList | none => []) | none => []
def nodupB : List Nat → Bool
 | [] => true
 | x :: r => !r.contains x && nodupB r
def depOk (fn : FuncId) (all : List Oper) (pre : Array Nat) (oj : Oper) (j : Nat) (oi : Oper) (i : Nat) : Bool :=
 (match oi.dst with
 | none => true
 | some d =>
  (!((depsO K fn oj).contains d || (depsG all oj).contains d) || i == j || (decide (i < j) && (pre.getD j 0).testBit i) || (decide (j < i) && (pre.getD i 0).testBit j)) &&
  (!isAlloc oi || (!(depsG all oj).contains d && (!(depsO K fn oj).contains d || (!opPure K fn oj && !isAlloc oj))))) &&
 (!isAlloc oi || opPure K fn oj || isAlloc oj || decide (j ≤ i) || (pre.getD j 0).testBit i)
def drawOk (fn : FuncId) (all : List Oper) (pre : Array Nat) : Bool :=
 nodupB (all.filterMap (·.dst)) &&
 all.zipIdx.all fun (oj, j) => oj.after.all (fun e => !Region.binds .any e || decide (e.on < j)) && all.zipIdx.all fun (oi, i) => depOk K fn all pre oj j oi i
def sameAt (fn : FuncId) (o : Oper) (s : Slots) (v : GV) (H : Heap) : Bool := match gop K fn o s H with | some (v', _) => GV.beq v' v | none => false
structure RLog where
 i : Nat
 o : Oper
 s : Slots
 v : GV
def gdraw (rec : Rec) (fn : FuncId) (all : List Oper) (pre : Array Nat) : Nat → List Oper → List (Nat × Heap) → List RLog → Heap → GSt → Option GSt
 | _, [], _, _, _, st => some st
 | i, o :: r, wl, rl, hb, st =>
  match wantedG all st.s o with
  | some false => (match st.put o.dst gundef with | some st => gdraw rec fn all pre (i + 1) r wl rl hb st | none => none)
  | some true =>
   if opPure K fn o then
    (match gop K fn o st.s hb with
    | some (v, _) =>
     (match st.put o.dst v with
     | some st' =>
      if opR o then
       (if wl.all (fun x => (pre.getD i 0).testBit x.1 || sameAt K fn o st.s v x.2) then gdraw rec fn all pre (i + 1) r wl (⟨i, o, st.s, v⟩ :: rl) hb st' else none)
      else gdraw rec fn all pre (i + 1) r wl rl hb st'
     | none => none)
    | none => none)
   else
    (match gstep K rec fn o st.s st.h with
    | some (v, H) =>
     (match GSt.put { st with h := H } o.dst v with
     | some st' =>
      if isAlloc o then gdraw rec fn all pre (i + 1) r wl rl hb st'
      else if wl.all (fun x => (pre.getD i 0).testBit x.1) && rl.all (fun q => (pre.getD i 0).testBit q.i || sameAt K fn q.o q.s q.v H) then
       gdraw rec fn all pre (i + 1) r ((i, hb) :: wl) rl H st'
      else none
     | none => none)
    | none => none)
  | none => none
def gbody (rec : Rec) (fn : FuncId) (c : Code) (st : GSt) : Option (GX × GSt) :=
 match c with
 | .skip | .label _ => some (.normal, st)
 | .region _ ops false => (match gops K rec fn ops.toList ops.toList st with | some st => some (.normal, st) | none => none)
 | .region _ ops true =>
  if drawOk K fn ops.toList (Region.before ops) then
   (match gdraw K rec fn ops.toList (Region.before ops) 0 ops.toList [] [] st.h st with | some st => some (.normal, st) | none => none)
  else none
 | .seq a b => (match rec fn a st with | some (.normal, st) => rec fn b st | r => r)
 | .cond c x y => (match ev st.s c with | .pure (.bool b) => if b then rec fn x st else rec fn y st | _ => none)
 | .block id c => (match rec fn c st with | some (.exit id', st) => if id' = id then some (.normal, st) else some (.exit id', st) | r => r)
 | .loop c =>
  let an := K.ann fn (firstRegion c)
  (match rec fn c { st with s := keepO (an.map (·.1)) st.s, h := [] :: st.h } with
  | some (.normal, st) => (match gnext K fn c st with | some st => rec fn (.loop c) st | none => none)
  | some (e, st) => (match gscope (an.map (·.2)) st with | some st => some (e, st) | none => none)
  | none => none)
 | .scope c => rec fn c st
 | .exit id => some (.exit id, st)
 | .ret => some (.ret, st)
 | .rangeFunc f ps assign body =>
  let key := 10000000 + firstRegion body
  (match gnew st.h key (.loop { slots := st.s, nt := st.nt, params := ps.toList, assign := assign, body := body, fn := fn, state := .ready, pending := none }) with
  | some (nm, H) =>
   (match gcallF K rec (ev st.s f) [.yield nm] 0 H with
   | some (_, H) =>
    (match H.get nm with
    | some (.loop l) =>
     if l.state = .busy then none else
     (match l.pending with
     | none => some (.normal, { st with h := H.set nm (.loop { l with state := .exhausted }) })
     | some e => some (e, { st with h := H.set nm (.loop { l with state := .exhausted }) }))
    | _ => none)
   | none => none)
  | none => none)
 | _ => none
def gexec : Nat → Rec
 | 0 => fun _ _ _ => none
 | n + 1 => gbody K (gexec n)
end
end
section
abbrev Mu := Nm → Nat → Option Nat
def rix (i : Nat) : Nat := 2199023255552 + i
def MapRel (ms : Array MapEntry) (l : List (MK × MV)) : Prop :=
 ms.size = l.length ∧ ∀ j, (h : j < l.length) → ∃ m, ms[j]? = some m ∧ m.val = .func (.func l[j].2) #[] #[] ∧
  (match l[j].1 with | .int k n => m.key = .int k n | .str s => ∃ b : ByteArray, m.key = .string b ∧ b.data.toList = s)
section
variable (w : World) (S : Nat → Prop)
inductive PRep : Value → PV → Prop
 | int (k : IntKind) (n : Int) : PRep (.int k n) (.int k n)
 | bool (b : Bool) : PRep (.bool b) (.bool b)
 | str (s : ByteArray) : PRep (.string s) (.str s.data.toList)
 | slice0 (a : Option Addr) (cap : Nat) : PRep (.slice a 0 cap) (.slice [])
 | slice (b o cap es : Nat) (l : List (List PV)) (f : Nat → Nat → Value) (hS : S b) (he : 0 < es) (hes : ∀ r ∈ l, r.length = es)
   (hf : ∀ i j, i < l.length → j < es → w.cell? ⟨b, o + (i * es + j), none⟩ = some (f i j)) (h1 : ∀ i j, i < l.length → j < es → (f i j).oneCell' = true)
   (hr : ∀ i j, i < l.length → j < es → PRep (f i j) ((l.getD i []).getD j .dead)) (hc : l.length ≤ cap) : PRep (.slice (some ⟨b, o, none⟩) l.length cap) (.slice l)
 | agg (vs : Array Value) (l : List PV) (h : vs.size = l.length) (h1 : ∀ j, j < l.length → (vs.getD j undef).oneCell' = true) (hr : ∀ j, j < l.length → PRep (vs.getD j undef) (l.getD j .dead)) : PRep (.agg vs) (.agg l)
 | tuple (vs : Array Value) (l : List PV) (h : vs.size = l.length) (hr : ∀ j, j < l.length → PRep (vs.getD j undef) (l.getD j .dead)) : PRep (.tuple vs) (.tuple l)
 | fn (f : FuncId) : PRep (.func (.func f) #[] #[]) (.fn f)
 | nilp : PRep (.pointer none) .nilp
 | nilf : PRep .nilFunc .nilf
 | nilm : PRep (.map none) .nilm
 | nili : PRep .nilIface .nili
 | iface (t : TypeId) (v : Value) (p : PV) (h : PRep v p) : PRep (.iface t v) (.iface t p)
 | fmap (f b clock : Nat) (ms : Array MapEntry) (l : List (MK × MV)) (hS : S b) (hq : mapQ f = some l) (hb : w.heap[b]? = some (.map ms clock)) (hm : MapRel ms l) : PRep (.map (some b)) (.fmap f)
 | dead (v : Value) : PRep v .dead
inductive VRel (μ : Mu) (ℓ : Nat) : Value → GV → Prop
 | pure (v : Value) (p : PV) (h : PRep w S v p) : VRel μ ℓ v (.pure p)
 | pptr (b o : Nat) (cs : List PV) (f : Nat → Value) (hS : cs ≠ [] → S b) (hf : ∀ j, j < cs.length → w.cell? ⟨b, o + j, none⟩ = some (f j)) (h1 : ∀ j, j < cs.length → (f j).oneCell' = true)
   (hr : ∀ j, j < cs.length → PRep w S (f j) (cs.getD j .dead)) : VRel μ ℓ (.pointer (some ⟨b, o, none⟩)) (.pptr cs)
 | lptr (b o : Nat) (cs : List GV) (f : Nat → Value) (hS : cs ≠ [] → S b) (hf : ∀ j, j < cs.length → w.cell? ⟨b, o + j, none⟩ = some (f j)) (h1 : ∀ j, j < cs.length → (f j).oneCell' = true)
   (hr : ∀ j, j < cs.length → VRel μ ℓ (f j) (cs.getD j gdead)) : VRel μ ℓ (.pointer (some ⟨b, o, none⟩)) (.lptr cs)
 | nils (a : Option Addr) : VRel μ ℓ (.slice a 0 0) .nils
 | lits (b o cap es : Nat) (l : List (List GV)) (f : Nat → Nat → Value) (hS : S b) (he : 0 < es) (hes : ∀ r ∈ l, r.length = es)
   (hf : ∀ i j, i < l.length → j < es → w.cell? ⟨b, o + (i * es + j), none⟩ = some (f i j)) (h1 : ∀ i j, i < l.length → j < es → (f i j).oneCell' = true)
   (hr : ∀ i j, i < l.length → j < es → VRel μ ℓ (f i j) ((l.getD i []).getD j gdead)) (hcap : cap = l.length) : VRel μ ℓ (.slice (some ⟨b, o, none⟩) l.length cap) (.lits l)
 | bptr (nm : Nm) (off b : Nat) (hl : nm.1 ≤ ℓ) (hm : μ nm 0 = some b) : VRel μ ℓ (.pointer (some ⟨b, off, none⟩)) (.bptr nm off)
 | eptr (nm : Nm) (es top i off b : Nat) (hl : nm.1 ≤ ℓ) (hm : μ nm top = some b) : VRel μ ℓ (.pointer (some ⟨b, i * es + off, none⟩)) (.eptr nm es top i off)
 | hdr (nm : Nm) (es top lo len cap b n : Nat) (e : TypeId) (hl : nm.1 ≤ ℓ) (hm : μ nm top = some b) (hc : top ≤ lo + cap) (ht : lo + len ≤ top)
   (hsh : w.shape? b = some (e, n)) (hn : (lo + cap) * es ≤ n) : VRel μ ℓ (.slice (some ⟨b, lo * es, none⟩) len cap) (.hdr nm es top lo len)
 | agg (vs : Array Value) (l : List GV) (h : vs.size = l.length) (h1 : ∀ j, j < l.length → (vs.getD j undef).oneCell' = true) (hr : ∀ j, j < l.length → VRel μ ℓ (vs.getD j undef) (l.getD j gdead)) : VRel μ ℓ (.agg vs) (.agg l)
 | tuple (vs : Array Value) (l : List GV) (h : vs.size = l.length) (hr : ∀ j, j < l.length → VRel μ ℓ (vs.getD j undef) (l.getD j gdead)) : VRel μ ℓ (.tuple vs) (.tuple l)
 | func (f : FuncId) (a c : Array Value) (la lc : List GV) (h1 : a.size = la.length) (h2 : c.size = lc.length)
   (hr1 : ∀ j, j < la.length → VRel μ ℓ (a.getD j undef) (la.getD j gdead)) (hr2 : ∀ j, j < lc.length → VRel μ ℓ (c.getD j undef) (lc.getD j gdead)) :
   VRel μ ℓ (.func (.func f) a c) (.func f la lc)
 | yield (nm : Nm) (b : Nat) (hl : nm.1 ≤ ℓ) (hm : μ nm 0 = some b) : VRel μ ℓ (.func (.yield b) #[] #[]) (.yield nm)
 | map (nm : Nm) (b : Nat) (hl : nm.1 ≤ ℓ) (hm : μ nm 0 = some b) : VRel μ ℓ (.map (some b)) (.map nm)
 | rhdr (nm : Nm) (es i len cap b : Nat) (hl : nm.1 ≤ ℓ) (hm : μ nm (rix i) = some b) (hc : len ≤ cap) : VRel μ ℓ (.slice (some ⟨b, 0, none⟩) len cap) (.rhdr nm es i len)
 | rptr (nm : Nm) (es i j off b : Nat) (hl : nm.1 ≤ ℓ) (hm : μ nm (rix i) = some b) : VRel μ ℓ (.pointer (some ⟨b, j * es + off, none⟩)) (.rptr nm es i j off)
inductive CRel (μ : Mu) (ℓ : Nat) : List Value → List GV → Prop
 | nil : CRel μ ℓ [] []
 | cons {v : Value} {g : GV} {vs : List Value} {gs : List GV} (h1 : v.oneCell' = true) (h : VRel w S μ ℓ v g) (t : CRel μ ℓ vs gs) : CRel μ ℓ (v :: vs) (g :: gs)
def jumpOf : GX → Code
 | .exit id => .exit id
 | _ => .ret
def RowRel (b es : Nat) (l : List (List PV)) : Prop :=
 (∃ c e, w.heap[b]? = some (.cells c e (0, 0))) ∧ ¬ S b ∧ ∀ i j, i < l.length → j < es → ∃ u, w.cell? ⟨b, i * es + j, none⟩ = some u ∧ u.oneCell' = true ∧ PRep w S u ((l.getD i []).getD j .dead)
structure MatRel (μ : Mu) (nm : Nm) (es : Nat) (rows : List (List (List PV))) (n : Nat) : Prop where
 pos : 0 < es
 le : n ≤ rows.length
 lim : n < rix 0
 wid : ∀ r ∈ rows, ∀ x ∈ r, x.length = es
 row : ∀ i, i < rows.length → ∃ b, μ nm (rix i) = some b ∧ RowRel w S b es (rows.getD i [])
 inj : ∀ i j b, μ nm (rix i) = some b → μ nm (rix j) = some b → i = j
 bnd : ∀ i b, μ nm (rix i) = some b → i < rows.length
 top : ∀ t b, t < rix 0 → μ nm t = some b → t ≤ n ∧ (∃ c e, w.heap[b]? = some (.cells c e (0, 0))) ∧ ¬ S b ∧ (∀ i, μ nm (rix i) ≠ some b) ∧
  ∀ i, i < t → ∃ bi cap, w.cell? ⟨b, i, none⟩ = some (.slice (some ⟨bi, 0, none⟩) (rows.getD i []).length cap) ∧ μ nm (rix i) = some bi ∧ (rows.getD i []).length ≤ cap
def BlkRel (μ : Mu) (nm : Nm) : Blk → Prop
 | .box cs => ∃ b c e, μ nm 0 = some b ∧ ¬ S b ∧ w.heap[b]? = some (.cells c (tyE nm e) (0, 0)) ∧ CRel w S μ nm.1 c.toList cs
 | .arr es elems vf ro => 0 < es ∧ (∀ r ∈ elems, r.length = es) ∧ vf ≤ elems.length ∧ (∃ b, μ nm elems.length = some b) ∧
   (∀ top b, μ nm top = some b → top ≤ elems.length ∧ (∃ c e, w.heap[b]? = some (.cells c (tyE nm e) (0, 0))) ∧ (ro = false → ¬ S b) ∧
    (vf ≤ top → (ro = true → S b) ∧ ∀ i j, i < top → j < es → ∃ u, w.cell? ⟨b, i * es + j, none⟩ = some u ∧ u.oneCell' = true ∧ PRep w S u ((elems.getD i []).getD j .dead)))
 | .map es => ∃ b ms clock, μ nm 0 = some b ∧ ¬ S b ∧ w.heap[b]? = some (.map ms clock) ∧ ms.size = es.length ∧
   ∀ j, (h : j < es.length) → ∃ m, ms[j]? = some m ∧ PRep w S m.key es[j].1 ∧ VRel w S μ nm.1 m.val es[j].2
 | .loop l => ∃ b r, μ nm 0 = some b ∧ ¬ S b ∧ w.heap[b]? = some (.loop r) ∧ r.state = l.state ∧ r.pending = l.pending.map jumpOf ∧ l.pending ≠ some .normal ∧
   r.params = l.params.toArray ∧ r.assign = l.assign ∧ r.body = l.body ∧ r.tmps.size = l.nt ∧ ∀ t, VRel w S μ nm.1 (r.tmps.getD t undef) (look l.slots t)
 | .mat es rows n => MatRel w S μ nm es rows n
 | .gone => True
def GqRel : GQ → Value → Prop
 | .int k n, u => u = .int k n
 | .str s, u => ∃ b : ByteArray, u = .string b ∧ b.data.toList = s
 | .anyInt k, u => ∃ n, u = .int k n
 | .anyIface, u => u = .nilIface ∨ ∃ t v, u = .iface t v
def GlbRel : Prop := ∀ g cs, globQ g = some cs → S g ∧ ∃ c ty fr, w.heap[g]? = some (.cells c ty fr) ∧ c.size = cs.length ∧ ∀ j, (h : j < cs.length) → ∃ u, c[j]? = some u ∧ GqRel cs[j] u
structure HRel (μ : Mu) (H : Heap) : Prop where
 blk : ∀ nm x, H.get nm = some x → ∀ t b, μ nm t = some b → BlkRel w S μ nm x
 bnd : ∀ nm t b, μ nm t = some b → ∃ x, H.get nm = some x
 disj : ∀ nm nm' t t' b, μ nm t = some b → μ nm' t' = some b → nm = nm'
 lt : ∀ nm t b, μ nm t = some b → b < w.heap.size
 slt : ∀ b, S b → b < w.heap.size
 glb : GlbRel w S
end
theorem GqRel.one {q : GQ} {u : Value} (h : GqRel q u) : u.oneCell' = true := by
 cases q with
 | int k n => cases h; rfl
 | str s => obtain ⟨b, rfl, _⟩ := h; rfl
 | anyInt k => obtain ⟨n, rfl⟩ := h; rfl
 | anyIface => rcases h with rfl | ⟨t, v, rfl⟩ <;> rfl
theorem GqRel.pv {w : World} {S : Nat → Prop} {q : GQ} {u : Value} (h : GqRel q u) : PRep w S u q.pv := by
 cases q with
 | int k n => cases h; exact .int k n
 | str s => obtain ⟨b, rfl, rfl⟩ := h; exact .str b
 | anyInt k => exact .dead _
 | anyIface => exact .dead _
structure Ev (ℓ : Nat) (w : World) (S : Nat → Prop) (μ : Mu) (w' : World) (S' : Nat → Prop) (μ' : Mu) : Prop where
 os : w'.os = w.os
 tape : w'.tape = w.tape
 out : w'.output = w.output
 size : w.heap.size ≤ w'.heap.size
 sub : ∀ b, S b → S' b
 same : ∀ b, b < w.heap.size → (S b ∨ ∀ nm t, μ nm t ≠ some b) → w'.heap[b]? = w.heap[b]?
 shp : ∀ b x, w.shape? b = some x → w'.shape? b = some x
 lp : ∀ (b : Nat) (r : Loop), w.heap[b]? = some (Obj.loop r) → ∃ r' : Loop, w'.heap[b]? = some (Obj.loop r')
 mu : ∀ nm t b, nm.1 ≤ ℓ → μ nm t = some b → μ' nm t = some b
 own : ∀ nm t b, μ' nm t = some b → b < w.heap.size → ∃ nm' t', μ nm' t' = some b
 snew : ∀ b, S' b → b < w.heap.size → S b ∨ ∃ nm t, μ nm t = some b
def Fw (r : Option Nat) : Fence := { Fence.wide with round := r }
def Done (ℓ n : Nat) (w : World) (S : Nat → Prop) (μ : Mu) (v : GV) (H' : Heap) : Ending → World → Prop := fun e w' =>
 ∃ u S' μ', e = .returned u ∧ VRel w' S' μ' (H'.length - 1) u v ∧ HRel w' S' μ' H' ∧ Ev ℓ w S μ w' S' μ' ∧ H'.length = n
def ExtOk (P : Program) (f : FuncId) (e : List GV → Heap → Option (GV × Heap)) : Prop :=
 ∀ (w : World) (S : Nat → Prop) (μ : Mu) (H H' : Heap) (args : List GV) (v : GV) (vs : Array Value), e args H = some (v, H') → 0 < H.length → HRel w S μ H → vs.size = args.length →
  (∀ j, j < args.length → VRel w S μ (H.length - 1) (vs.getD j undef) (args.getD j gdead)) →
  (callFunc f vs).run P w = .ok (.enter f vs) w ∧ CallsIn (Fw none) 0 P f vs w (Done (H.length - 1) H.length w S μ v H')
theorem Ev.refl (ℓ : Nat) (w : World) (S : Nat → Prop) (μ : Mu) : Ev ℓ w S μ w S μ :=
 ⟨rfl, rfl, rfl, Nat.le_refl _, fun _ h => h, fun _ _ _ => rfl, fun _ _ h => h, fun _ r h => ⟨r, h⟩, fun _ _ _ _ h => h, fun nm t _ h _ => ⟨nm, t, h⟩, fun _ h _ => .inl h⟩
theorem Ev.trans {ℓ : Nat} {w1 w2 w3 : World} {S1 S2 S3 : Nat → Prop} {μ1 μ2 μ3 : Mu} (h : Ev ℓ w1 S1 μ1 w2 S2 μ2) (k : Ev ℓ w2 S2 μ2 w3 S3 μ3) :
  Ev ℓ w1 S1 μ1 w3 S3 μ3 where
 os := k.os.trans h.os
 tape := k.tape.trans h.tape
 out := k.out.trans h.out
 size := Nat.le_trans h.size k.size
 sub := fun b hb => k.sub b (h.sub b hb)
 same := fun b hb ho => by
  have h1 := h.same b hb ho
  rw [← h1]
  refine k.same b (Nat.lt_of_lt_of_le hb h.size) ?_
  rcases ho with ho | ho
  ·exact .inl (h.sub b ho)
  ·refine .inr fun nm t hm => ?_
   obtain ⟨nm', t', hm'⟩ := h.own nm t b hm hb
   exact ho nm' t' hm'
 shp := fun b x hx => k.shp b x (h.shp b x hx)
 lp := fun b r hr => let ⟨r', h'⟩ := h.lp b r hr; k.lp b r' h'
 mu := fun nm t b hl hm => k.mu nm t b hl (h.mu nm t b hl hm)
 own := fun nm t b hm hb => by
  obtain ⟨nm', t', hm'⟩ := k.own nm t b hm (Nat.lt_of_lt_of_le hb h.size)
  exact h.own nm' t' b hm' hb
 snew := fun b hb hl => by
  rcases k.snew b hb (Nat.lt_of_lt_of_le hl h.size) with h' | ⟨nm, t, h'⟩
  ·exact h.snew b h' hl
  ·exact .inr (h.own nm t b h' hl)
theorem Ev.level {ℓ ℓ' : Nat} {w1 w2 : World} {S1 S2 : Nat → Prop} {μ1 μ2 : Mu} (h : Ev ℓ w1 S1 μ1 w2 S2 μ2) (hl : ℓ' ≤ ℓ) : Ev ℓ' w1 S1 μ1 w2 S2 μ2 :=
 { h with mu := fun nm t b hb hm => h.mu nm t b (Nat.le_trans hb hl) hm }
theorem cell_of_heap {w w' : World} {b : Nat} (h : w'.heap[b]? = w.heap[b]?) (o : Nat) : w'.cell? ⟨b, o, none⟩ = w.cell? ⟨b, o, none⟩ := by
 unfold World.cell?; simp only [h]
theorem PRep.mono {w w' : World} {S S' : Nat → Prop} (hS : ∀ b, S b → S' b) (hw : ∀ b, S b → w'.heap[b]? = w.heap[b]?) {v : Value} {p : PV} (h : PRep w S v p) :
  PRep w' S' v p := by
 induction h with
 | int k n => exact .int k n
 | bool b => exact .bool b
 | str s => exact .str s
 | slice0 a cap => exact .slice0 a cap
 | slice b o cap es l f hb he hes hf h1 _ hc ih => exact .slice b o cap es l f (hS b hb) he hes (fun i j hi hj => by rw [cell_of_heap (hw b hb)]; exact hf i j hi hj) h1 ih hc
 | agg vs l h h1 _ ih => exact .agg vs l h h1 ih
 | tuple vs l h _ ih => exact .tuple vs l h ih
 | fn f => exact .fn f
 | nilp => exact .nilp
 | nilf => exact .nilf
 | nilm => exact .nilm
 | nili => exact .nili
 | iface t v p _ ih => exact .iface t v p ih
 | fmap f b clock ms l hb hq he hm => exact .fmap f b clock ms l (hS b hb) hq (by rw [hw b hb]; exact he) hm
 | dead v => exact .dead v
theorem VRel.mono {w w' : World} {S S' : Nat → Prop} {μ μ' : Mu} {ℓ ℓ' : Nat} (hS : ∀ b, S b → S' b) (hw : ∀ b, S b → w'.heap[b]? = w.heap[b]?)
  (hsh : ∀ b x, w.shape? b = some x → w'.shape? b = some x) (hm : ∀ nm t b, nm.1 ≤ ℓ → μ nm t = some b → μ' nm t = some b) (hl : ℓ ≤ ℓ')
  {v : Value} {g : GV} (h : VRel w S μ ℓ v g) : VRel w' S' μ' ℓ' v g := by
 induction h with
 | pure v p h => exact .pure v p (h.mono hS hw)
 | pptr b o cs f hb hf h1 hr =>
  refine .pptr b o cs f (fun h => hS b (hb h)) (fun j hj => ?_) h1 (fun j hj => (hr j hj).mono hS hw)
  rw [cell_of_heap (hw b (hb (by intro h; subst h; simp at hj)))]; exact hf j hj
 | lptr b o cs f hb hf h1 _ ih =>
  refine .lptr b o cs f (fun h => hS b (hb h)) (fun j hj => ?_) h1 ih
  rw [cell_of_heap (hw b (hb (by intro h; subst h; simp at hj)))]; exact hf j hj
 | nils a => exact .nils a
 | lits b o cap es l f hb he hes hf h1 _ hcap ih => exact .lits b o cap es l f (hS b hb) he hes (fun i j hi hj => by rw [cell_of_heap (hw b hb)]; exact hf i j hi hj) h1 ih hcap
 | bptr nm off b h1 h2 => exact .bptr nm off b (Nat.le_trans h1 hl) (hm _ _ _ h1 h2)
 | eptr nm es top i off b h1 h2 => exact .eptr nm es top i off b (Nat.le_trans h1 hl) (hm _ _ _ h1 h2)
 | hdr nm es top lo len cap b n e h1 h2 hc ht hs hn => exact .hdr nm es top lo len cap b n e (Nat.le_trans h1 hl) (hm _ _ _ h1 h2) hc ht (hsh _ _ hs) hn
 | agg vs l h h1 _ ih => exact .agg vs l h h1 ih
 | tuple vs l h _ ih => exact .tuple vs l h ih
 | func f a c la lc h1 h2 _ _ ih1 ih2 => exact .func f a c la lc h1 h2 ih1 ih2
 | yield nm b h1 h2 => exact .yield nm b (Nat.le_trans h1 hl) (hm _ _ _ h1 h2)
 | map nm b h1 h2 => exact .map nm b (Nat.le_trans h1 hl) (hm _ _ _ h1 h2)
 | rhdr nm es i len cap b h1 h2 hc => exact .rhdr nm es i len cap b (Nat.le_trans h1 hl) (hm _ _ _ h1 h2) hc
 | rptr nm es i j off b h1 h2 => exact .rptr nm es i j off b (Nat.le_trans h1 hl) (hm _ _ _ h1 h2)
section
variable {ℓ : Nat} {w w' : World} {S S' : Nat → Prop} {μ μ' : Mu}
theorem Ev.val (h : Ev ℓ w S μ w' S' μ') (hlt : ∀ b, S b → b < w.heap.size) {k : Nat} (hk : k ≤ ℓ) {v : Value} {g : GV} (hv : VRel w S μ k v g) : VRel w' S' μ' k v g :=
 hv.mono h.sub (fun b hb => h.same b (hlt b hb) (.inl hb)) h.shp (fun nm t b hn hm => h.mu nm t b (Nat.le_trans hn hk) hm) (Nat.le_refl _)
end
theorem VRel.up {w : World} {S : Nat → Prop} {μ : Mu} {ℓ ℓ' : Nat} (hl : ℓ ≤ ℓ') {v : Value} {g : GV} (h : VRel w S μ ℓ v g) : VRel w S μ ℓ' v g :=
 h.mono (fun _ h => h) (fun _ _ => rfl) (fun _ _ h => h) (fun _ _ _ _ h => h) hl
theorem CRel.mono {w w' : World} {S S' : Nat → Prop} {μ μ' : Mu} {ℓ ℓ' : Nat} (hS : ∀ b, S b → S' b) (hw : ∀ b, S b → w'.heap[b]? = w.heap[b]?)
  (hsh : ∀ b x, w.shape? b = some x → w'.shape? b = some x) (hm : ∀ nm t b, nm.1 ≤ ℓ → μ nm t = some b → μ' nm t = some b) (hl : ℓ ≤ ℓ')
  {vs : List Value} {gs : List GV} (h : CRel w S μ ℓ vs gs) : CRel w' S' μ' ℓ' vs gs := by
 induction h with
 | nil => exact .nil
 | cons h1 h _ ih => exact .cons h1 (h.mono hS hw hsh hm hl) ih
theorem RowRel.mono {w w' : World} {S S' : Nat → Prop} {b es : Nat} {l : List (List PV)} (hS : ∀ b, S b → S' b) (hw : ∀ b, S b → w'.heap[b]? = w.heap[b]?)
  (hb : w'.heap[b]? = w.heap[b]?) (hs : S' b → S b) (h : RowRel w S b es l) : RowRel w' S' b es l := by
 obtain ⟨⟨c, e, h1⟩, h2, h3⟩ := h
 refine ⟨⟨c, e, by rw [hb]; exact h1⟩, fun h => h2 (hs h), fun i j hi hj => ?_⟩
 obtain ⟨u, u1, u2, u3⟩ := h3 i j hi hj
 exact ⟨u, by rw [cell_of_heap hb]; exact u1, u2, u3.mono hS hw⟩
theorem MatRel.mono {w w' : World} {S S' : Nat → Prop} {μ μ' : Mu} {nm nm' : Nm} {es n : Nat} {rows : List (List (List PV))} (hS : ∀ b, S b → S' b) (hw : ∀ b, S b → w'.heap[b]? = w.heap[b]?)
  (ho : ∀ t, μ' nm' t = μ nm t) (hb : ∀ t b, μ nm t = some b → w'.heap[b]? = w.heap[b]?) (hs : ∀ t b, μ nm t = some b → S' b → S b) (h : MatRel w S μ nm es rows n) : MatRel w' S' μ' nm' es rows n where
 pos := h.pos
 le := h.le
 lim := h.lim
 wid := h.wid
 row := fun i hi => by
  obtain ⟨b, h1, h2⟩ := h.row i hi
  exact ⟨b, by rw [ho]; exact h1, h2.mono hS hw (hb _ _ h1) (hs _ _ h1)⟩
 inj := fun i j b h1 h2 => by rw [ho] at h1 h2; exact h.inj i j b h1 h2
 bnd := fun i b h1 => by rw [ho] at h1; exact h.bnd i b h1
 top := fun t b ht h1 => by
  rw [ho] at h1
  obtain ⟨g1, ⟨c, e, g2⟩, g3, g4, g5⟩ := h.top t b ht h1
  refine ⟨g1, ⟨c, e, by rw [hb _ _ h1]; exact g2⟩, fun h => g3 (hs _ _ h1 h), fun i => by rw [ho]; exact g4 i, fun i hi => ?_⟩
  obtain ⟨bi, cap, k1, k2, k3⟩ := g5 i hi
  exact ⟨bi, cap, by rw [cell_of_heap (hb _ _ h1)]; exact k1, by rw [ho]; exact k2, k3⟩
theorem BlkRel.mono {w w' : World} {S S' : Nat → Prop} {μ μ' : Mu} {nm : Nm} (hS : ∀ b, S b → S' b) (hw : ∀ b, S b → w'.heap[b]? = w.heap[b]?)
  (hsh : ∀ b x, w.shape? b = some x → w'.shape? b = some x) (hm : ∀ n t b, n.1 ≤ nm.1 → μ n t = some b → μ' n t = some b) (ho : ∀ t, μ' nm t = μ nm t)
  (hb : ∀ t b, μ nm t = some b → w'.heap[b]? = w.heap[b]?) (hs : ∀ t b, μ nm t = some b → S' b → S b) {x : Blk} (h : BlkRel w S μ nm x) : BlkRel w' S' μ' nm x := by
 cases x with
 | box cs =>
  obtain ⟨b, c, e, h1, h2, h3, h4⟩ := h
  exact ⟨b, c, e, by rw [ho]; exact h1, fun h => h2 (hs _ _ h1 h), by rw [hb _ _ h1]; exact h3, h4.mono hS hw hsh hm (Nat.le_refl _)⟩
 | arr es elems vf ro =>
  obtain ⟨h0, h1, h2, ⟨b0, h3⟩, h4⟩ := h
  refine ⟨h0, h1, h2, ⟨b0, by rw [ho]; exact h3⟩, fun top b hb' => ?_⟩
  rw [ho] at hb'
  obtain ⟨g1, ⟨c, e, g2⟩, g3, g4⟩ := h4 top b hb'
  refine ⟨g1, ⟨c, e, by rw [hb _ _ hb']; exact g2⟩, fun hr h => g3 hr (hs _ _ hb' h), fun hv => ?_⟩
  obtain ⟨k1, k2⟩ := g4 hv
  refine ⟨fun hr => hS _ (k1 hr), fun i j hi hj => ?_⟩
  obtain ⟨u, u1, u2, u3⟩ := k2 i j hi hj
  exact ⟨u, by rw [cell_of_heap (hb _ _ hb')]; exact u1, u2, u3.mono hS hw⟩
 | map es =>
  obtain ⟨b, ms, clock, h1, h2, h3, h4, h5⟩ := h
  refine ⟨b, ms, clock, by rw [ho]; exact h1, fun h => h2 (hs _ _ h1 h), by rw [hb _ _ h1]; exact h3, h4, fun j hj => ?_⟩
  obtain ⟨m, m1, m2, m3⟩ := h5 j hj
  exact ⟨m, m1, m2.mono hS hw, m3.mono hS hw hsh hm (Nat.le_refl _)⟩
 | loop l =>
  obtain ⟨b, r, h1, h2, h3, q1, q2, q3, q5, q6, q7, q8, q9⟩ := h
  exact ⟨b, r, by rw [ho]; exact h1, fun h => h2 (hs _ _ h1 h), by rw [hb _ _ h1]; exact h3, q1, q2, q3, q5, q6, q7, q8, fun t => (q9 t).mono hS hw hsh hm (Nat.le_refl _)⟩
 | mat es rows n => exact MatRel.mono hS hw ho hb hs h
 | gone => trivial
theorem Fr.get_ins (q : Nat) (x : Blk) : ∀ f : Fr, (f.ins q x).get q = some x
  | [] => by simp [Fr.ins, Fr.get]
  | (k, b) :: r => by
    unfold Fr.ins
    split
    · simp [Fr.get]
    · split
      · simp [Fr.get]
      · rename_i h _; simp [Fr.get, h, Fr.get_ins q x r]
theorem Fr.get_ins_other {q p : Nat} (x : Blk) (h : p ≠ q) : ∀ f : Fr, (f.ins q x).get p = f.get p
  | [] => by simp [Fr.ins, Fr.get, h]
  | (k, b) :: r => by
    unfold Fr.ins
    split
    · rename_i hk; subst hk; simp [Fr.get, h]
    · split
      · simp [Fr.get, h]
      · simp only [Fr.get]; rw [Fr.get_ins_other x h r]
theorem Heap.get_lt : ∀ {H : Heap} {nm : Nm} {b : Blk}, H.get nm = some b → nm.1 < H.length
 | [], nm, b, h => by simp [Heap.get] at h
 | f :: H, nm, b, h => by
  unfold Heap.get at h
  split at h
  ·rename_i e; simp [e]
  ·have := Heap.get_lt h; simp; omega
theorem Heap.length_set : ∀ (H : Heap) (nm : Nm) (b : Blk), (H.set nm b).length = H.length
 | [], _, _ => rfl
 | f :: H, nm, b => by
  unfold Heap.set
  split
  ·rfl
  ·simp [Heap.length_set H nm b]
theorem Heap.get_set : ∀ {H : Heap} {nm : Nm} (b : Blk), nm.1 < H.length → (H.set nm b).get nm = some b
 | [], nm, b, h => by simp at h
 | f :: H, nm, b, h => by
  unfold Heap.set
  split
  ·rename_i e; simp [Heap.get, e, Fr.get_ins]
  ·rename_i e
   simp only [Heap.get, Heap.length_set, e, if_false]
   exact Heap.get_set b (by simp at h; omega)
theorem Heap.get_set_other : ∀ {H : Heap} {nm nm' : Nm} (b : Blk), nm' ≠ nm → (H.set nm b).get nm' = H.get nm'
 | [], _, _, _, _ => rfl
 | f :: H, nm, nm', b, h => by
  unfold Heap.set
  split
  ·rename_i e
   simp only [Heap.get]
   split
   ·rename_i e'
    refine Fr.get_ins_other b ?_ f
    intro h2; exact h (Prod.ext (by omega) h2)
   ·rfl
  ·simp only [Heap.get, Heap.length_set]
   split
   ·rfl
   ·exact Heap.get_set_other b h
theorem Heap.get_push {H : Heap} (nm : Nm) : Heap.get ([] :: H) nm = H.get nm := by
 show (if nm.1 = H.length then Fr.get [] nm.2 else H.get nm) = H.get nm
 split
 ·rename_i e
  simp only [Fr.get]
  cases h : Heap.get H nm with
  | none => rfl
  | some b => have := Heap.get_lt h; omega
 ·rfl
end
section
theorem VRel.pv {w : World} {S : Nat → Prop} {μ : Mu} {ℓ : Nat} {v : Value} {p : PV} (h : VRel w S μ ℓ v (.pure p)) : PRep w S v p := by
 cases h with | pure _ _ h => exact h
section crel
variable {w : World} {S : Nat → Prop} {μ : Mu} {ℓ : Nat}
theorem CRel.length {vs : List Value} {gs : List GV} (h : CRel w S μ ℓ vs gs) : vs.length = gs.length := by
 induction h with
 | nil => rfl
 | cons _ _ _ ih => simp [ih]
theorem CRel.append {vs us : List Value} {gs ks : List GV} (h : CRel w S μ ℓ vs gs) (k : CRel w S μ ℓ us ks) : CRel w S μ ℓ (vs ++ us) (gs ++ ks) := by
 induction h with
 | nil => exact k
 | cons h1 h2 _ ih => exact .cons h1 h2 ih
theorem CRel.take {vs : List Value} {gs : List GV} (h : CRel w S μ ℓ vs gs) : ∀ n : Nat, CRel w S μ ℓ (vs.take n) (gs.take n) := by
 induction h with
 | nil => intro n; simp; exact .nil
 | cons h1 h2 _ ih => intro n; cases n with
  | zero => simp; exact .nil
  | succ n => simp only [List.take_succ_cons]; exact .cons h1 h2 (ih n)
theorem CRel.drop {vs : List Value} {gs : List GV} (h : CRel w S μ ℓ vs gs) : ∀ n : Nat, CRel w S μ ℓ (vs.drop n) (gs.drop n) := by
 induction h with
 | nil => intro n; simp; exact .nil
 | cons h1 h2 h3 ih => intro n; cases n with
  | zero => simp only [List.drop_zero]; exact .cons h1 h2 h3
  | succ n => simp only [List.drop_succ_cons]; exact ih n
theorem CRel.get {vs : List Value} {gs : List GV} (h : CRel w S μ ℓ vs gs) : ∀ (j : Nat) (g : GV), gs[j]? = some g → ∃ v, vs[j]? = some v ∧ v.oneCell' = true ∧ VRel w S μ ℓ v g := by
 induction h with
 | nil => intro j g hg; simp at hg
 | @cons v _ _ _ h1 h2 _ ih => intro j g hg; cases j with
  | zero => simp at hg; subst hg; exact ⟨v, rfl, h1, h2⟩
  | succ j => simpa using ih j g (by simpa using hg)
theorem CRel.of_get : ∀ (vs : List Value) (gs : List GV), vs.length = gs.length → (∀ j, j < gs.length → (vs.getD j undef).oneCell' = true ∧ VRel w S μ ℓ (vs.getD j undef) (gs.getD j gdead)) →
  CRel w S μ ℓ vs gs
 | [], [], _, _ => .nil
 | v :: vs, g :: gs, h, k => .cons (k 0 (by simp)).1 (k 0 (by simp)).2 (CRel.of_get vs gs (by simpa using h) fun j hj => by simpa using k (j + 1) (by simpa using hj))
 | [], _ :: _, h, _ => by simp at h
 | _ :: _, [], h, _ => by simp at h
theorem CRel.getD {vs : List Value} {gs : List GV} (h : CRel w S μ ℓ vs gs) (j : Nat) (hj : j < gs.length) : (vs.getD j undef).oneCell' = true ∧ VRel w S μ ℓ (vs.getD j undef) (gs.getD j gdead) := by
 obtain ⟨v, h1, h2, h3⟩ := h.get j gs[j] (by simp [hj])
 simp only [List.getD_eq_getElem?_getD, h1, List.getElem?_eq_getElem hj, Option.getD_some]
 exact ⟨h2, h3⟩
theorem CRel.splice {vs us : List Value} {gs ks : List GV} (h : CRel w S μ ℓ vs gs) (k : CRel w S μ ℓ us ks) (off : Nat) :
  CRel w S μ ℓ (splice vs off us) (splice gs off ks) := by
 unfold Gh.splice
 rw [k.length]
 exact ((h.take off).append k).append (h.drop _)
theorem CRel.one {vs : List Value} {gs : List GV} (h : CRel w S μ ℓ vs gs) : ∀ v ∈ vs, v.oneCell' = true := by
 induction h with
 | nil => simp
 | cons h1 _ _ ih => intro v hv; rcases List.mem_cons.1 hv with rfl | hv; exact h1; exact ih v hv
theorem CRel.replicate {vs : List Value} {gs : List GV} (h : CRel w S μ ℓ vs gs) : ∀ n : Nat, CRel w S μ ℓ (List.replicate n vs).flatten (List.replicate n gs).flatten
 | 0 => .nil
 | n + 1 => by simp only [List.replicate_succ, List.flatten_cons]; exact h.append (CRel.replicate h n)
theorem CRel.pures : ∀ (vs : List Value) (ps : List PV), CRel w S μ ℓ vs (ps.map .pure) → vs.length = ps.length ∧ ∀ j, j < ps.length → (vs.getD j undef).oneCell' = true ∧ PRep w S (vs.getD j undef) (ps.getD j .dead) := by
 intro vs ps h
 refine ⟨by simpa using h.length, fun j hj => ?_⟩
 obtain ⟨h1, h2⟩ := h.getD j (by simpa using hj)
 refine ⟨h1, ?_⟩
 have e : (ps.map GV.pure).getD j gdead = .pure (ps.getD j .dead) := by simp [List.getD_eq_getElem?_getD, hj]
 rw [e] at h2
 exact h2.pv
theorem CRel.of_pures (vs : List Value) (ps : List PV) (h : vs.length = ps.length) (k : ∀ j, j < ps.length → (vs.getD j undef).oneCell' = true ∧ PRep w S (vs.getD j undef) (ps.getD j .dead)) :
  CRel w S μ ℓ vs (ps.map .pure) :=
 .of_get _ _ (by simpa using h) fun j hj => by
  have hj' : j < ps.length := by simpa using hj
  have e : (ps.map GV.pure).getD j gdead = .pure (ps.getD j .dead) := by simp [List.getD_eq_getElem?_getD, hj']
  rw [e]; exact ⟨(k j hj').1, .pure _ _ (k j hj').2⟩
end crel
theorem allPure_some : ∀ {l : List GV} {ps : List PV}, allPure l = some ps → l = ps.map .pure
 | [], ps, h => by simp [allPure] at h; subst h; rfl
 | g :: r, ps, h => by
  cases g with
  | pure p =>
   simp only [allPure] at h
   cases hr : allPure r with
   | none => rw [hr] at h; simp at h
   | some qs => rw [hr] at h; simp at h; subst h; simp [allPure_some hr]
  | _ => simp [allPure] at h
theorem allPure_map : ∀ l : List PV, allPure (l.map .pure) = some l
 | [] => rfl
 | x :: r => by simp [allPure, allPure_map r]
theorem mkAgg_map (l : List PV) : mkAgg (l.map .pure) = .pure (.agg l) := by simp only [mkAgg, allPure_map]
theorem agetD (vs : Array Value) (j : Nat) : vs.getD j undef = vs.toList.getD j undef := by
 simp [Array.getD_eq_getD_getElem?, List.getD_eq_getElem?_getD]
section vals
variable {w : World} {S : Nat → Prop} {μ : Mu} {ℓ : Nat}
theorem vdead (v : Value) : VRel w S μ ℓ v gdead := .pure v .dead (.dead v)
theorem VRel.of_cells {vs : List Value} {gs : List GV} (h : CRel w S μ ℓ vs gs) : VRel w S μ ℓ (.agg vs.toArray) (.agg gs) :=
 .agg _ _ (by simpa using h.length) (fun j hj => by rw [agetD]; exact (h.getD j hj).1) (fun j hj => by rw [agetD]; exact (h.getD j hj).2)
theorem mkAgg_rel {vs : List Value} {gs : List GV} (h : CRel w S μ ℓ vs gs) : VRel w S μ ℓ (.agg vs.toArray) (mkAgg gs) := by
 unfold mkAgg
 split
 ·rename_i ps hp
  rw [allPure_some hp] at h
  obtain ⟨h1, h2⟩ := CRel.pures _ _ h
  exact .pure _ _ (.agg _ _ (by simpa using h1) (fun j hj => by rw [agetD]; exact (h2 j hj).1) (fun j hj => by rw [agetD]; exact (h2 j hj).2))
 ·exact .of_cells h
theorem mkAgg_rel' {vs : Array Value} {gs : List GV} (h : CRel w S μ ℓ vs.toList gs) : VRel w S μ ℓ (.agg vs) (mkAgg gs) := by
 have := mkAgg_rel h; simpa using this
theorem mkTuple_rel {vs : Array Value} {gs : List GV} (hs : vs.size = gs.length) (h : ∀ j, j < gs.length → VRel w S μ ℓ (vs.getD j undef) (gs.getD j gdead)) :
  VRel w S μ ℓ (.tuple vs) (mkTuple gs) := by
 unfold mkTuple
 split
 ·rename_i ps hp
  have e := allPure_some hp
  subst e
  refine .pure _ _ (.tuple _ _ (by simpa using hs) fun j hj => ?_)
  have h2 := h j (by simpa using hj)
  have e : (ps.map GV.pure).getD j gdead = .pure (ps.getD j .dead) := by simp [List.getD_eq_getElem?_getD, hj]
  rw [e] at h2
  exact h2.pv
 ·exact .tuple _ _ hs h
theorem cellsO_rel {v : Value} {g : GV} {cs : List GV} (h : VRel w S μ ℓ v g) (hc : cellsO g = some cs) : CRel w S μ ℓ v.cells.toList cs := by
 have one : ∀ {v : Value} {g : GV}, v.oneCell' = true → v.cells = #[v] → VRel w S μ ℓ v g → some [g] = some cs → CRel w S μ ℓ v.cells.toList cs := by
  intro v g h1 h2 h3 h4
  simp at h4; subst h4; rw [h2]; exact .cons h1 h3 .nil
 cases h with
 | pure _ p hp =>
  cases hp with
  | agg vs l h1 h2 h3 =>
   simp only [cellsO, Option.some.injEq] at hc
   subst hc
   exact .of_pures _ _ (by simpa [Value.cells] using h1) fun j hj => by
    have a := h2 j hj; have b := h3 j hj
    rw [agetD] at a b
    exact ⟨a, b⟩
  | tuple vs l h1 h2 => simp [cellsO] at hc
  | dead v => simp [cellsO] at hc
  | int k n => exact one rfl rfl (.pure _ _ (.int k n)) hc
  | bool b => exact one rfl rfl (.pure _ _ (.bool b)) hc
  | str s => exact one rfl rfl (.pure _ _ (.str s)) hc
  | slice0 a cap => exact one rfl rfl (.pure _ _ (.slice0 a cap)) hc
  | slice b o cap es l f hS he hes hf h1 hr hcp => exact one rfl rfl (.pure _ _ (.slice b o cap es l f hS he hes hf h1 hr hcp)) hc
  | fn f => exact one rfl rfl (.pure _ _ (.fn f)) hc
  | nilp => exact one rfl rfl (.pure _ _ .nilp) hc
  | nilf => exact one rfl rfl (.pure _ _ .nilf) hc
  | nilm => exact one rfl rfl (.pure _ _ .nilm) hc
  | nili => exact one rfl rfl (.pure _ _ .nili) hc
  | iface t v p h => exact one rfl rfl (.pure _ _ (.iface t v p h)) hc
  | fmap f b clock ms l h1 h2 h3 h4 => exact one rfl rfl (.pure _ _ (.fmap f b clock ms l h1 h2 h3 h4)) hc
 | agg vs l h1 h2 h3 =>
  simp only [cellsO, Option.some.injEq] at hc
  subst hc
  exact .of_get _ _ (by simpa [Value.cells] using h1) fun j hj => by
   have a := h2 j hj; have b := h3 j hj
   rw [agetD] at a b
   exact ⟨a, b⟩
 | tuple vs l h1 h2 => simp [cellsO] at hc
 | pptr b o cs f hS hf h1 hr => exact one rfl rfl (.pptr b o cs f hS hf h1 hr) hc
 | lptr b o cs f hS hf h1 hr => exact one rfl rfl (.lptr b o cs f hS hf h1 hr) hc
 | nils a => exact one rfl rfl (.nils a) hc
 | lits b o cap es l f hS he hes hf h1 hr hcap => exact one rfl rfl (.lits b o cap es l f hS he hes hf h1 hr hcap) hc
 | bptr nm off b h1 h2 => exact one rfl rfl (.bptr nm off b h1 h2) hc
 | eptr nm es top i off b h1 h2 => exact one rfl rfl (.eptr nm es top i off b h1 h2) hc
 | hdr nm es top lo len cap b n e h1 h2 h3 h4 h5 h6 => exact one rfl rfl (.hdr nm es top lo len cap b n e h1 h2 h3 h4 h5 h6) hc
 | rhdr nm es i len cap b h1 h2 h3 => exact one rfl rfl (.rhdr nm es i len cap b h1 h2 h3) hc
 | rptr nm es i j off b h1 h2 => exact one rfl rfl (.rptr nm es i j off b h1 h2) hc
 | func f a c la lc h1 h2 h3 h4 => exact one rfl rfl (.func f a c la lc h1 h2 h3 h4) hc
 | yield nm b h1 h2 => exact one rfl rfl (.yield nm b h1 h2) hc
 | map nm b h1 h2 => exact one rfl rfl (.map nm b h1 h2) hc
theorem ofConst1_rel (v : Value) : VRel w S μ ℓ v (ofConst1 v) := by
 unfold ofConst1
 split
 ·exact .pure _ _ (.int _ _)
 ·exact .pure _ _ (.bool _)
 ·exact .pure _ _ (.str _)
 ·exact .nils _
 ·exact .pure _ _ .nilp
 ·exact .pure _ _ .nilf
 ·exact .pure _ _ .nilm
 ·exact .pure _ _ .nili
 ·exact vdead _
theorem ofConst_rel (v : Value) : VRel w S μ ℓ v (ofConst v) := by
 unfold ofConst
 split
 ·rename_i cs
  split
  ·rename_i h
   refine mkAgg_rel' (.of_get _ _ (by simp) fun j hj => ?_)
   have hj' : j < cs.toList.length := by simpa using hj
   have e1 : cs.toList.getD j undef = cs.toList[j] := by rw [List.getD_eq_getElem?_getD, List.getElem?_eq_getElem hj']; rfl
   have e2 : (cs.toList.map ofConst1).getD j gdead = ofConst1 cs.toList[j] := by rw [List.getD_eq_getElem?_getD, List.getElem?_map, List.getElem?_eq_getElem hj']; rfl
   rw [e1, e2]
   exact ⟨List.all_eq_true.1 h _ (List.getElem_mem hj'), ofConst1_rel _⟩
  ·exact vdead _
 ·exact ofConst1_rel _
theorem GlbRel.mono {w w' : World} {S S' : Nat → Prop} (h : GlbRel w S) (hS : ∀ b, S b → S' b) (hw : ∀ b, S b → w'.heap[b]? = w.heap[b]?) : GlbRel w' S' := fun g cs hg => by
 obtain ⟨h1, h2⟩ := h g cs hg
 obtain ⟨c, ty, fr, h3, h4⟩ := h2
 exact ⟨hS g h1, c, ty, fr, by rw [hw g h1]; exact h3, h4⟩
theorem glob_val (hG : GlbRel w S) {g : Nat} {cs : List PV} (h : globs g = some cs) : VRel w S μ ℓ (.pointer (some ⟨g, 0, none⟩)) (.pptr cs) := by
 unfold globs at h
 cases hq : globQ g with
 | none => rw [hq] at h; cases h
 | some qs =>
  rw [hq] at h
  simp only [Option.map_some, Option.some.injEq] at h
  subst h
  obtain ⟨h1, c, ty, fr, hh, hsz, h2'⟩ := hG g qs hq
  have h2 : ∀ j, (h : j < qs.length) → ∃ u, w.cell? ⟨g, j, none⟩ = some u ∧ GqRel qs[j] u := fun j hj => by
   obtain ⟨u, u1, u2⟩ := h2' j hj
   exact ⟨u, by unfold World.cell?; simp [hh, u1], u2⟩
  have h3 : ∀ j, ∃ u, (h : j < qs.length) → w.cell? ⟨g, j, none⟩ = some u ∧ GqRel qs[j] u := fun j => by
   by_cases hj : j < qs.length
   ·obtain ⟨u, hu⟩ := h2 j hj
    exact ⟨u, fun _ => hu⟩
   ·exact ⟨undef, fun h => absurd h hj⟩
  have hl : ∀ j, j < (qs.map GQ.pv).length → j < qs.length := fun j hj => by simpa using hj
  refine .pptr g 0 (qs.map GQ.pv) (fun j => Classical.choose (h3 j)) (fun _ => h1) (fun j hj => by rw [Nat.zero_add]; exact (Classical.choose_spec (h3 j) (hl j hj)).1) (fun j hj => (Classical.choose_spec (h3 j) (hl j hj)).2.one) (fun j hj => ?_)
  have e : (qs.map GQ.pv).getD j .dead = (qs[j]'(hl j hj)).pv := by simp [List.getD_eq_getElem?_getD, hl j hj]
  rw [e]
  exact (Classical.choose_spec (h3 j) (hl j hj)).2.pv
theorem ev_rel (hG : GlbRel w S) {a : Act} {s : Slots} (hs : ∀ t, VRel w S μ ℓ (a.tmps.getD t undef) (look s t)) (x : Operand) : VRel w S μ ℓ (a.eval x) (ev s x) := by
 cases x with
 | tmp t => exact hs t
 | const v => exact ofConst_rel v
 | func f => exact .pure _ _ (.fn f)
 | global g =>
  show VRel w S μ ℓ (.pointer (some ⟨g, 0, none⟩)) (match globs g with | some cs => .pptr cs | none => gdead)
  cases h : globs g with
  | some cs => exact glob_val hG h
  | none => exact vdead _
end vals
section runs
variable {P : Program} (w : World)
theorem r_underlying {t : TypeId} {d : TypeDesc} (h : P.underlying t = some d) : (underlying t).run P w = .ok d w := run_underlying h w
theorem r_size {t : TypeId} {n : Nat} (h : tsize P t = some n) : (sizeOf t).run P w = .ok n w := by
 unfold tsize at h
 cases hi : P.info? t with
 | none => simp [hi] at h
 | some i => simp [hi] at h; simp [sizeOf, typeInfo, hi, h]
theorem r_bytes {t : TypeId} {n : Nat} (h : tbytes P t = some n) : ∃ i, (typeInfo t).run P w = .ok i w ∧ i.bytes = n := by
 unfold tbytes at h
 cases hi : P.info? t with
 | none => simp [hi] at h
 | some i => simp [hi] at h; exact ⟨i, by simp [typeInfo, hi], h⟩
theorem r_agg {t : TypeId} {b : Bool} (h : tagg P t = some b) : (isAgg t).run P w = .ok b w := by
 unfold tagg at h
 cases hu : P.underlying t with
 | none => simp [hu] at h
 | some d =>
  simp only [isAgg, Sem.run_bind, r_underlying w hu, Result.andThen_ok]
  cases d <;> simp [hu] at h <;> subst h <;> rfl
theorem r_zero {t : TypeId} {g : GV} (h : tzero P t = some g) : ∃ v, (zeroValue t).run P w = .ok v w ∧ g = ofConst v := by
 unfold tzero at h
 cases hi : P.info? t with
 | none => simp [hi] at h
 | some i =>
  cases hz : i.zero with
  | none => simp [hi, hz] at h
  | some v => simp [hi, hz] at h; exact ⟨v, by simp [zeroValue, typeInfo, hi, hz], h.symm⟩
def CellsAt (w : World) (b o : Nat) (vs : List Value) : Prop := ∀ j v, vs[j]? = some v → w.cell? ⟨b, o + j, none⟩ = some v
theorem add_none (b o n : Nat) : (⟨b, o, none⟩ : Addr).add n = ⟨b, o + n, none⟩ := by unfold Addr.add; split <;> simp_all
theorem r_loadCells {b o : Nat} {vs : List Value} (h : CellsAt w b o vs) : (loadCells ⟨b, o, none⟩ vs.length).run P w = .ok vs.toArray w :=
 run_loadCells_list w _ vs fun j v hv => by rw [add_none]; exact h j v hv
theorem r_loadVar_agg {t : TypeId} {b o : Nat} {vs : List Value} (ha : tagg P t = some true) (hs : tsize P t = some vs.length) (h : CellsAt w b o vs) :
  (loadVar t ⟨b, o, none⟩).run P w = .ok (.agg vs.toArray) w := by
 simp [loadVar, r_agg w ha, r_size w hs, r_loadCells w h]
theorem r_loadVar_one {t : TypeId} {b o : Nat} {v : Value} (ha : tagg P t = some false) (h : w.cell? ⟨b, o, none⟩ = some v) :
  (loadVar t ⟨b, o, none⟩).run P w = .ok v w := by
 simp [loadVar, r_agg w ha, h]
theorem r_storeVar {t : TypeId} {b o : Nat} {v : Value} {c : Array Value} {e : TypeId} (hs : tsize P t = some v.cells.size) (hg : w.heap[b]? = some (.cells c e (0, 0)))
  (hl : o + v.cells.size ≤ c.size) (h1 : ∀ u ∈ v.cells.toList, u.oneCell' = true) :
  (storeVar t ⟨b, o, none⟩ v).run P w = .ok () (w.setRow b (splice c.toList o v.cells.toList).toArray) := by
 have := run_storeCells_at (P := P) b o e v.cells.toList 0 c w hg (by simpa using hl) h1
 simp only [storeVar, Sem.run_bind, r_size w hs, Result.andThen_ok, ne_eq, not_true_eq_false, if_false]
 simpa [splice, Nat.add_zero] using this
end runs
end
section
section
variable {w w' : World} {S S' : Nat → Prop} {μ μ' : Mu} {H : Heap}
theorem HRel.turn (ℓ : Nat) {nm : Nm} {x : Blk} (hH : HRel w S μ H) (hl : nm.1 < H.length)
  (ho : w'.os = w.os) (ht : w'.tape = w.tape) (hout : w'.output = w.output) (hsz : w.heap.size ≤ w'.heap.size)
  (hsub : ∀ b, S b → S' b) (hsn : ∀ b, S' b → S b ∨ w.heap.size ≤ b ∨ ∃ t, μ nm t = some b) (hsl : ∀ b, S' b → b < w'.heap.size)
  (hh : ∀ k, k < w.heap.size → (S k ∨ ∀ t, μ nm t ≠ some k) → w'.heap[k]? = w.heap[k]?)
  (hsh : ∀ b y, w.shape? b = some y → w'.shape? b = some y)
  (hlp : ∀ (b : Nat) (r : Loop), w.heap[b]? = some (Obj.loop r) → ∃ r' : Loop, w'.heap[b]? = some (Obj.loop r'))
  (hmo : ∀ n t, n ≠ nm → μ' n t = μ n t) (hmu : ∀ t b, μ nm t = some b → μ' nm t = some b)
  (hmn : ∀ t b, μ' nm t = some b → (∃ t', μ nm t' = some b) ∨ w.heap.size ≤ b) (hml : ∀ t b, μ' nm t = some b → b < w'.heap.size)
  (hx : BlkRel w' S' μ' nm x) : HRel w' S' μ' (H.set nm x) ∧ Ev ℓ w S μ w' S' μ' := by
 have hw : ∀ b, S b → w'.heap[b]? = w.heap[b]? := fun b hb => hh b (hH.slt b hb) (.inl hb)
 have hmm : ∀ n t b, μ n t = some b → μ' n t = some b := fun n t b h => by
  by_cases e : n = nm
  ·subst e; exact hmu t b h
  ·rw [hmo n t e]; exact h
 constructor
 ·constructor
  ·intro n b hb t0 b0 hb0
   by_cases e : n = nm
   ·subst e
    rw [Heap.get_set _ hl] at hb
    cases hb; exact hx
   ·rw [Heap.get_set_other _ e] at hb
    rw [hmo n t0 e] at hb0
    refine (hH.blk n b hb t0 b0 hb0).mono hsub hw hsh (fun n t b _ h => hmm n t b h) (fun t => hmo n t e) (fun t b' hb' => ?_) (fun t b' hb' hs => ?_)
    ·exact hh b' (hH.lt _ _ _ hb') (.inr fun t' h' => e (hH.disj _ _ _ _ _ hb' h'))
    ·rcases hsn b' hs with h | h | ⟨t', h⟩
     ·exact h
     ·have := hH.lt _ _ _ hb'; omega
     ·exact absurd (hH.disj _ _ _ _ _ hb' h) e
  ·intro n t b hb
   by_cases e : n = nm
   ·subst e; exact ⟨x, Heap.get_set _ hl⟩
   ·rw [hmo n t e] at hb
    obtain ⟨y, hy⟩ := hH.bnd n t b hb
    exact ⟨y, by rw [Heap.get_set_other _ e]; exact hy⟩
  ·intro n n' t t' b h h'
   have key : ∀ n n' t t' b, n = nm → n' ≠ nm → μ' n t = some b → μ' n' t' = some b → False := by
    intro n n' t t' b e e' h h'
    subst e
    rw [hmo n' t' e'] at h'
    rcases hmn t b h with ⟨t2, h2⟩ | h2
    ·exact e' (hH.disj _ _ _ _ _ h' h2)
    ·have := hH.lt _ _ _ h'; omega
   by_cases e : n = nm
   ·by_cases e' : n' = nm
    ·rw [e, e']
    ·exact (key n n' t t' b e e' h h').elim
   ·by_cases e' : n' = nm
    ·exact (key n' n t' t b e' e h' h).elim
    ·rw [hmo n t e] at h; rw [hmo n' t' e'] at h'
     exact hH.disj _ _ _ _ _ h h'
  ·intro n t b h
   by_cases e : n = nm
   ·subst e; exact hml t b h
   ·rw [hmo n t e] at h; exact Nat.lt_of_lt_of_le (hH.lt _ _ _ h) hsz
  ·exact hsl
  ·exact hH.glb.mono hsub hw
 ·refine ⟨ho, ht, hout, hsz, hsub, fun b hb h => ?_, hsh, hlp, fun n t b _ h => hmm n t b h, fun n t b h hb => ?_, fun b h hb => ?_⟩
  ·rcases h with h | h
   ·exact hw b h
   ·exact hh b hb (.inr fun t => h nm t)
  ·by_cases e : n = nm
   ·subst e
    rcases hmn t b h with ⟨t', h'⟩ | h'
    ·exact ⟨_, t', h'⟩
    ·omega
   ·rw [hmo n t e] at h; exact ⟨n, t, h⟩
  ·rcases hsn b h with h | h | ⟨t, h⟩
   ·exact .inl h
   ·omega
   ·exact .inr ⟨nm, t, h⟩
def Mu.upd (μ : Mu) (nm : Nm) (top b : Nat) : Mu := fun n t => if n = nm ∧ t = top then some b else μ n t
theorem Mu.upd_self (μ : Mu) (nm : Nm) (top b : Nat) : μ.upd nm top b nm top = some b := by simp [Mu.upd]
theorem Mu.upd_other (μ : Mu) {nm n : Nm} (top b t : Nat) (h : n ≠ nm) : μ.upd nm top b n t = μ n t := by simp [Mu.upd, h]
theorem Mu.upd_top (μ : Mu) (nm : Nm) {top t : Nat} (b : Nat) (h : t ≠ top) : μ.upd nm top b nm t = μ nm t := by simp [Mu.upd, h]
theorem alloc_size (w : World) (o : Obj) : (w.alloc o).heap.size = w.heap.size + 1 := by show (w.heap.push o).size = _; simp
theorem alloc_heap (w : World) (o : Obj) (k : Nat) (h : k < w.heap.size) : (w.alloc o).heap[k]? = w.heap[k]? := by
 show (w.heap.push o)[k]? = _
 rw [Array.getElem?_push, if_neg (by omega)]
theorem alloc_new (w : World) (o : Obj) : (w.alloc o).heap[w.heap.size]? = some o := by
 show (w.heap.push o)[w.heap.size]? = _
 simp
theorem alloc_shp (w : World) (o : Obj) (b : Nat) (y : TypeId × Nat) (h : w.shape? b = some y) : (w.alloc o).shape? b = some y := by
 have hb : b < w.heap.size := by
  rcases Nat.lt_or_ge b w.heap.size with h' | h'
  ·exact h'
  ·simp [World.shape?, Array.getElem?_eq_none h'] at h
 unfold World.shape? at h ⊢
 rw [alloc_heap w o b hb]; exact h
theorem alloc_lp (w : World) (o : Obj) (b : Nat) (r : Loop) (h : w.heap[b]? = some (Obj.loop r)) : ∃ r' : Loop, (w.alloc o).heap[b]? = some (Obj.loop r') := by
 have hb : b < w.heap.size := by
  rcases Nat.lt_or_ge b w.heap.size with h' | h'
  ·exact h'
  ·simp [Array.getElem?_eq_none h'] at h
 exact ⟨r, by rw [alloc_heap w o b hb]; exact h⟩
theorem HRel.new (ℓ : Nat) (hH : HRel w S μ H) {nm : Nm} (hg : H.get nm = none) (hl : nm.1 < H.length) (o : Obj) (top : Nat) (x : Blk)
  (hx : BlkRel (w.alloc o) S (μ.upd nm top w.heap.size) nm x) :
  HRel (w.alloc o) S (μ.upd nm top w.heap.size) (H.set nm x) ∧ Ev ℓ w S μ (w.alloc o) S (μ.upd nm top w.heap.size) := by
 have hno : ∀ t b, μ nm t ≠ some b := fun t b h => by obtain ⟨y, hy⟩ := hH.bnd _ _ _ h; rw [hg] at hy; cases hy
 refine hH.turn ℓ hl rfl rfl rfl (by rw [alloc_size]; omega) (fun _ h => h) (fun b h => .inl h) (fun b h => by have := hH.slt b h; rw [alloc_size]; omega)
  (fun k hk _ => alloc_heap w o k hk) (alloc_shp w o) (alloc_lp w o) (fun n t h => Mu.upd_other μ _ _ _ h) (fun t b h => absurd h (hno t b)) (fun t b h => ?_) (fun t b h => ?_) hx
 ·by_cases e : t = top
  ·subst e; rw [Mu.upd_self] at h; cases h; exact .inr (Nat.le_refl _)
  ·rw [Mu.upd_top μ nm _ e] at h; exact absurd h (hno t b)
 ·by_cases e : t = top
  ·subst e; rw [Mu.upd_self] at h; cases h; rw [alloc_size]; omega
  ·rw [Mu.upd_top μ nm _ e] at h; exact absurd h (hno t b)
theorem HRel.lit (ℓ : Nat) (hH : HRel w S μ H) (o : Obj) :
  HRel (w.alloc o) (fun b => S b ∨ b = w.heap.size) μ H ∧ Ev ℓ w S μ (w.alloc o) (fun b => S b ∨ b = w.heap.size) μ := by
 have hw : ∀ b, S b → (w.alloc o).heap[b]? = w.heap[b]? := fun b hb => alloc_heap w o b (hH.slt b hb)
 constructor
 ·refine ⟨fun n b hb t0 b0 hb0 => ?_, hH.bnd, hH.disj, fun n t b h => ?_, fun b h => ?_, hH.glb.mono (fun b h => .inl h) hw⟩
  ·refine (hH.blk n b hb t0 b0 hb0).mono (fun b h => .inl h) hw (alloc_shp w o) (fun _ _ _ _ h => h) (fun _ => rfl) (fun t b' h' => alloc_heap w o b' (hH.lt _ _ _ h')) (fun t b' h' hs => ?_)
   rcases hs with hs | hs
   ·exact hs
   ·have := hH.lt _ _ _ h'; omega
  ·have := hH.lt n t b h; rw [alloc_size]; omega
  ·rcases h with h | h
   ·have := hH.slt b h; rw [alloc_size]; omega
   ·subst h; rw [alloc_size]; omega
 ·exact ⟨rfl, rfl, rfl, by rw [alloc_size]; omega, fun b h => .inl h, fun b hb _ => alloc_heap w o b hb, alloc_shp w o, alloc_lp w o, fun _ _ _ _ h => h, fun n t b h _ => ⟨n, t, h⟩,
   fun b h hb => by rcases h with h | h; exact .inl h; omega⟩
theorem setRow_shp (w : World) (g : Nat) (c c' : Array Value) (e : TypeId) (fr : Nat × Nat) (hg : w.heap[g]? = some (.cells c e fr)) (hs : c'.size = c.size) (b : Nat) (y : TypeId × Nat)
  (h : w.shape? b = some y) : (w.setRow g c').shape? b = some y := by
 unfold World.shape? at h ⊢
 by_cases e' : b = g
 ·subst e'; rw [setRow_heap w b c c' e fr hg]; rw [hg] at h; simpa [hs] using h
 ·rw [setRow_other w g b c' e']; exact h
theorem setRow_lp (w : World) (g : Nat) (c c' : Array Value) (e : TypeId) (fr : Nat × Nat) (hg : w.heap[g]? = some (.cells c e fr)) (b : Nat) (r : Loop)
  (h : w.heap[b]? = some (Obj.loop r)) : ∃ r' : Loop, (w.setRow g c').heap[b]? = some (Obj.loop r') := by
 by_cases e' : b = g
 ·subst e'; rw [hg] at h; cases h
 ·exact ⟨r, by rw [setRow_other w g b c' e']; exact h⟩
theorem HRel.row (ℓ : Nat) (hH : HRel w S μ H) {nm : Nm} {x : Blk} (hl : nm.1 < H.length) {t b : Nat} (hm : μ nm t = some b) (hS : ¬ S b) {c c' : Array Value} {e : TypeId} {fr : Nat × Nat}
  (hg : w.heap[b]? = some (.cells c e fr)) (hs : c'.size = c.size) (top : Nat) (hx : BlkRel (w.setRow b c') S (μ.upd nm top b) nm x)
  (hold : ∀ b', μ nm top = some b' → b' = b) :
  HRel (w.setRow b c') S (μ.upd nm top b) (H.set nm x) ∧ Ev ℓ w S μ (w.setRow b c') S (μ.upd nm top b) := by
 refine hH.turn ℓ hl rfl rfl rfl (by simp) (fun _ h => h) (fun b h => .inl h) (fun b h => by simpa using hH.slt b h) (fun k hk ho => ?_) (setRow_shp w b c c' e fr hg hs)
  (setRow_lp w b c c' e fr hg) (fun n t h => Mu.upd_other μ _ _ _ h) (fun t' b' h => ?_) (fun t' b' h => ?_) (fun t' b' h => ?_) hx
 ·refine setRow_other w b k c' fun e' => ?_
  subst e'
  rcases ho with ho | ho
  ·exact hS ho
  ·exact ho t hm
 ·by_cases e' : t' = top
  ·subst e'; rw [Mu.upd_self, hold b' h]
  ·rw [Mu.upd_top μ nm _ e']; exact h
 ·by_cases e' : t' = top
  ·subst e'; rw [Mu.upd_self] at h; cases h; exact .inl ⟨t, hm⟩
  ·rw [Mu.upd_top μ nm _ e'] at h; exact .inl ⟨t', h⟩
 ·by_cases e' : t' = top
  ·subst e'; rw [Mu.upd_self] at h; cases h; simpa using hH.lt _ _ _ hm
  ·rw [Mu.upd_top μ nm _ e'] at h; simpa using hH.lt _ _ _ h
theorem HRel.freeze (ℓ : Nat) (hH : HRel w S μ H) {nm : Nm} {es : Nat} {elems : List (List PV)} {vf : Nat} {ro : Bool} (hg : H.get nm = some (.arr es elems vf ro)) {t0 b0 : Nat} (hb0 : μ nm t0 = some b0) :
  HRel w (fun b => S b ∨ ∃ t, μ nm t = some b) μ (H.set nm (.arr es elems vf true)) ∧ Ev ℓ w S μ w (fun b => S b ∨ ∃ t, μ nm t = some b) μ := by
 refine hH.turn ℓ (Heap.get_lt hg) rfl rfl rfl (Nat.le_refl _) (fun b h => .inl h) (fun b h => h.imp id .inr) (fun b h => ?_) (fun _ _ _ => rfl) (fun _ _ h => h) (fun b r h => ⟨r, h⟩)
  (fun _ _ _ => rfl) (fun _ _ h => h) (fun t b h => .inl ⟨t, h⟩) (fun t b h => hH.lt _ _ _ h) ?_
 ·rcases h with h | ⟨t, h⟩
  ·exact hH.slt b h
  ·exact hH.lt _ _ _ h
 ·obtain ⟨h0, h1, h2, h3, h4⟩ := hH.blk _ _ hg _ _ hb0
  refine ⟨h0, h1, h2, h3, fun top b hb => ?_⟩
  obtain ⟨g1, g2, g3, g4⟩ := h4 top b hb
  refine ⟨g1, g2, fun h => by simp at h, fun hv => ⟨fun _ => .inr ⟨top, hb⟩, fun i j hi hj => ?_⟩⟩
  obtain ⟨u, u1, u2, u3⟩ := (g4 hv).2 i j hi hj
  exact ⟨u, u1, u2, u3.mono (fun b h => .inl h) (fun _ _ => rfl)⟩
theorem hdr_pure (hH : HRel w S μ H) {ℓ : Nat} {v : Value} {nm : Nm} {es top lo len : Nat} (hv : VRel w S μ ℓ v (.hdr nm es top lo len)) (hS' : ∀ b, S b → S' b)
  (hall : ∀ t b, μ nm t = some b → S' b) : PRep w S' v (sliceOf H nm es top lo len) := by
 unfold sliceOf
 split
 ·rename_i es' elems vf ro hg
  split
  ·rename_i hc
   obtain ⟨rfl, hvf, hlen, htop⟩ := hc
   cases hv with
   | hdr _ _ _ _ _ cap b n e h1 h2 h3 h4 h5 h6 =>
   obtain ⟨h0, k1, k2, k3, k4⟩ := hH.blk _ _ hg _ _ h2
   obtain ⟨g1, g2, g3, g4⟩ := k4 top b h2
   obtain ⟨_, g5⟩ := g4 hvf
   by_cases hz : len = 0
   ·subst hz; simp; exact .slice0 _ _
   ·have hlen2 : ((elems.drop lo).take len).length = len := by simp; omega
    have hget : ∀ i, i < len → (((elems.drop lo).take len).getD i []) = elems.getD (lo + i) [] := fun i hi => by
     simp [List.getD_eq_getElem?_getD, List.getElem?_take, hi, List.getElem?_drop]
    have := PRep.slice (w := w) (S := S') b (lo * es') cap es' ((elems.drop lo).take len) (fun i j => (w.cell? ⟨b, (lo + i) * es' + j, none⟩).getD undef) (hall _ _ h2) h0
     (fun r hr => k1 r (List.mem_of_mem_drop (List.mem_of_mem_take hr)))
     (fun i j hi hj => by
      rw [hlen2] at hi
      obtain ⟨u, u1, u2, u3⟩ := g5 (lo + i) j (by omega) hj
      have e : lo * es' + (i * es' + j) = (lo + i) * es' + j := by rw [Nat.add_mul]; omega
      rw [e, u1]; rfl)
     (fun i j hi hj => by
      rw [hlen2] at hi
      obtain ⟨u, u1, u2, u3⟩ := g5 (lo + i) j (by omega) hj
      simp only [u1, Option.getD_some]; exact u2)
     (fun i j hi hj => by
      rw [hlen2] at hi
      obtain ⟨u, u1, u2, u3⟩ := g5 (lo + i) j (by omega) hj
      simp only [u1, Option.getD_some, hget i hi]
      exact u3.mono hS' (fun _ _ => rfl))
     (by rw [hlen2]; omega)
    rw [hlen2] at this
    exact this
  ·exact .dead _
 ·exact .dead _
theorem row_pure {b es : Nat} {r : List (List PV)} {cap : Nat} (hr : RowRel w S b es r) (hpos : 0 < es) (hw : ∀ x ∈ r, x.length = es) (hc : r.length ≤ cap) (hS' : ∀ b, S b → S' b) (hb : S' b) :
  PRep w S' (.slice (some ⟨b, 0, none⟩) r.length cap) (.slice r) := by
 obtain ⟨_, _, h3⟩ := hr
 refine PRep.slice (w := w) (S := S') b 0 cap es r (fun i j => (w.cell? ⟨b, i * es + j, none⟩).getD undef) hb hpos hw (fun i j hi hj => ?_) (fun i j hi hj => ?_) (fun i j hi hj => ?_) hc
 ·obtain ⟨u, u1, u2, u3⟩ := h3 i j hi hj
  rw [Nat.zero_add, u1]; rfl
 ·obtain ⟨u, u1, u2, u3⟩ := h3 i j hi hj
  simp only [u1, Option.getD_some]; exact u2
 ·obtain ⟨u, u1, u2, u3⟩ := h3 i j hi hj
  simp only [u1, Option.getD_some]; exact u3.mono hS' (fun _ _ => rfl)
theorem hdr_pureM (hH : HRel w S μ H) {ℓ : Nat} {v : Value} {nm : Nm} {es top lo len : Nat} (hv : VRel w S μ ℓ v (.hdr nm es top lo len)) (hS' : ∀ b, S b → S' b)
  (hall : ∀ t b, μ nm t = some b → S' b) : PRep w S' v (sliceOfM H nm es top lo len) := by
 unfold sliceOfM
 split
 ·rename_i es' rows n hg
  split
  ·rename_i hc
   obtain ⟨rfl, hlen, htop⟩ := hc
   cases hv with
   | hdr _ _ _ _ _ cap b n e h1 h2 h3 h4 h5 h6 =>
   have m : MatRel w S μ nm es' rows _ := hH.blk _ _ hg _ _ h2
   have hml := m.le
   obtain ⟨g1, g2, g3, g4, g5⟩ := m.top top b (by have := m.lim; omega) h2
   by_cases hz : len = 0
   ·subst hz; simp; exact .slice0 _ _
   ·have hlen2 : (((rows.drop lo).take len).map fun r => [PV.slice r]).length = len := by simp; omega
    have hget : ∀ i, i < len → ((((rows.drop lo).take len).map fun r => [PV.slice r]).getD i []) = [.slice (rows.getD (lo + i) [])] := fun i hi => by
     have : lo + i < rows.length := by omega
     simp [List.getD_eq_getElem?_getD, List.getElem?_take, hi, List.getElem?_drop, this]
    have := PRep.slice (w := w) (S := S') b (lo * 1) cap 1 (((rows.drop lo).take len).map fun r => [PV.slice r]) (fun i j => (w.cell? ⟨b, lo + i, none⟩).getD undef) (hall _ _ h2) (by omega)
     (fun r hr => by obtain ⟨x, _, rfl⟩ := List.mem_map.1 hr; rfl)
     (fun i j hi hj => by
      rw [hlen2] at hi
      obtain ⟨bi, cp, u1, u2, u3⟩ := g5 (lo + i) (by omega)
      obtain rfl : j = 0 := by omega
      have e : lo * 1 + (i * 1 + 0) = lo + i := by omega
      rw [e, u1]; rfl)
     (fun i j hi hj => by
      rw [hlen2] at hi
      obtain ⟨bi, cp, u1, u2, u3⟩ := g5 (lo + i) (by omega)
      simp only [u1, Option.getD_some]; rfl)
     (fun i j hi hj => by
      rw [hlen2] at hi
      obtain ⟨bi, cp, u1, u2, u3⟩ := g5 (lo + i) (by omega)
      obtain rfl : j = 0 := by omega
      rw [hget i hi]
      simp only [u1, Option.getD_some, List.getD_cons_zero]
      obtain ⟨b', k1, k2⟩ := m.row (lo + i) (by omega)
      rw [u2] at k1; cases k1
      refine row_pure k2 m.pos (fun x hx => ?_) u3 hS' (hall _ _ u2)
      have hlt : lo + i < rows.length := by omega
      rw [List.getD_eq_getElem?_getD, List.getElem?_eq_getElem hlt] at hx
      exact m.wid _ (List.getElem_mem hlt) x hx)
     (by rw [hlen2]; omega)
    rw [hlen2] at this
    exact this
  ·exact .dead _
 ·exact hdr_pure hH hv hS' hall
theorem pureCell_hdr_get {nm : Nm} {es top lo len : Nat} : (pureCell H (.hdr nm es top lo len)) =
  match H.get nm with
  | some (.arr es' elems vf _) => if es' = es ∧ vf ≤ top ∧ lo + len ≤ top ∧ top ≤ elems.length then (.slice ((elems.drop lo).take len), H.set nm (.arr es' elems vf true)) else (.dead, H)
  | _ => (.dead, H) := rfl
def SameBox (H H1 : Heap) : Prop := H1.length = H.length ∧ (∀ nm cs, H.get nm = some (.box cs) → H1.get nm = some (.box cs)) ∧ (∀ nm, (H.get nm).isSome → (H1.get nm).isSome)
theorem SameBox.refl (H : Heap) : SameBox H H := ⟨rfl, fun _ _ h => h, fun _ h => h⟩
theorem SameBox.trans {H1 H2 H3 : Heap} (h : SameBox H1 H2) (k : SameBox H2 H3) : SameBox H1 H3 :=
 ⟨k.1.trans h.1, fun nm cs hg => k.2.1 nm cs (h.2.1 nm cs hg), fun nm hg => k.2.2 nm (h.2.2 nm hg)⟩
theorem pureCell_rel (ℓ : Nat) (hH : HRel w S μ H) {k : Nat} {v : Value} {g : GV} (hv : VRel w S μ k v g) :
  ∃ S', HRel w S' μ (pureCell H g).2 ∧ Ev ℓ w S μ w S' μ ∧ PRep w S' v (pureCell H g).1 ∧ SameBox H (pureCell H g).2 := by
 have triv : ∀ p, PRep w S v p → ∃ S', HRel w S' μ H ∧ Ev ℓ w S μ w S' μ ∧ PRep w S' v p ∧ SameBox H H := fun p hp => ⟨S, hH, .refl _ _ _ _, hp, .refl H⟩
 cases g with
 | pure p => exact triv p hv.pv
 | nils => cases hv with | nils a => exact triv _ (.slice0 a 0)
 | hdr nm es top lo len =>
  rw [pureCell_hdr_get]
  have hs := hdr_pure (S' := fun b => S b ∨ ∃ t, μ nm t = some b) hH hv (fun b h => .inl h) (fun t b h => .inr ⟨t, h⟩)
  unfold sliceOf at hs
  split
  ·rename_i es' elems vf ro hg
   rw [hg] at hs
   simp only at hs
   split
   ·rename_i hc
    rw [if_pos hc] at hs
    obtain ⟨tb, bb, hbb⟩ : ∃ t b, μ nm t = some b := by cases hv with | hdr _ _ _ _ _ cap b n e h1 h2 h3 h4 h5 h6 => exact ⟨_, _, h2⟩
    obtain ⟨h1, h2⟩ := hH.freeze ℓ hg hbb
    refine ⟨_, h1, h2, hs, Heap.length_set _ _ _, fun n cs hn => ?_, fun n hn => ?_⟩
    ·rw [Heap.get_set_other]; exact hn
     intro e; subst e; rw [hg] at hn; cases hn
    ·by_cases e : n = nm
     ·subst e; rw [Heap.get_set _ (Heap.get_lt hg)]; rfl
     ·rw [Heap.get_set_other _ e]; exact hn
   ·exact triv _ (.dead v)
  ·exact triv _ (.dead v)
 | _ => exact triv _ (.dead v)
theorem pureCells_rel (ℓ : Nat) : ∀ {gs : List GV} {vs : List Value} {S : Nat → Prop} {H : Heap} {k : Nat}, HRel w S μ H → CRel w S μ k vs gs →
  ∃ S', HRel w S' μ (pureCells H gs).2 ∧ Ev ℓ w S μ w S' μ ∧ CRel w S' μ k vs ((pureCells H gs).1.map .pure) ∧ SameBox H (pureCells H gs).2
 | [], vs, S, H, k, hH, hc => by cases hc; exact ⟨S, hH, .refl _ _ _ _, .nil, .refl H⟩
 | g :: gs, vs, S, H, k, hH, hc => by
  cases hc with
  | cons h1 h2 h3 =>
  obtain ⟨S1, a1, a2, a3, a4⟩ := pureCell_rel ℓ hH h2
  have h3' : CRel w S1 μ k _ gs := h3.mono a2.sub (fun _ _ => rfl) (fun _ _ h => h) (fun _ _ _ _ h => h) (Nat.le_refl _)
  obtain ⟨S2, b1, b2, b3, b4⟩ := pureCells_rel ℓ a1 h3'
  refine ⟨S2, b1, a2.trans b2, ?_, a4.trans b4⟩
  exact .cons h1 (.pure _ _ (a3.mono b2.sub (fun _ _ => rfl))) b3
theorem allLe_rel {l0 : Nat} {k : Nat} : ∀ {gs : List GV} {f : Nat → Value}, allLe l0 gs = true → (∀ j, j < gs.length → VRel w S μ k (f j) (gs.getD j gdead)) →
  ∀ j, j < gs.length → VRel w S μ l0 (f j) (gs.getD j gdead)
 | [], f, _, h => by simp
 | g :: gs, f, ha, h => by
  have hrec : allLe l0 gs = true → ∀ j, j < gs.length → VRel w S μ l0 (f (j + 1)) (gs.getD j gdead) := fun ha' =>
   allLe_rel (f := fun j => f (j + 1)) ha' (fun j hj => by simpa using h (j + 1) (by simpa using hj))
  have h0 : VRel w S μ k (f 0) g := by simpa using h 0 (by simp)
  have main : VRel w S μ l0 (f 0) g ∧ allLe l0 gs = true := by
   generalize f 0 = v at h0
   cases h0 with
   | pure _ p hp => exact ⟨.pure _ _ hp, by simpa [allLe] using ha⟩
   | pptr b o cs f' hS hf h1 hr => exact ⟨.pptr b o cs f' hS hf h1 hr, by simpa [allLe] using ha⟩
   | nils a => exact ⟨.nils a, by simpa [allLe] using ha⟩
   | bptr nm off b h1 h2 => simp [allLe] at ha; exact ⟨.bptr nm off b ha.1 h2, ha.2⟩
   | eptr nm es top i off b h1 h2 => simp [allLe] at ha; exact ⟨.eptr nm es top i off b ha.1 h2, ha.2⟩
   | hdr nm es top lo len cap b n e h1 h2 h3 h4 h5 h6 => simp [allLe] at ha; exact ⟨.hdr nm es top lo len cap b n e ha.1 h2 h3 h4 h5 h6, ha.2⟩
   | yield nm b h1 h2 => simp [allLe] at ha; exact ⟨.yield nm b ha.1 h2, ha.2⟩
   | map nm b h1 h2 => simp [allLe] at ha; exact ⟨.map nm b ha.1 h2, ha.2⟩
   | _ => simp [allLe] at ha
  intro j hj
  cases j with
  | zero => simpa using main.1
  | succ j => simpa using hrec main.2 j (by simpa using hj)
theorem clean1_gen {k l0 : Nat} {v : Value} {g : GV} (hv : VRel w S μ k v g) (hS' : ∀ b, S b → S' b)
  (hall : ∀ nm es top lo len, g = .hdr nm es top lo len → ¬ nm.1 ≤ l0 → PRep w S' v (sliceOfM H nm es top lo len)) :
  VRel w S' μ l0 v (clean1 H l0 g) := by
 have up : ∀ {v g}, VRel w S μ l0 v g → VRel w S' μ l0 v g := fun h => h.mono hS' (fun _ _ => rfl) (fun _ _ h => h) (fun _ _ _ _ h => h) (Nat.le_refl _)
 cases hv with
 | pure _ p hp => exact up (.pure _ _ hp)
 | pptr b o cs f hS hf h1 hr => exact up (.pptr b o cs f hS hf h1 hr)
 | lptr b o cs f hS hf h1 hr =>
  simp only [clean1]
  split
  ·rename_i ha
   exact up (.lptr b o cs f hS hf h1 (allLe_rel ha hr))
  ·exact vdead _
 | nils a => exact up (.nils a)
 | lits b o cap es l f hS he hes hf h1 hr hcap =>
  simp only [clean1]
  split
  ·rename_i ha
   refine up (.lits b o cap es l f hS he hes hf h1 (fun i j hi hj => ?_) hcap)
   have hi' : l[i] ∈ l := List.getElem_mem hi
   have e : l.getD i [] = l[i] := by simp [List.getD_eq_getElem?_getD, hi]
   have hl : (l[i]).length = es := hes _ hi'
   rw [e]
   refine allLe_rel (k := k) (f := f i) (List.all_eq_true.1 ha _ hi') (fun j hj => ?_) j (by omega)
   have := hr i j hi (by omega)
   rwa [e] at this
  ·exact vdead _
 | bptr nm off b h1 h2 => simp only [clean1]; split; exact up (.bptr nm off b ‹_› h2); exact vdead _
 | eptr nm es top i off b h1 h2 => simp only [clean1]; split; exact up (.eptr nm es top i off b ‹_› h2); exact vdead _
 | hdr nm es top lo len cap b n e h1 h2 h3 h4 h5 h6 =>
  simp only [clean1]
  split
  ·exact up (.hdr nm es top lo len cap b n e ‹_› h2 h3 h4 h5 h6)
  ·rename_i hl
   exact .pure _ _ (hall nm es top lo len rfl hl)
 | agg vs l h h1 hr => exact vdead _
 | tuple vs l h hr => exact vdead _
 | func f a c la lc h1 h2 hr1 hr2 =>
  simp only [clean1]
  split
  ·rename_i ha
   simp only [Bool.and_eq_true] at ha
   exact up (.func f a c la lc h1 h2 (allLe_rel ha.1 hr1) (allLe_rel ha.2 hr2))
  ·exact vdead _
 | yield nm b h1 h2 => simp only [clean1]; split; exact up (.yield nm b ‹_› h2); exact vdead _
 | map nm b h1 h2 => simp only [clean1]; split; exact up (.map nm b ‹_› h2); exact vdead _
 | rhdr nm es i len cap b h1 h2 h3 => simp only [clean1]; split; exact up (.rhdr nm es i len cap b ‹_› h2 h3); exact vdead _
 | rptr nm es i j off b h1 h2 => simp only [clean1]; split; exact up (.rptr nm es i j off b ‹_› h2); exact vdead _
theorem clean1_rel (hH : HRel w S μ H) {k l0 : Nat} {v : Value} {g : GV} (hv : VRel w S μ k v g) (hS' : ∀ b, S b → S' b) (hall : ∀ nm t b, l0 < nm.1 → μ nm t = some b → S' b) :
  VRel w S' μ l0 v (clean1 H l0 g) :=
 clean1_gen hv hS' fun nm es top lo len e hl => by subst e; exact hdr_pureM hH hv hS' (fun t b h => hall nm t b (by omega) h)
theorem clean1_cells (hH : HRel w S μ H) {k l0 : Nat} (hS' : ∀ b, S b → S' b) (hall : ∀ nm t b, l0 < nm.1 → μ nm t = some b → S' b) {vs : List Value} {gs : List GV}
  (h : CRel w S μ k vs gs) : CRel w S' μ l0 vs (gs.map (clean1 H l0)) := by
 induction h with
 | nil => exact .nil
 | cons h1 h2 _ ih => exact .cons h1 (clean1_rel hH h2 hS' hall) ih
theorem VRel.cells {k : Nat} {v : Value} {l : List GV} (h : VRel w S μ k v (.agg l)) : ∃ vs : Array Value, v = .agg vs ∧ CRel w S μ k vs.toList l := by
 cases h with
 | agg vs _ h1 h2 h3 =>
  exact ⟨vs, rfl, .of_get _ _ (by simpa using h1) fun j hj => by
   have a := h2 j hj; have b := h3 j hj
   rw [agetD] at a b; exact ⟨a, b⟩⟩
theorem capP_rel (hH : HRel w S μ H) {k l0 : Nat} {v : Value} {g g' : GV} (hv : VRel w S μ k v g) (hS' : ∀ b, S b → S' b) (hall : ∀ nm t b, l0 < nm.1 → μ nm t = some b → S' b)
  (h : capP H l0 g = some g') : VRel w S' μ l0 v g' := by
 have up : ∀ {v g}, VRel w S μ l0 v g → VRel w S' μ l0 v g := fun h => h.mono hS' (fun _ _ => rfl) (fun _ _ h => h) (fun _ _ _ _ h => h) (Nat.le_refl _)
 cases hv with
 | pure _ p hp => simp only [capP, Option.some.injEq] at h; subst h; exact up (.pure _ _ hp)
 | pptr b o cs f hS hf h1 hr => simp only [capP, Option.some.injEq] at h; subst h; exact up (.pptr b o cs f hS hf h1 hr)
 | nils a => simp only [capP, Option.some.injEq] at h; subst h; exact up (.nils a)
 | bptr nm off b h1 h2 =>
  simp only [capP] at h
  split at h
  ·simp only [Option.some.injEq] at h; subst h; exact up (.bptr nm off b ‹_› h2)
  ·rename_i hl
   split at h
   ·rename_i cs hg
    split at h
    ·rename_i ps hps
     split at h
     ·rename_i ho
      simp only [Option.some.injEq] at h
      subst h
      obtain ⟨b', c, e, q1, _, q3, q4⟩ := hH.blk nm _ hg 0 b h2
      rw [h2] at q1
      cases q1
      rw [allPure_some hps] at q4
      obtain ⟨z1, z2⟩ := CRel.pures _ _ q4
      refine .pptr b off (ps.drop off) (fun j => c.toList.getD (off + j) undef) (fun _ => hall nm 0 b (by omega) h2) (fun j hj => ?_) (fun j hj => ?_) (fun j hj => ?_)
      ·have hj' : off + j < c.toList.length := by rw [z1]; simp at hj; omega
       have this : c.toList[off + j]? = some (c.toList.getD (off + j) undef) := by rw [List.getD_eq_getElem?_getD, List.getElem?_eq_getElem hj']; rfl
       simp only [World.cell?, q3]
       simpa using this
      ·exact (z2 (off + j) (by simp at hj; omega)).1
      ·have := (z2 (off + j) (by simp at hj; omega)).2
       have e : (ps.drop off).getD j .dead = ps.getD (off + j) .dead := by simp [List.getD_eq_getElem?_getD, List.getElem?_drop]
       rw [e]
       exact this.mono hS' (fun _ _ => rfl)
     ·cases h
    ·cases h
   ·cases h
 | _ => simp [capP] at h
theorem capsP_rel (hH : HRel w S μ H) {k l0 : Nat} (hS' : ∀ b, S b → S' b) (hall : ∀ nm t b, l0 < nm.1 → μ nm t = some b → S' b) :
  ∀ {gs gs' : List GV} {f : Nat → Value}, capsP H l0 gs = some gs' → (∀ j, j < gs.length → VRel w S μ k (f j) (gs.getD j gdead)) → gs'.length = gs.length ∧ ∀ j, j < gs'.length → VRel w S' μ l0 (f j) (gs'.getD j gdead)
 | [], gs', f, h, _ => by
  simp only [capsP, Option.some.injEq] at h
  subst h
  exact ⟨rfl, fun j hj => absurd hj (Nat.not_lt_zero _)⟩
 | g :: gs, gs', f, h, hr => by
  simp only [capsP] at h
  split at h
  ·rename_i g1 r1 e1 e2
   simp only [Option.some.injEq] at h
   subst h
   obtain ⟨a, b⟩ := capsP_rel hH hS' hall (f := fun j => f (j + 1)) e2 (fun j hj => by simpa using hr (j + 1) (by simpa using hj))
   refine ⟨by simp [a], fun j hj => ?_⟩
   cases j with
   | zero => simpa using capP_rel hH (by simpa using hr 0 (by simp)) hS' hall e1
   | succ j => simpa using b j (by simpa using hj)
  ·cases h
theorem clean2_rel (hH : HRel w S μ H) {k l0 : Nat} {v : Value} {g : GV} (hv : VRel w S μ k v g) (hS' : ∀ b, S b → S' b) (hall : ∀ nm t b, l0 < nm.1 → μ nm t = some b → S' b) :
  VRel w S' μ l0 v (clean2 H l0 g) := by
 cases g with
 | agg l =>
  obtain ⟨vs, rfl, hc⟩ := hv.cells
  exact mkAgg_rel' (clean1_cells hH hS' hall hc)
 | func f la lc =>
  simp only [clean2]
  split
  ·rename_i ha
   have := clean1_rel (l0 := l0) hH hv hS' hall
   simpa only [clean1, ha, if_true] using this
  ·split
   ·rename_i hf
    split
    ·rename_i cap' hc
     cases hv with
     | func _ a c _ _ h1 h2 hr1 hr2 =>
      obtain ⟨e1, e2⟩ := capsP_rel hH hS' hall hc hr2
      exact .func f a c la cap' h1 (by rw [e1]; exact h2) (fun j hj => (allLe_rel hf hr1 j hj).mono hS' (fun _ _ => rfl) (fun _ _ h => h) (fun _ _ _ _ h => h) (Nat.le_refl _)) e2
    ·exact vdead _
   ·exact vdead _
 | _ => exact clean1_rel hH hv hS' hall
theorem clean_rel (hH : HRel w S μ H) {k l0 : Nat} {v : Value} {g : GV} (hv : VRel w S μ k v g) (hS' : ∀ b, S b → S' b) (hall : ∀ nm t b, l0 < nm.1 → μ nm t = some b → S' b) :
  VRel w S' μ l0 v (clean H l0 g) := by
 cases g with
 | tuple l =>
  cases hv with
  | tuple vs _ h1 h2 =>
   refine mkTuple_rel (by simpa using h1) fun j hj => ?_
   have hj' : j < l.length := by simpa using hj
   have e : (l.map (clean2 H l0)).getD j gdead = clean2 H l0 (l.getD j gdead) := by simp [List.getD_eq_getElem?_getD, hj']
   rw [e]
   exact clean2_rel hH (h2 j hj') hS' hall
 | _ => exact clean2_rel hH hv hS' hall
theorem lowerCell_rel (ℓ : Nat) (hH : HRel w S μ H) {k : Nat} {v : Value} {g : GV} (l0 : Nat) (hv : VRel w S μ k v g) :
  ∃ S', HRel w S' μ (lowerCell H l0 g).2 ∧ Ev ℓ w S μ w S' μ ∧ VRel w S' μ l0 v (lowerCell H l0 g).1 ∧ SameBox H (lowerCell H l0 g).2 := by
 cases g with
 | hdr nm es top lo len =>
  simp only [lowerCell]
  split
  ·rename_i hl
   refine ⟨S, hH, .refl _ _ _ _, ?_, .refl H⟩
   cases hv with
   | hdr _ _ _ _ _ cap b n e h1 h2 h3 h4 h5 h6 => exact .hdr nm es top lo len cap b n e hl h2 h3 h4 h5 h6
  ·obtain ⟨S', a1, a2, a3, a4⟩ := pureCell_rel ℓ hH hv
   exact ⟨S', a1, a2, .pure _ _ a3, a4⟩
 | _ => exact ⟨S, hH, .refl _ _ _ _, clean1_gen (H := H) hv (fun _ h => h) (fun nm es top lo len e _ => by cases e), .refl H⟩
theorem lowerCells_rel (ℓ l0 : Nat) : ∀ {gs : List GV} {vs : List Value} {S : Nat → Prop} {H : Heap} {k : Nat}, HRel w S μ H → CRel w S μ k vs gs →
  ∃ S', HRel w S' μ (lowerCells H l0 gs).2 ∧ Ev ℓ w S μ w S' μ ∧ CRel w S' μ l0 vs (lowerCells H l0 gs).1 ∧ SameBox H (lowerCells H l0 gs).2
 | [], vs, S, H, k, hH, hc => by cases hc; exact ⟨S, hH, .refl _ _ _ _, .nil, .refl H⟩
 | g :: gs, vs, S, H, k, hH, hc => by
  cases hc with
  | cons h1 h2 h3 =>
  obtain ⟨S1, a1, a2, a3, a4⟩ := lowerCell_rel ℓ hH l0 h2
  have h3' : CRel w S1 μ k _ gs := h3.mono a2.sub (fun _ _ => rfl) (fun _ _ h => h) (fun _ _ _ _ h => h) (Nat.le_refl _)
  obtain ⟨S2, b1, b2, b3, b4⟩ := lowerCells_rel ℓ l0 a1 h3'
  exact ⟨S2, b1, a2.trans b2, .cons h1 (a3.mono b2.sub (fun _ _ => rfl) (fun _ _ h => h) (fun _ _ _ _ h => h) (Nat.le_refl _)) b3, a4.trans b4⟩
end
end
end Go.Gh
