/- The ghost world: pure values, ghost values, blocks, heaps. Generic over the program. -/
import Derived.Test.YtgmohiojddnfgaaGreatDoorGlob
import Derived.RangeFuncLeaves
import Derived.WalkKit
import Derived.Eval
namespace Go.Gh

/-- What memory that is never written again holds. -/
inductive PV where
  | int (k : IntKind) (n : Int)
  | bool (b : Bool)
  | str (s : List UInt8)
  | slice (l : List (List PV))
  | agg (l : List PV)
  | tuple (l : List PV)
  | fn (f : FuncId)
  | nilp
  | nilf
  | nilm
  | nili
  | iface (t : TypeId) (v : PV)
  | dead
  deriving Inhabited

/-- A name of a ghost block: a level, a key. -/
abbrev Nm := Nat × Nat

inductive GV where
  | pure (p : PV)
  /-- a pointer to cells that are never written again: what lies from there on -/
  | pptr (cs : List PV)
  /-- a slice without room behind its length, of length 0 -/
  | nils
  | bptr (nm : Nm) (off : Nat)
  | eptr (nm : Nm) (es top i off : Nat)
  | hdr (nm : Nm) (es top lo len : Nat)
  /-- a slice of a literal, never written: its elements' cells -/
  | lits (l : List (List GV))
  /-- a pointer into such a literal: what lies from there on in its element -/
  | lptr (cs : List GV)
  | agg (l : List GV)
  | tuple (l : List GV)
  | func (f : FuncId) (first cap : List GV)
  | yield (nm : Nm)
  | map (nm : Nm)
  /-- a row of a table: its header, a pointer into it -/
  | rhdr (nm : Nm) (es i len : Nat)
  | rptr (nm : Nm) (es i j off : Nat)
  deriving Inhabited

mutual
def PV.beq : PV → PV → Bool
  | .int k a, .int k' b => decide (k = k') && a == b
  | .bool a, .bool b => a == b
  | .str a, .str b => a == b
  | .slice a, .slice b => PV.beqLL a b
  | .agg a, .agg b => PV.beqL a b
  | .tuple a, .tuple b => PV.beqL a b
  | .fn f, .fn g => f == g
  | .nilp, .nilp | .nilf, .nilf | .nilm, .nilm | .nili, .nili | .dead, .dead => true
  | .iface t v, .iface u w => t == u && PV.beq v w
  | _, _ => false
def PV.beqL : List PV → List PV → Bool
  | [], [] => true
  | a :: r, b :: s => PV.beq a b && PV.beqL r s
  | _, _ => false
def PV.beqLL : List (List PV) → List (List PV) → Bool
  | [], [] => true
  | a :: r, b :: s => PV.beqL a b && PV.beqLL r s
  | _, _ => false
end

mutual
def GV.beq : GV → GV → Bool
  | .pure a, .pure b => PV.beq a b
  | .pptr a, .pptr b => PV.beqL a b
  | .nils, .nils => true
  | .bptr n o, .bptr m p => n == m && o == p
  | .eptr n e t i o, .eptr m e' t' i' o' => n == m && e == e' && t == t' && i == i' && o == o'
  | .hdr n e t i o, .hdr m e' t' i' o' => n == m && e == e' && t == t' && i == i' && o == o'
  | .lits a, .lits b => GV.beqLL a b
  | .lptr a, .lptr b => GV.beqL a b
  | .agg a, .agg b => GV.beqL a b
  | .tuple a, .tuple b => GV.beqL a b
  | .func f a c, .func g b d => f == g && GV.beqL a b && GV.beqL c d
  | .yield n, .yield m => n == m
  | .map n, .map m => n == m
  | .rhdr n e i l, .rhdr m e' i' l' => n == m && e == e' && i == i' && l == l'
  | .rptr n e i j o, .rptr m e' i' j' o' => n == m && e == e' && i == i' && j == j' && o == o'
  | _, _ => false
def GV.beqL : List GV → List GV → Bool
  | [], [] => true
  | a :: r, b :: s => GV.beq a b && GV.beqL r s
  | _, _ => false
def GV.beqLL : List (List GV) → List (List GV) → Bool
  | [], [] => true
  | a :: r, b :: s => GV.beqL a b && GV.beqLL r s
  | _, _ => false
end

mutual
theorem PV.beq_eq : ∀ a b : PV, PV.beq a b = true → a = b
  | .int k a, b, h => by cases b <;> simp_all [PV.beq]
  | .bool a, b, h => by cases b <;> simp_all [PV.beq]
  | .str a, b, h => by cases b <;> simp_all [PV.beq]
  | .slice a, b, h => by cases b <;> simp [PV.beq] at h; rw [PV.beqLL_eq _ _ h]
  | .agg a, b, h => by cases b <;> simp [PV.beq] at h; rw [PV.beqL_eq _ _ h]
  | .tuple a, b, h => by cases b <;> simp [PV.beq] at h; rw [PV.beqL_eq _ _ h]
  | .fn f, b, h => by cases b <;> simp_all [PV.beq]
  | .nilp, b, h => by cases b <;> simp_all [PV.beq]
  | .nilf, b, h => by cases b <;> simp_all [PV.beq]
  | .nilm, b, h => by cases b <;> simp_all [PV.beq]
  | .nili, b, h => by cases b <;> simp_all [PV.beq]
  | .iface t v, b, h => by cases b <;> simp [PV.beq] at h; rw [h.1, PV.beq_eq _ _ h.2]
  | .dead, b, h => by cases b <;> simp_all [PV.beq]
theorem PV.beqL_eq : ∀ a b : List PV, PV.beqL a b = true → a = b
  | [], b, h => by cases b <;> simp_all [PV.beqL]
  | x :: r, b, h => by
    cases b with
    | nil => simp [PV.beqL] at h
    | cons y s => simp [PV.beqL] at h; rw [PV.beq_eq _ _ h.1, PV.beqL_eq _ _ h.2]
theorem PV.beqLL_eq : ∀ a b : List (List PV), PV.beqLL a b = true → a = b
  | [], b, h => by cases b <;> simp_all [PV.beqLL]
  | x :: r, b, h => by
    cases b with
    | nil => simp [PV.beqLL] at h
    | cons y s => simp [PV.beqLL] at h; rw [PV.beqL_eq _ _ h.1, PV.beqLL_eq _ _ h.2]
end

mutual
theorem GV.beq_eq : ∀ a b : GV, GV.beq a b = true → a = b
  | .pure a, b, h => by cases b <;> simp [GV.beq] at h; rw [PV.beq_eq _ _ h]
  | .pptr a, b, h => by cases b <;> simp [GV.beq] at h; rw [PV.beqL_eq _ _ h]
  | .nils, b, h => by cases b <;> simp_all [GV.beq]
  | .bptr n o, b, h => by cases b <;> simp_all [GV.beq]
  | .eptr n e t i o, b, h => by cases b <;> simp_all [GV.beq]
  | .hdr n e t i o, b, h => by cases b <;> simp_all [GV.beq]
  | .lits a, b, h => by cases b <;> simp [GV.beq] at h; rw [GV.beqLL_eq _ _ h]
  | .lptr a, b, h => by cases b <;> simp [GV.beq] at h; rw [GV.beqL_eq _ _ h]
  | .agg a, b, h => by cases b <;> simp [GV.beq] at h; rw [GV.beqL_eq _ _ h]
  | .tuple a, b, h => by cases b <;> simp [GV.beq] at h; rw [GV.beqL_eq _ _ h]
  | .func f a c, b, h => by cases b <;> simp [GV.beq] at h; rw [h.1.1, GV.beqL_eq _ _ h.1.2, GV.beqL_eq _ _ h.2]
  | .yield n, b, h => by cases b <;> simp_all [GV.beq]
  | .map n, b, h => by cases b <;> simp_all [GV.beq]
  | .rhdr n e i l, b, h => by cases b <;> simp_all [GV.beq]
  | .rptr n e i j o, b, h => by cases b <;> simp_all [GV.beq]
theorem GV.beqL_eq : ∀ a b : List GV, GV.beqL a b = true → a = b
  | [], b, h => by cases b <;> simp_all [GV.beqL]
  | x :: r, b, h => by
    cases b with
    | nil => simp [GV.beqL] at h
    | cons y s => simp [GV.beqL] at h; rw [GV.beq_eq _ _ h.1, GV.beqL_eq _ _ h.2]
theorem GV.beqLL_eq : ∀ a b : List (List GV), GV.beqLL a b = true → a = b
  | [], b, h => by cases b <;> simp_all [GV.beqLL]
  | x :: r, b, h => by
    cases b with
    | nil => simp [GV.beqLL] at h
    | cons y s => simp [GV.beqLL] at h; rw [GV.beqL_eq _ _ h.1, GV.beqLL_eq _ _ h.2]
end

mutual
@[simp] theorem PV.beq_self : ∀ a : PV, PV.beq a a = true
  | .int k a => by simp [PV.beq]
  | .bool a => by simp [PV.beq]
  | .str a => by simp [PV.beq]
  | .slice a => by simp [PV.beq, PV.beqLL_self a]
  | .agg a => by simp [PV.beq, PV.beqL_self a]
  | .tuple a => by simp [PV.beq, PV.beqL_self a]
  | .fn f => by simp [PV.beq]
  | .nilp => rfl
  | .nilf => rfl
  | .nilm => rfl
  | .nili => rfl
  | .iface t v => by simp [PV.beq, PV.beq_self v]
  | .dead => rfl
@[simp] theorem PV.beqL_self : ∀ a : List PV, PV.beqL a a = true
  | [] => rfl
  | x :: r => by simp [PV.beqL, PV.beq_self x, PV.beqL_self r]
@[simp] theorem PV.beqLL_self : ∀ a : List (List PV), PV.beqLL a a = true
  | [] => rfl
  | x :: r => by simp [PV.beqLL, PV.beqL_self x, PV.beqLL_self r]
end

mutual
@[simp] theorem GV.beq_self : ∀ a : GV, GV.beq a a = true
  | .pure a => by simp [GV.beq]
  | .pptr a => by simp [GV.beq]
  | .nils => rfl
  | .bptr n o => by simp [GV.beq]
  | .eptr n e t i o => by simp [GV.beq]
  | .hdr n e t i o => by simp [GV.beq]
  | .lits a => by simp [GV.beq, GV.beqLL_self a]
  | .lptr a => by simp [GV.beq, GV.beqL_self a]
  | .agg a => by simp [GV.beq, GV.beqL_self a]
  | .tuple a => by simp [GV.beq, GV.beqL_self a]
  | .func f a c => by simp [GV.beq, GV.beqL_self a, GV.beqL_self c]
  | .yield n => by simp [GV.beq]
  | .map n => by simp [GV.beq]
  | .rhdr n e i l => by simp [GV.beq]
  | .rptr n e i j o => by simp [GV.beq]
@[simp] theorem GV.beqL_self : ∀ a : List GV, GV.beqL a a = true
  | [] => rfl
  | x :: r => by simp [GV.beqL, GV.beq_self x, GV.beqL_self r]
@[simp] theorem GV.beqLL_self : ∀ a : List (List GV), GV.beqLL a a = true
  | [] => rfl
  | x :: r => by simp [GV.beqLL, GV.beqL_self x, GV.beqLL_self r]
end

inductive GX where
  | normal
  | exit (id : Nat)
  | ret
  deriving DecidableEq, Inhabited

structure GLoop where
  slots : List (Nat × GV)
  nt : Nat
  params : List Tmp
  assign : Code
  body : Code
  fn : FuncId
  state : LoopState
  pending : Option GX
  deriving Inhabited

inductive Blk where
  | box (cells : List GV)
  | arr (es : Nat) (elems : List (List PV)) (vf : Nat) (ro : Bool)
  | map (entries : List (PV × GV))
  | loop (l : GLoop)
  /-- a table: rows of one's own, the first 'n' of them told by a slice of slices -/
  | mat (es : Nat) (rows : List (List (List PV))) (n : Nat)
  /-- a block of which nothing is known any more -/
  | gone
  deriving Inhabited

/-- Names that tell their block's type. -/
def tyBase : Nat := 1329227995784915872903807060280344576
def tyKey (t d : Nat) : Nat := tyBase + t * 4096 + d
def tyName (k : Nat) : Option Nat := if k < tyBase then none else some ((k - tyBase) / 4096)
/-- The type of a block of this name. -/
def tyE (nm : Nat × Nat) (e : TypeId) : TypeId := match tyName nm.2 with | some t => t | none => e

/-- One scope's blocks, by ascending keys. -/
abbrev Fr := List (Nat × Blk)

def Fr.get : Fr → Nat → Option Blk
  | [], _ => none
  | (k, b) :: r, q => if q = k then some b else Fr.get r q

def Fr.ins (q : Nat) (x : Blk) : Fr → Fr
  | [] => [(q, x)]
  | (k, b) :: r => if q = k then (q, x) :: r else if q < k then (q, x) :: (k, b) :: r else (k, b) :: Fr.ins q x r

/-- The scopes, the innermost one first. -/
abbrev Heap := List Fr

def Heap.get : Heap → Nm → Option Blk
  | [], _ => none
  | f :: H, nm => if nm.1 = H.length then f.get nm.2 else Heap.get H nm

def Heap.set : Heap → Nm → Blk → Heap
  | [], _, _ => []
  | f :: H, nm, b => if nm.1 = H.length then f.ins nm.2 b :: H else f :: Heap.set H nm b

abbrev Slots := List (Nat × GV)

def gdead : GV := .pure .dead
/-- What an operation that is not wanted leaves. -/
def gundef : GV := .pure (.tuple [])

def look : Slots → Nat → GV
  | [], _ => gdead
  | (k, v) :: r, t => if t = k then v else look r t

structure GSt where
  s : Slots
  h : Heap
  nt : Nat

def GSt.put (st : GSt) (d : Option Tmp) (v : GV) : Option GSt :=
  match d with
  | none => some st
  | some d => if d < st.nt then some { st with s := (d, v) :: st.s } else none

/-! ### values -/
def allPure : List GV → Option (List PV)
  | [] => some []
  | .pure p :: r => match allPure r with | some ps => some (p :: ps) | none => none
  | _ :: _ => none

def mkAgg (l : List GV) : GV := match allPure l with | some ps => .pure (.agg ps) | none => .agg l
def mkTuple (l : List GV) : GV := match allPure l with | some ps => .pure (.tuple ps) | none => .tuple l

/-- The cells of a value of which it is known whether it is one cell. -/
def cellsO : GV → Option (List GV)
  | .agg l => some l
  | .pure (.agg l) => some (l.map .pure)
  | .pure .dead | .pure (.tuple _) | .tuple _ => none
  | g => some [g]

/-- One cell's constant. -/
def ofConst1 : Value → GV
  | .int k n => .pure (.int k n)
  | .bool b => .pure (.bool b)
  | .string s => .pure (.str s.data.toList)
  | .slice none 0 0 => .nils
  | .pointer none => .pure .nilp
  | .nilFunc => .pure .nilf
  | .map none => .pure .nilm
  | .nilIface => .pure .nili
  | _ => gdead

def ofConst : Value → GV
  | .agg cs => if cs.toList.all Value.oneCell' then mkAgg (cs.toList.map ofConst1) else gdead
  | v => ofConst1 v

def GQ.pv : GQ → PV
  | .int k n => .int k n
  | .str s => .str s
  | .anyInt _ | .anyIface => .dead
/-- What is known of a package variable. -/
def globQ (g : Nat) : Option (List GQ) := (globT.find? fun x => x.1 == g).map (·.2)
def globs (g : Nat) : Option (List PV) := (globQ g).map fun l => l.map GQ.pv
def ev (s : Slots) : Operand → GV
  | .tmp t => look s t
  | .const v => ofConst v
  | .func f => .pure (.fn f)
  | .global g => match globs g with | some cs => .pptr cs | none => gdead

def canon1 : GV → GV
  | .nils => .pure (.slice [])
  | g => g

def canon : GV → GV
  | .nils => .pure (.slice [])
  | .agg l => mkAgg (l.map canon1)
  | .tuple l => mkTuple (l.map fun g => match g with | .agg l => mkAgg (l.map canon1) | g => canon1 g)
  | g => g

/-! ### types -/
def tsize (P : Program) (t : TypeId) : Option Nat := (P.info? t).map (·.size)
def tbytes (P : Program) (t : TypeId) : Option Nat := (P.info? t).map (·.bytes)
def tzero (P : Program) (t : TypeId) : Option GV := match P.info? t with | some i => (match i.zero with | some v => some (ofConst v) | none => none) | none => none
def tagg (P : Program) (t : TypeId) : Option Bool :=
  match P.underlying t with
  | some (.struct _) | some (.array _ _) => some true
  | some _ => some false
  | none => none
def telem (P : Program) (t : TypeId) : Option TypeId := match P.underlying t with | some (.slice e) => some e | _ => none
def tarr (P : Program) (t : TypeId) : Option (Nat × TypeId) := match P.underlying t with | some (.array n e) => some (n, e) | _ => none
/-- A struct's fields: offset and type. -/
def tfield (P : Program) (t : TypeId) (f : Nat) : Option (Nat × TypeId) :=
  match P.underlying t with
  | some (.struct fs) => match fs[f]? with | some x => some (x.offset, x.type) | none => none
  | _ => none

/-- Of all fields of a struct: offset and size. -/
def placesOf (P : Program) : List Field → Option (List (Nat × Nat))
  | [] => some []
  | f :: r => match tsize P f.type, placesOf P r with | some n, some l => some ((f.offset, n) :: l) | _, _ => none
def tplaces (P : Program) (t : TypeId) : Option (List (Nat × Nat)) :=
  match P.underlying t with
  | some (.struct fs) => placesOf P fs.toList
  | _ => none

/-! ### freezing -/
def lvl : GV → Nat
  | .bptr nm _ | .eptr nm _ _ _ _ | .hdr nm _ _ _ _ | .yield nm | .map nm => nm.1
  | _ => 0

def sliceOf (H : Heap) (nm : Nm) (es top lo len : Nat) : PV :=
  match H.get nm with
  | some (.arr es' elems vf _) => if es' = es ∧ vf ≤ top ∧ lo + len ≤ top ∧ top ≤ elems.length then .slice ((elems.drop lo).take len) else .dead
  | _ => .dead

/-- A slice of slices as it is told when the levels above go. -/
def sliceOfM (H : Heap) (nm : Nm) (es top lo len : Nat) : PV :=
  match H.get nm with
  | some (.mat _ rows n) => if es = 1 ∧ lo + len ≤ top ∧ top ≤ n then .slice (((rows.drop lo).take len).map fun r => [.slice r]) else .dead
  | _ => sliceOf H nm es top lo len

def allLe (l0 : Nat) : List GV → Bool
  | [] => true
  | .pure _ :: r | .pptr _ :: r | .nils :: r => allLe l0 r
  | .bptr nm _ :: r | .eptr nm _ _ _ _ :: r | .hdr nm _ _ _ _ :: r | .yield nm :: r | .map nm :: r => decide (nm.1 ≤ l0) && allLe l0 r
  | _ :: _ => false

/-- A scalar as it is told when the levels above l0 go. -/
def clean1 (H : Heap) (l0 : Nat) : GV → GV
  | .hdr nm es top lo len => if nm.1 ≤ l0 then .hdr nm es top lo len else .pure (sliceOfM H nm es top lo len)
  | .bptr nm off => if nm.1 ≤ l0 then .bptr nm off else gdead
  | .eptr nm es top i off => if nm.1 ≤ l0 then .eptr nm es top i off else gdead
  | .yield nm => if nm.1 ≤ l0 then .yield nm else gdead
  | .map nm => if nm.1 ≤ l0 then .map nm else gdead
  | .func f first cap => if allLe l0 first && allLe l0 cap then .func f first cap else gdead
  | .pure p => .pure p
  | .pptr cs => .pptr cs
  | .nils => .nils
  | .lits l => if l.all (allLe l0) then .lits l else gdead
  | .lptr cs => if allLe l0 cs then .lptr cs else gdead
  | .rhdr nm es i len => if nm.1 ≤ l0 then .rhdr nm es i len else gdead
  | .rptr nm es i j off => if nm.1 ≤ l0 then .rptr nm es i j off else gdead
  | .agg _ | .tuple _ => gdead

/-- What a closure holds, told as its levels go: a box of pure cells is not written any more. -/
def capP (H : Heap) (l0 : Nat) : GV → Option GV
  | .pure p => some (.pure p)
  | .pptr cs => some (.pptr cs)
  | .nils => some .nils
  | .bptr nm off => if nm.1 ≤ l0 then some (.bptr nm off) else
    match H.get nm with
    | some (.box cs) => (match allPure cs with | some ps => if off ≤ ps.length then some (.pptr (ps.drop off)) else none | none => none)
    | _ => none
  | _ => none
def capsP (H : Heap) (l0 : Nat) : List GV → Option (List GV)
  | [] => some []
  | g :: r => match capP H l0 g, capsP H l0 r with | some g, some r => some (g :: r) | _, _ => none

def clean2 (H : Heap) (l0 : Nat) : GV → GV
  | .agg l => mkAgg (l.map (clean1 H l0))
  | .func f first cap => if allLe l0 first && allLe l0 cap then .func f first cap else if allLe l0 first then (match capsP H l0 cap with | some cap => .func f first cap | none => gdead) else gdead
  | g => clean1 H l0 g

def clean (H : Heap) (l0 : Nat) : GV → GV
  | .tuple l => mkTuple (l.map (clean2 H l0))
  | g => clean2 H l0 g

/-- A cell's value for a row's element: pure; a header's block is not written any more. -/
def pureCell (H : Heap) : GV → PV × Heap
  | .pure p => (p, H)
  | .nils => (.slice [], H)
  | .hdr nm es top lo len =>
    match H.get nm with
    | some (.arr es' elems vf _) => if es' = es ∧ vf ≤ top ∧ lo + len ≤ top ∧ top ≤ elems.length then (.slice ((elems.drop lo).take len), H.set nm (.arr es' elems vf true)) else (.dead, H)
    | _ => (.dead, H)
  | _ => (.dead, H)

def pureCells (H : Heap) : List GV → List PV × Heap
  | [] => ([], H)
  | g :: r => let (p, H1) := pureCell H g; let (ps, H2) := pureCells H1 r; (p :: ps, H2)

/-- A cell's value for a box of level l0. -/
def lowerCell (H : Heap) (l0 : Nat) : GV → GV × Heap
  | .hdr nm es top lo len => if nm.1 ≤ l0 then (.hdr nm es top lo len, H) else let (p, H1) := pureCell H (.hdr nm es top lo len); (.pure p, H1)
  | g => (clean1 H l0 g, H)

def lowerCells (H : Heap) (l0 : Nat) : List GV → List GV × Heap
  | [] => ([], H)
  | g :: r => let (p, H1) := lowerCell H l0 g; let (ps, H2) := lowerCells H1 l0 r; (p :: ps, H2)

def splice {α : Type} (l : List α) (off : Nat) (xs : List α) : List α := l.take off ++ xs ++ l.drop (off + xs.length)

/-! ### memory -/
def gload (P : Program) (t : TypeId) (H : Heap) (a : GV) : Option GV :=
  match tagg P t, tsize P t with
  | some ag, some size =>
    match a with
    | .bptr nm off =>
      match H.get nm with
      | some (.box cs) => if ag then (if off + size ≤ cs.length then some (mkAgg ((cs.drop off).take size)) else none) else cs[off]?
      | _ => none
    | .eptr nm es top i off =>
      match H.get nm with
      | some (.arr es' elems vf _) =>
        if es' = es ∧ vf ≤ top ∧ i < top ∧ top ≤ elems.length then
          (match elems[i]? with
          | some e => if ag then (if off + size ≤ e.length then some (.pure (.agg ((e.drop off).take size))) else none) else (match e[off]? with | some p => some (.pure p) | none => none)
          | none => none)
        else none
      | some (.mat es' rows n) => if ag = false ∧ es = 1 ∧ off = 0 ∧ i < top ∧ top ≤ n then (match rows[i]? with | some r => some (.rhdr nm es' i r.length) | none => none) else none
      | _ => none
    | .rptr nm es i j off =>
      match H.get nm with
      | some (.mat es' rows _) =>
        if es' = es then
          (match rows[i]? with
          | some r =>
            (match r[j]? with
            | some e => if ag then (if off + size ≤ e.length then some (.pure (.agg ((e.drop off).take size))) else none) else (match e[off]? with | some p => some (.pure p) | none => none)
            | none => none)
          | none => none)
        else none
      | _ => none
    | .pptr cs => if ag then (if size ≤ cs.length then some (.pure (.agg (cs.take size))) else none) else (match cs[0]? with | some p => some (.pure p) | none => none)
    | .lptr cs => if ag then (if size ≤ cs.length then some (mkAgg (cs.take size)) else none) else cs[0]?
    | _ => none
  | _, _ => none

def gstore (P : Program) (t : TypeId) (H : Heap) (a v : GV) : Option Heap :=
  match tsize P t with
  | some size =>
    match cellsO v with
    | none => none
    | some cells =>
    if cells.length ≠ size then none else
    match a with
    | .bptr nm off =>
      let (cs', H1) := lowerCells H nm.1 cells
      match H1.get nm with
      | some (.box cs) => if off + size ≤ cs.length then some (H1.set nm (.box (splice cs off cs'))) else none
      | _ => none
    | .eptr nm es top i off =>
      let (ps, H1) := pureCells H cells
      match H1.get nm with
      | some (.arr es' elems _ ro) =>
        if es' = es ∧ ro = false ∧ top = elems.length ∧ i < top then
          (match elems[i]? with
          | some e => if off + size ≤ e.length then some (H1.set nm (.arr es' (elems.set i (splice e off ps)) elems.length false)) else none
          | none => none)
        else none
      | _ => none
    | .rptr nm es i j off =>
      let (ps, H1) := pureCells H cells
      match H1.get nm with
      | some (.mat es' rows n) =>
        if es' = es then
          (match rows[i]? with
          | some r =>
            (match r[j]? with
            | some e => if off + size ≤ e.length then some (H1.set nm (.mat es' (rows.set i (r.set j (splice e off ps))) n)) else none
            | none => none)
          | none => none)
        else none
      | _ => none
    | _ => none
  | none => none

/-- Parts laid into cells, one behind the other, as 'fill' does. -/
def gfill (place : Nat → Option (Nat × Nat)) (cells : List GV) : List (Nat × GV) → Option (List GV)
  | [] => some cells
  | (i, v) :: rest =>
    match place i with
    | none => none
    | some (off, size) =>
      match cellsO v with
      | none => none
      | some vs =>
      if vs.length ≠ size ∨ off + vs.length > cells.length then none else gfill place (splice cells off vs) rest

/-- 'n' rows of 'es' out of a list. -/
def chunks {α : Type} (es : Nat) : Nat → List α → List (List α)
  | 0, _ => []
  | n + 1, l => l.take es :: chunks es n (l.drop es)

/-! ### operations on numbers and strings -/
def gint (op : BinOp) (k : IntKind) (a b : Int) : Option PV :=
  match op with
  | .add => some (.int k (k.wrap (a + b)))
  | .sub => some (.int k (k.wrap (a - b)))
  | .mul => some (.int k (k.wrap (a * b)))
  | .quo => if b = 0 then none else some (.int k (k.wrap (a.tdiv b)))
  | .rem => if b = 0 then none else some (.int k (a.tmod b))
  | .and => some (.int k (k.wrap (BitVec.ofInt k.bits a &&& BitVec.ofInt k.bits b).toNat))
  | .or => some (.int k (k.wrap (BitVec.ofInt k.bits a ||| BitVec.ofInt k.bits b).toNat))
  | .xor => some (.int k (k.wrap (BitVec.ofInt k.bits a ^^^ BitVec.ofInt k.bits b).toNat))
  | .andNot => some (.int k (k.wrap (BitVec.ofInt k.bits a &&& ~~~(BitVec.ofInt k.bits b)).toNat))
  | .eql => some (.bool (a == b))
  | .neq => some (.bool (a != b))
  | .lss => some (.bool (a < b))
  | .leq => some (.bool (a ≤ b))
  | .gtr => some (.bool (a > b))
  | .geq => some (.bool (a ≥ b))
  | _ => none

def gshift (op : BinOp) (k : IntKind) (a b : Int) : Option PV :=
  if b < 0 then none else
  match op with
  | .shl => some (.int k (k.wrap (a * 2 ^ (min b.toNat k.bits))))
  | .shr => some (.int k (a.fdiv (2 ^ (min b.toNat k.bits))))
  | _ => none

def gstr (op : BinOp) (a b : List UInt8) : Option PV :=
  match op with
  | .add => if a.length + b.length ≤ 4611686018427387904 then some (.str (a ++ b)) else none
  | .eql => some (.bool (a == b))
  | .neq => some (.bool (!(a == b)))
  | .lss => some (.bool (Op.bytesLess a b))
  | .leq => some (.bool (Op.bytesLess a b || a == b))
  | .gtr => some (.bool (!(Op.bytesLess a b || a == b)))
  | .geq => some (.bool (!Op.bytesLess a b))
  | _ => none

inductive SK where
  | int (k : IntKind)
  | bool
  | str

/-- Two rows of numbers, bools and strings are equal. -/
def eqRow : List SK → List PV → List PV → Option Bool
  | [], [], [] => some true
  | .int k :: ks, .int k1 x :: a, .int k2 y :: b => if k1 = k ∧ k2 = k then (match eqRow ks a b with | some q => some (x == y && q) | none => none) else none
  | .bool :: ks, .bool x :: a, .bool y :: b => (match eqRow ks a b with | some q => some (x == y && q) | none => none)
  | .str :: ks, .str x :: a, .str y :: b => (match eqRow ks a b with | some q => some (x == y && q) | none => none)
  | _, _, _ => none

end Go.Gh
