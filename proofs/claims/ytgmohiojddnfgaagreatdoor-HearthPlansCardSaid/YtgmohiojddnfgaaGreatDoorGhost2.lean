/- The ghost interpreter. -/
import Derived.Test.YtgmohiojddnfgaaGreatDoorGhost1
namespace Go.Gh

/-- Where an append lays a new block: some scopes up, or where the box lies to which a slot points. -/
inductive Up where
  | scopes (n : Nat)
  | box (t : Tmp)

structure Ctx where
  P : Program
  /-- functions whose results keep blocks of their own -/
  keep : FuncId → Bool
  /-- loops, by function and first region: the slots to keep at a round's head, and at an exit -/
  ann : FuncId → Nat → Option (List Nat × List Nat)
  /-- where an append lays a new block -/
  up : FuncId → Nat → Up
  /-- literals of slices that are written, or appended to -/
  own : FuncId → Nat → Bool
  /-- functions whose arguments' slices are told as pure ones: they are not written any more -/
  frz : FuncId → Bool
  /-- functions to which slices are told as pure ones for the call's time; what they tell has no slices -/
  bor : FuncId → Bool
  /-- loops at a round's end of which the slots' blocks go on, by function and first region -/
  car : FuncId → Nat → Bool
  /-- functions that tell an empty slice when an empty one is told to them -/
  cln : FuncId → Bool
  /-- calls whose results' blocks are laid where the box lies to which a slot points -/
  lift : FuncId → Nat → Option Tmp
  /-- appends and calls that lay rows of a table: the table's key -/
  row : FuncId → Nat → Option Nat
  /-- types whose values are equal as their cells are: of which kinds these are -/
  eqs : TypeId → Option (List SK)
  /-- types of which a block's name tells that it is of them -/
  typ : TypeId → Bool := fun _ => false
  /-- literals that keep their room, though all in them is pure -/
  lit : FuncId → Nat → Bool := fun _ _ => false
  /-- functions whose calls are told by a contract (of those of which `cln` is true) -/
  ext : FuncId → Option (List GV → Heap → Option (GV × Heap)) := fun _ => none

def evp (s : Slots) (x : Nat × Operand) : Nat × GV := (x.1, ev s x.2)

section
variable (K : Ctx)

/-- May a block that is born untyped have this key? -/
def tyOk (key : Nat) : Blk → Bool
  | .box _ | .arr .. => decide (key < tyBase)
  | _ => true

/-- A new block of a level. -/
def gnewAt (H : Heap) (l key : Nat) (b : Blk) : Option (Nm × Heap) :=
  if H.length ≤ l then none else
  match H.get (l, key) with
  | some _ => none
  | none => if tyOk key b then some ((l, key), H.set (l, key) b) else none

/-- A new block whose name tells its type. -/
def gnewT (H : Heap) (l t d : Nat) (b : Blk) : Option (Nm × Heap) :=
  if H.length ≤ l then none else
  match H.get (l, tyKey t d) with
  | some _ => none
  | none => if tyName (tyKey t d) = some t then some ((l, tyKey t d), H.set (l, tyKey t d) b) else none

/-- A new block of elements of a type. -/
def gnewE (H : Heap) (l e key : Nat) (b : Blk) : Option (Nm × Heap) := if K.typ e then gnewT H l e key b else gnewAt H l key b

/-- A new block of the innermost scope. -/
def gnew (H : Heap) (key : Nat) (b : Blk) : Option (Nm × Heap) := gnewAt H (H.length - 1) key b

def upLevel (H : Heap) (s : Slots) : Up → Option Nat
  | .scopes n => if H.length ≤ n then none else some (H.length - 1 - n)
  | .box t => match look s t with | .bptr nm _ => some nm.1 | _ => none

def upBox (s : Slots) : Up → Option Nm
  | .box t => match look s t with | .bptr nm _ => some nm | _ => none
  | _ => none

def glen (t : TypeId) (H : Heap) (x : GV) : Option Int :=
  match K.P.underlying t, x with
  | some (.array n _), _ => some n
  | some (.slice _), .hdr _ _ _ _ len => some len
  | some (.slice _), .rhdr _ _ _ len => some len
  | some (.slice _), .nils => some 0
  | some (.slice _), .lits l => some l.length
  | some (.slice _), .pure (.slice l) => some l.length
  | some .string, .pure (.str l) => some l.length
  | some (.map _ _), .pure .nilm => some 0
  | some (.map _ _), .map nm => (match H.get nm with | some (.map es) => some es.length | _ => none)
  | _, _ => none

def gbin (op : BinOp) (t : TypeId) (x y : GV) : Option PV :=
  match x, y with
  | .pure (.int k a), .pure (.int k' b) =>
    match op with
    | .shl | .shr => gshift op k a b
    | _ => if k = k' then gint op k a b else none
  | .pure (.str a), .pure (.str b) => gstr op a b
  | .pure (.bool a), .pure (.bool b) =>
    (match op, K.P.underlying t with
    | .eql, some .bool => some (.bool (a == b))
    | .neq, some .bool => some (.bool (!(a == b)))
    | _, _ => none)
  | .pure (.agg a), .pure (.agg b) =>
    match K.eqs t with
    | some ks =>
      (match op, eqRow ks a b with
      | .eql, some q => some (.bool q)
      | .neq, some q => some (.bool (!q))
      | _, _ => none)
    | none => none
  | .pure .nilp, .pure .nilp => (match op, K.P.underlying t with | .eql, some (.pointer _) => some (.bool true) | .neq, some (.pointer _) => some (.bool false) | _, _ => none)
  | .bptr _ _, .pure .nilp => (match op, K.P.underlying t with | .eql, some (.pointer _) => some (.bool false) | .neq, some (.pointer _) => some (.bool true) | _, _ => none)
  | .bptr nm o, .bptr nm' o' => if nm = nm' ∧ o = o' then (match op, K.P.underlying t with | .eql, some (.pointer e) => if (tsize K.P e).isSome then some (.bool true) else none | .neq, some (.pointer e) => if (tsize K.P e).isSome then some (.bool false) else none | _, _ => none) else none
  | _, _ => none

/-- The constant nil of a slice's type. -/
def isNilC : Operand → Bool
  | .const (.slice none 0 0) => true
  | _ => false

/-- A slice that surely is not nil. -/
def nonNil : GV → Bool
  | .hdr .. => true
  | .pure (.slice (_ :: _)) => true
  | .lits (_ :: _) => true
  | _ => false

/-- A slice held against nil. -/
def gnilEq (op : BinOp) (t : TypeId) (x : GV) : Option PV :=
  match K.P.underlying t, op with
  | some (.slice _), .eql => if nonNil x then some (.bool false) else none
  | some (.slice _), .neq => if nonNil x then some (.bool true) else none
  | _, _ => none

/-- The constant nil of an interface's type. -/
def isNilI : Operand → Bool
  | .const .nilIface => true
  | _ => false

/-- An interface's value held against nil. -/
def gnilI (op : BinOp) (t : TypeId) (x : GV) : Option PV :=
  match K.P.underlying t, op, x with
  | some (.interface _), .eql, .pure .nili => some (.bool true)
  | some (.interface _), .neq, .pure .nili => some (.bool false)
  | some (.interface _), .eql, .pure (.iface _ _) => some (.bool false)
  | some (.interface _), .neq, .pure (.iface _ _) => some (.bool true)
  | _, _, _ => none

def gbinN (op : BinOp) (t : TypeId) (s : Slots) (x y : Operand) : Option PV := if isNilC y then gnilEq K op t (ev s x) else if isNilI y then gnilI K op t (ev s x) else gbin K op t (ev s x) (ev s y)

def gindex (x i : GV) (t : TypeId) : Option GV :=
  match i with
  | .pure (.int _ i) =>
    if i < 0 then none else
    match tarr K.P t with
    | some (n, e) =>
      match tagg K.P e, tsize K.P e with
      | some ag, some size =>
        if (n : Int) ≤ i then none else
        (match x with
        | .agg cs => if (i.toNat * size) + size ≤ cs.length then (if ag then some (mkAgg ((cs.drop (i.toNat * size)).take size)) else cs[i.toNat * size]?) else none
        | .pure (.agg cs) => if (i.toNat * size) + size ≤ cs.length then (if ag then some (.pure (.agg ((cs.drop (i.toNat * size)).take size))) else (match cs[i.toNat * size]? with | some p => some (.pure p) | none => none)) else none
        | _ => none)
      | _, _ => none
    | none => match x, K.P.underlying t with
      | .pure (.str l), some .string => (match l[i.toNat]? with | some b => some (.pure (.int .u8 b.toNat)) | none => none)
      | _, _ => none
  | _ => none

/-- An address some cells further on. -/
def gmoved (q : Nat) : GV → Option GV
  | .bptr nm off => some (.bptr nm (off + q))
  | .eptr nm es top j off => some (.eptr nm es top j (off + q))
  | .pptr cs => if q ≤ cs.length then some (.pptr (cs.drop q)) else none
  | .lptr cs => if q ≤ cs.length then some (.lptr (cs.drop q)) else none
  | .rptr nm es i j off => some (.rptr nm es i j (off + q))
  | _ => none

def gindexAddr (t : TypeId) (x i : GV) : Option GV :=
  match i with
  | .pure (.int _ i) =>
    if i < 0 then none else
    match tarr K.P t with
    | some (n, e) =>
      match tsize K.P e with
      | some size =>
        if (n : Int) ≤ i then none else
        gmoved (i.toNat * size) x
      | none => none
    | none => match telem K.P t with
      | some e => match tsize K.P e with
        | some size =>
          (match x with
          | .hdr nm es top lo len => if es = size ∧ i < len then some (.eptr nm es top (lo + i.toNat) 0) else none
          | .pure (.slice l) => (match l[i.toNat]? with | some cs => if cs.length = size then some (.pptr cs) else none | none => none)
          | .lits l => (match l[i.toNat]? with | some cs => if cs.length = size then some (.lptr cs) else none | none => none)
          | .rhdr nm es q len => if es = size ∧ i < len then some (.rptr nm es q i.toNat 0) else none
          | _ => none)
        | none => none
      | none => none
  | _ => none

/-- A slice expression's bound. -/
def gbound (x : Option GV) (dflt : Nat) : Option Nat :=
  match x with
  | none => some dflt
  | some (.pure (.int _ i)) => if i < 0 then none else some i.toNat
  | _ => none

def gslice (t : TypeId) (x : GV) (lo hi mx : Option GV) : Option GV :=
  if mx.isSome then
    (match gbound lo 0, hi, mx, telem K.P t with
    | some a, some (.pure (.int _ b)), some (.pure (.int _ m)), some e =>
      (match tsize K.P e, x with
      | some _, .nils => if a = 0 ∧ b = 0 ∧ m = 0 then some .nils else none
      | some _, .pure (.slice _) => if a = 0 ∧ b = 0 ∧ m = 0 then some .nils else none
      | some es', .hdr nm es top l0 len =>
        if a = 0 ∧ b = 0 ∧ m = 0 then some .nils
        else if (a : Int) < b ∧ b ≤ m ∧ m = len ∧ l0 + len = top ∧ es' = es then some (.hdr nm es top (l0 + a) (b.toNat - a)) else none
      | _, _ => none)
    | _, _, _, _ => none)
  else
  match x with
  | .pptr cs =>
    (match lo, hi, tarr K.P t with
    | none, none, some (n, e) =>
      (match tsize K.P e with
      | some size => if 0 < size ∧ 0 < n ∧ n * size ≤ cs.length then some (.pure (.slice (chunks size n cs))) else none
      | none => none)
    | _, _, _ => none)
  | .pure (.str l) =>
    (match gbound lo 0, gbound hi l.length, K.P.underlying t with
    | some a, some b, some .string => if a ≤ b ∧ b ≤ l.length then some (.pure (.str ((l.take b).drop a))) else none
    | _, _, _ => none)
  | .hdr nm es top l0 len =>
    (match gbound lo 0, gbound hi len, telem K.P t with
    | some a, some b, some e => if a ≤ b ∧ (b ≤ len ∨ l0 + b ≤ top) ∧ tsize K.P e = some es then (if a = b ∧ 0 < a then some (.pure (.slice [])) else some (.hdr nm es top (l0 + a) (b - a))) else none
    | _, _, _ => none)
  | .pure (.slice l) =>
    (match gbound lo 0, gbound hi l.length, telem K.P t with
    | some a, some b, some e =>
      if a ≤ b ∧ b ≤ l.length then
        (match tsize K.P e with
        | some es => if l.all (fun r => r.length == es) then some (.pure (.slice ((l.take b).drop a))) else none
        | none => none)
      else none
    | _, _, _ => none)
  | .nils => (match gbound lo 0, gbound hi 0, telem K.P t with | some 0, some 0, some e => if (tsize K.P e).isSome then some (.pure (.slice [])) else none | _, _, _ => none)
  | _ => none

/-- The cells of the elements of a slice that is read; headers among them are not written any more. -/
def pureRows (H : Heap) : List (List GV) → List (List PV) × Heap
  | [] => ([], H)
  | g :: r => let (p, H1) := pureCells H g; let (ps, H2) := pureRows H1 r; (p :: ps, H2)

/-- The bytes of rows of one byte each. -/
def bytesOf : List (List PV) → Option (List UInt8)
  | [] => some []
  | [.int .u8 n] :: r => if 0 ≤ n ∧ n < 256 then (match bytesOf r with | some l => some (UInt8.ofNat n.toNat :: l) | none => none) else none
  | _ :: _ => none
def gelems (H : Heap) : GV → Option (List (List PV) × Heap)
  | .nils => some ([], H)
  | .pure (.slice l) => some (l, H)
  | .pure (.str l) => some (l.map fun b => [.int .u8 b.toNat], H)
  | .lits l => some (pureRows H l)
  | .hdr nm es top lo len => match sliceOf H nm es top lo len with | .slice l => some (l, H) | _ => none
  | _ => none

def zsize (P : Program) (t : TypeId) : Option Nat := match tzero P t with | some z => (match cellsO z with | some zs => some zs.length | none => none) | none => none

/-- The appended argument's type is a slice's or a string's. -/
def spreads (P : Program) (t : Option TypeId) : Bool :=
  match t with
  | some t => (match P.underlying t with | some (.slice _) | some .string => true | _ => false)
  | none => false

/-- Does the block of this name hold elements of this type? -/
def nmOk (e : TypeId) (nm : Nm) : Bool := if K.typ e then decide (tyName nm.2 = some e) else decide (nm.2 < tyBase)

/-- The rows of a literal of which all cells are pure. -/
def pureRowsO : List (List GV) → Option (List (List PV))
  | [] => some []
  | r :: rs => match allPure r, pureRowsO rs with | some p, some ps => some (p :: ps) | _, _ => none


def gappend (H : Heap) (l key : Nat) (t : TypeId) (s x : GV) : Option (GV × Heap) :=
  match telem K.P t with
  | some e =>
    match tsize K.P e, tbytes K.P e, gelems H x with
    | some size, some bytes, some (xs, H) =>
      if decide (zsize K.P e = some size) && xs.all (fun r => r.length == size) && decide (0 < size) && decide (0 < bytes) && decide (bytes ≤ 1048576) then
        match s with
        | .nils =>
          if xs.length * bytes ≤ 1099511627776 then
            (if xs.isEmpty then some (.nils, H) else
            match gnewE K H l e key (.arr size xs 0 false) with
            | some (nm, H) => some (.hdr nm size xs.length 0 xs.length, H)
            | none => none)
          else none
        | .lits old =>
          (match pureRowsO old with
          | some ps =>
            if ps.isEmpty = false ∧ xs.isEmpty = false ∧ (ps.all fun r => r.length == size) = true ∧ (ps.length + xs.length) * bytes ≤ 1099511627776 then
              (match gnewE K H l e key (.arr size (ps ++ xs) 0 false) with
              | some (nm, H) => some (.hdr nm size (ps.length + xs.length) 0 (ps.length + xs.length), H)
              | none => none)
            else none
          | none => none)
        | .hdr nm es top lo len =>
          (match H.get nm with
          | some (.arr es' elems vf ro) =>
            if es' = size ∧ es = size ∧ top = elems.length ∧ lo = 0 ∧ len = top ∧ vf ≤ top ∧ ro = false ∧ (len + xs.length) * bytes ≤ 1099511627776 ∧ nmOk K e nm = true then
              (if xs.isEmpty then some (.hdr nm es top lo len, H)
               else some (.hdr nm es (top + xs.length) 0 (top + xs.length), H.set nm (.arr es' (elems ++ xs) vf false)))
            else if es' = size ∧ es = size ∧ top = elems.length ∧ vf ≤ top ∧ ro = false ∧ lo + len + xs.length ≤ top then
              (if xs.isEmpty then some (.hdr nm es top lo len, H) else some (.hdr nm es top lo (len + xs.length), H.set nm (.arr es' (splice elems (lo + len) xs) top false)))
            else none
          | _ => none)
        | _ => none
      else none
    | _, _, _ => none
  | none => none

/-- A header of this block is among the cells. -/
def leads (nm : Nm) : List GV → Bool
  | [] => false
  | .hdr m _ _ _ _ :: r => decide (m = nm) || leads nm r
  | _ :: r => leads nm r

/-- A row of a table is laid: its number. 'bn': the box that has the table. -/
def addRow (H : Heap) (bn : Nm) (key es : Nat) (r : List (List PV)) : Option (Nat × Heap) :=
  if H.length ≤ bn.1 then none else
  match H.get (bn.1, key) with
  | none => some (0, H.set (bn.1, key) (.mat es [r] 0))
  | some (.mat es' rows n) =>
    (match H.get bn with
    | some (.box cs) => if es' = es ∧ leads (bn.1, key) cs = true then some (rows.length, H.set (bn.1, key) (.mat es (rows ++ [r]) n)) else none
    | _ => none)
  | _ => none

/-- A row of a table is told to the slice of slices. -/
def tellRow (H : Heap) (bytes : Nat) (s : GV) (nm : Nm) (es i len : Nat) : Option (GV × Heap) :=
  match H.get nm with
  | some (.mat es' rows n) =>
    if es' = es ∧ i = n ∧ n < rows.length ∧ (rows.getD n []).length = len ∧ (n + 1) * bytes ≤ 1099511627776 then
      match s with
      | .nils => if n = 0 then some (.hdr nm 1 1 0 1, H.set nm (.mat es rows 1)) else none
      | .hdr nm' es1 top lo ln => if nm' = nm ∧ es1 = 1 ∧ top = n ∧ lo = 0 ∧ ln = n then some (.hdr nm 1 (n + 1) 0 (n + 1), H.set nm (.mat es rows (n + 1))) else none
      | _ => none
    else none
  | _ => none

def layRow (H : Heap) (bn : Nm) (key size bytes : Nat) (s x : GV) : Option (GV × Heap) :=
  match s, gelems H x with
  | .nils, some (xs, H) =>
    if xs.all (fun r => r.length == size) && !xs.isEmpty && decide (xs.length * bytes ≤ 1099511627776) then
      (match addRow H bn key size xs with | some (i, H) => some (.rhdr (bn.1, key) size i xs.length, H) | none => none)
    else none
  | _, _ => none

/-- The row's header in a literal of one. -/
def rowLit : GV → Option (Nm × Nat × Nat × Nat)
  | .lits [[.rhdr nm es i len]] => some (nm, es, i, len)
  | _ => none

def gappendR (H : Heap) (bn : Nm) (key : Nat) (t : TypeId) (s x : GV) : Option (GV × Heap) :=
  match telem K.P t with
  | some e =>
    match tsize K.P e, tbytes K.P e with
    | some size, some bytes =>
      if decide (zsize K.P e = some size) && decide (0 < size) && decide (0 < bytes) && decide (bytes ≤ 1048576) then
        match rowLit x with
        | some (nm, es, i, len) => if size = 1 then tellRow H bytes s nm es i len else none
        | none => layRow H bn key size bytes s x
      else none
    | _, _ => none
  | none => none

/-- One value that goes to a map of level l0. -/
def lowerVal (H : Heap) (l0 : Nat) : GV → Option (GV × Heap)
  | .agg l => let (l', H1) := lowerCells H l0 l; some (mkAgg l', H1)
  | .tuple _ | .lits _ => none
  | g => let (g', H1) := lowerCell H l0 g; some (g', H1)

/-- Two rows of scalars of one shape. -/
def rowEq : List PV → List PV → Option Bool
  | [], [] => some true
  | .int k x :: a, .int k' y :: b => if k = k' then (match rowEq a b with | some q => some (x == y && q) | none => none) else none
  | .bool x :: a, .bool y :: b => (match rowEq a b with | some q => some (x == y && q) | none => none)
  | .str x :: a, .str y :: b => (match rowEq a b with | some q => some (x == y && q) | none => none)
  | _, _ => none

def keyEq : PV → PV → Option Bool
  | .int k a, .int k' b => if k = k' then some (a == b) else none
  | .str a, .str b => some (a == b)
  | .bool a, .bool b => some (a == b)
  | .agg a, .agg b => rowEq a b
  | _, _ => none

def findEntry (k : PV) : List (PV × GV) → Nat → Option (Option (Nat × GV))
  | [], _ => some none
  | (k', v) :: r, i => match keyEq k k' with | some true => some (some (i, v)) | some false => findEntry k r (i + 1) | none => none

def tmap (P : Program) (t : TypeId) : Option (TypeId × TypeId) := match P.underlying t with | some (.map k e) => some (k, e) | _ => none

/-- Is the value one of the map's key type? -/
def keyFits (P : Program) (t : TypeId) (k : PV) : Bool :=
  match P.underlying t, k with
  | some (.int k), .int k' _ => decide (k' = k)
  | some .string, .str _ => true
  | some .bool, .bool _ => true
  | _, _ => false

/-- A row of these kinds. -/
def fitsRow : List SK → List PV → Bool
  | [], [] => true
  | .int k :: ks, .int k' _ :: a => decide (k' = k) && fitsRow ks a
  | .bool :: ks, .bool _ :: a => fitsRow ks a
  | .str :: ks, .str _ :: a => fitsRow ks a
  | _, _ => false

def keyFitsK (t : TypeId) (k : PV) : Bool :=
  keyFits K.P t k || (match K.eqs t, k, K.P.underlying t with | some ks, .agg l, some _ => fitsRow ks l | _, _, _ => false)

def mapOf (H : Heap) : GV → Option (List (PV × GV))
  | .pure .nilm => some []
  | .map nm => (match H.get nm with | some (.map es) => some es | _ => none)
  | _ => none

def glookup (t : TypeId) (H : Heap) (x k : GV) (ok : Bool) : Option GV :=
  match tmap K.P t, k, mapOf H x with
  | some (kt, e), .pure k, some es =>
    if keyFitsK K kt k = false then none else
    match findEntry k es 0 with
    | some (some (_, v)) => some (if ok then mkTuple [v, .pure (.bool true)] else v)
    | some none => (match tzero K.P e with | some z => some (if ok then mkTuple [z, .pure (.bool false)] else z) | none => none)
    | none => none
  | _, _, _ => none

def gmapUpdate (t : TypeId) (H : Heap) (m k v : GV) : Option Heap :=
  match tmap K.P t, m, k with
  | some (kt, _), .map nm, .pure k =>
    match lowerVal H nm.1 v with
    | some (v', H1) =>
      match H1.get nm with
      | some (.map es) =>
        if keyFitsK K kt k = false then none else
        match findEntry k es 0 with
        | some (some (i, _)) => some (H1.set nm (.map (es.set i (k, v'))))
        | some none => some (H1.set nm (.map (es ++ [(k, v')])))
        | none => none
      | _ => none
    | none => none
  | _, _, _ => none

/-- The elements of a slice of one's own get zero. -/
def gclear (t : TypeId) (H : Heap) (x : GV) : Option Heap :=
  match telem K.P t with
  | some e =>
    match tsize K.P e, tzero K.P e, x with
    | some size, some z, .hdr nm es top lo len =>
      (match cellsO z, H.get nm with
      | some zs, some (.arr es' elems vf ro) =>
        (match allPure (zs.map canon1) with
        | some ps => if es' = size ∧ es = size ∧ ps.length = size ∧ top = elems.length ∧ vf ≤ top ∧ ro = false ∧ lo + len ≤ top ∧ 0 < len then some (H.set nm (.arr es' (splice elems lo (List.replicate len ps)) top false)) else none
        | none => none)
      | _, _ => none)
    | _, _, _ => none
  | none => none

def gminmax (mx : Bool) : List GV → Option GV
  | [] => none
  | [.pure (.int k a)] => some (.pure (.int k a))
  | .pure (.int k a) :: .pure (.int k' b) :: r => if k = k' then gminmax mx (.pure (.int k (if mx then (if a < b then b else a) else (if b < a then b else a))) :: r) else none
  | _ => none
termination_by l => l.length

def mkFunc (f : FuncId) (first cap : List GV) : GV := if first.isEmpty && cap.isEmpty then .pure (.fn f) else .func f first cap

/-- Bytes of one's own told as a string: nothing is known of their block any more. -/
def gunsafeStr (pt : TypeId) (H : Heap) (x y : GV) : Option (GV × Heap) :=
  match x, y, K.P.underlying pt with
  | .eptr nm 1 top 0 0, .pure (.int .i64 n), some (.pointer e) =>
    (match H.get nm with
    | some (.arr 1 rows vf false) =>
      if 0 < n ∧ n.toNat ≤ top ∧ n ≤ 9223372036854775807 ∧ top = rows.length ∧ vf ≤ top ∧ tyName nm.2 = some e ∧ tsize K.P e = some 1 then
        (match bytesOf (rows.take n.toNat) with | some l => some (.pure (.str l), H.set nm .gone) | none => none)
      else none
    | _ => none)
  | _, _, _ => none

/-- Every operation but a call of a Go function: its value, the heap. -/
def gop (fn : FuncId) (o : Oper) (s : Slots) (H : Heap) : Option (GV × Heap) :=
  match o.op with
  | .move x | .assign x => some (ev s x, H)
  | .pick c a b => match ev s c with | .pure (.bool t) => some (if t then ev s a else ev s b, H) | _ => none
  | .alloc t =>
    match o.dst, tzero K.P t with
    | some d, some z => (match cellsO z with | some cs => (match gnewE K H (H.length - 1) t d (.box cs) with | some (nm, H) => some (.bptr nm 0, H) | none => none) | none => none)
    | _, _ => none
  | .box _ x =>
    match o.dst, cellsO (ev s x) with
    | some d, some cs => (match gnew H d (.box cs) with | some (nm, H) => some (.bptr nm 0, H) | none => none)
    | _, _ => none
  | .build t parts =>
    match tzero K.P t with
    | some z =>
      match cellsO z with
      | some zs =>
        let ps := parts.toList.map (evp s)
        let r := match tarr K.P t with
          | some (_, e) => (match tsize K.P e with | some size => gfill (fun i => some (i * size, size)) zs ps | none => none)
          | none => (match tplaces K.P t with | some l => gfill (fun i => l[i]?) zs ps | none => none)
        (match r with | some cs => some (mkAgg cs, H) | none => none)
      | none => none
    | none => none
  | .buildSlice t len parts =>
    match telem K.P t with
    | some e =>
      match tsize K.P e, tzero K.P e with
      | some size, some z =>
        match cellsO z with
        | some zs =>
          if zs.length = size ∧ 0 < size ∧ len * size ≤ 16777216 then
            match gfill (fun i => some (i * size, size)) (List.replicate len zs).flatten (parts.toList.map (evp s)) with
            | some cs =>
              if len = 0 then some (.nils, H) else
              let rows := chunks size len cs
              (match allPure (cs.map canon1) with
              | some ps =>
                (match o.dst with
                | some d => if K.own fn d then (match gnew H d (.arr size (chunks size len ps) 0 false) with | some (nm, H) => some (.hdr nm size len 0 len, H) | none => none) else if K.lit fn d then some (.lits rows, H) else some (.pure (.slice (chunks size len ps)), H)
                | none => none)
              | none =>
                (match o.dst with
                | some d => if K.own fn d then (match gnew (pureCells H cs).2 d (.arr size (chunks size len (pureCells H cs).1) 0 false) with | some (nm, H) => some (.hdr nm size len 0 len, H) | none => none) else some (.lits rows, H)
                | none => some (.lits rows, H)))
            | none => none
          else none
        | none => none
      | _, _ => none
    | none => none
  | .load t a => match gload K.P t H (ev s a) with | some v => some (v, H) | none => none
  | .store t a x => match gstore K.P t H (ev s a) (ev s x) with | some H => some (gdead, H) | none => none
  | .nilCheck x =>
    match ev s x with
    | .bptr nm off => some (.bptr nm off, H)
    | .eptr nm es top i off => some (.eptr nm es top i off, H)
    | .pptr cs => some (.pptr cs, H)
    | .lptr cs => some (.lptr cs, H)
    | .func f first cap => some (.func f first cap, H)
    | .pure (.fn f) => some (.pure (.fn f), H)
    | .yield nm => some (.yield nm, H)
    | _ => none
  | .binOp op t x y _ => match gbinN K op t s x y with | some p => some (.pure p, H) | none => none
  | .unOp op _ x =>
    match op, ev s x with
    | .not, .pure (.bool b) => some (.pure (.bool (!b)), H)
    | .neg, .pure (.int k n) => some (.pure (.int k (k.wrap (-n))), H)
    | _, _ => none
  | .convert src dst x =>
    match K.P.underlying src, K.P.underlying dst, ev s x with
    | some _, some (.int k), .pure (.int _ n) => some (.pure (.int k (k.wrap n)), H)
    | some _, some .string, .pure (.str l) => some (.pure (.str l), H)
    | some (.slice e), some .string, .pure (.slice rows) => (match K.P.underlying e, bytesOf rows with | some (.int .u8), some l => if rows.isEmpty then none else some (.pure (.str l), H) | _, _ => none)
    | _, _, _ => none
  | .makeFunc (.func f) first cap => some (mkFunc f (first.toList.map (ev s)) (cap.toList.map (ev s)), H)
  | .makeMap _ none => match o.dst with | some d => (match gnew H d (.map []) with | some (nm, H) => some (.map nm, H) | none => none) | none => none
  | .makeSlice t l c =>
    match telem K.P t with
    | some e =>
      match tsize K.P e, tbytes K.P e, tzero K.P e, ev s l, ev s c, o.dst with
      | some size, some bytes, some z, .pure (.int _ l), .pure (.int _ c), some d =>
        match cellsO z with
        | some zs =>
          (match allPure (zs.map canon1) with
          | some ps =>
            if ps.length = size ∧ 0 < size ∧ 0 < bytes ∧ 0 ≤ l ∧ l ≤ c ∧ c * bytes ≤ 1099511627776 then
              (match gnew H d (.arr size (List.replicate l.toNat ps) 0 false) with | some (nm, H) => some (.hdr nm size l.toNat 0 l.toNat, H) | none => none)
            else none
          | none => none)
        | none => none
      | _, _, _, _, _, _ => none
    | none => none
  | .slice t x lo hi mx => match gslice K t (ev s x) (lo.map (ev s)) (hi.map (ev s)) (mx.map (ev s)) with | some v => some (v, H) | none => none
  | .fieldAddr st x f =>
    match tfield K.P st f with
    | some (off, ft) =>
      match tsize K.P ft with
      | some size =>
        if size = 0 then none else
        (match gmoved off (ev s x) with | some v => some (v, H) | none => none)
      | none => none
    | none => none
  | .field t x f =>
    match tfield K.P t f with
    | some (off, ft) =>
      match tagg K.P ft, tsize K.P ft, ev s x with
      | some ag, some size, .agg cs => if off + size ≤ cs.length then (if ag then some (mkAgg ((cs.drop off).take size), H) else (match cs[off]? with | some v => some (v, H) | none => none)) else none
      | some ag, some size, .pure (.agg cs) => if off + size ≤ cs.length then (if ag then some (.pure (.agg ((cs.drop off).take size)), H) else (match cs[off]? with | some v => some (.pure v, H) | none => none)) else none
      | _, _, _ => none
    | none => none
  | .indexAddr t x i => match gindexAddr K t (ev s x) (ev s i) with | some v => some (v, H) | none => none
  | .index t x i => match gindex K (ev s x) (ev s i) t with | some v => some (v, H) | none => none
  | .lookup t x k ok => match glookup K t H (ev s x) (ev s k) ok with | some v => some (v, H) | none => none
  | .mapUpdate t m k v => match gmapUpdate K t H (ev s m) (ev s k) (ev s v) with | some H => some (gdead, H) | none => none
  | .insert t m k v => match gmapUpdate K t H (ev s m) (ev s k) (ev s v) with | some H => some (gdead, H) | none => none
  | .extract t ix =>
    match ev s t with
    | .tuple l => (match l[ix]? with | some v => some (v, H) | none => none)
    | .pure (.tuple l) => (match l[ix]? with | some v => some (.pure v, H) | none => none)
    | _ => none
  | .call c =>
    match c.callee with
    | .builtin .len => (match c.argTypes[0]?, c.args[0]? with | some t, some x => (match glen K t H (ev s x) with | some n => some (.pure (.int .i64 n), H) | none => none) | _, _ => none)
    | .builtin .append => (match c.argTypes[0]?, c.args[0]?, c.args[1]?, o.dst with | some t, some x, some y, some d => if spreads K.P c.argTypes[1]? then (match K.row fn d with | none => (match upLevel H s (K.up fn d) with | some l => gappend K H l d t (ev s x) (ev s y) | none => none) | some key => (match upBox s (K.up fn d) with | some bn => gappendR K H bn key t (ev s x) (ev s y) | none => none)) else none | _, _, _, _ => none)
    | .builtin .clear => (match c.argTypes[0]?, c.args[0]? with | some t, some x => (match gclear K t H (ev s x) with | some H => some (.pure (.tuple []), H) | none => none) | _, _ => none)
    | .builtin .unsafeSliceData => (match c.args.toList with
      | [x] => (match ev s x with | .hdr nm es top 0 _ => if 0 < top then some (.eptr nm es top 0 0, H) else none | _ => none)
      | _ => none)
    | .builtin .unsafeString => (match c.args.toList, c.argTypes.toList with
      | [x, y], [pt, _] => gunsafeStr K pt H (ev s x) (ev s y)
      | _, _ => none)
    | .builtin .min => (match gminmax false (c.args.toList.map (ev s)) with | some v => some (v, H) | none => none)
    | .builtin .max => (match gminmax true (c.args.toList.map (ev s)) with | some v => some (v, H) | none => none)
    | _ => none
  | _ => none

/-- Does the operation run Go code? -/
def goCalls (o : Oper) : Option (Operand × List Operand) :=
  match o.op with
  | .call { callee := .value f, args, .. } => some (f, args.toList)
  | _ => none

abbrev Rec := FuncId → Code → GSt → Option (GX × GSt)

def slotsOf : Nat → List GV → Slots
  | _, [] => []
  | i, v :: r => (i, v) :: slotsOf (i + 1) r

def gresults (fn : Func) (st : GSt) : Option (List GV) :=
  fn.results.toList.mapM fun
    | .tmp t => some (look st.s t)
    | .cell a t => gload K.P t st.h (look st.s a)

/-- The names of one level that a value leads to. -/
def refs1 (L : Nat) : GV → List Nat
  | .bptr nm _ | .hdr nm _ _ _ _ | .eptr nm _ _ _ _ | .map nm => if nm.1 = L then [nm.2] else []
  | _ => []
def refs2 (L : Nat) : GV → List Nat
  | .agg l => l.flatMap (refs1 L)
  | .func _ first cap => first.flatMap (refs1 L) ++ cap.flatMap (refs1 L)
  | g => refs1 L g
def refs (L : Nat) : GV → List Nat
  | .tuple l => l.flatMap (refs2 L)
  | g => refs2 L g

/-- Tables to which a box leads. -/
def matRefs (fr : Fr) (L : Nat) : GV → List Nat
  | .hdr nm _ _ _ _ => if nm.1 = L then (match fr.get nm.2 with | some (.mat ..) => [nm.2] | _ => []) else []
  | _ => []
def boxRefs (fr : Fr) (L k : Nat) : List Nat := match fr.get k with | some (.box cs) => cs.flatMap (matRefs fr L) | _ => []
def deepRefs (fr : Fr) (L : Nat) (ks : List Nat) : List Nat := ks ++ ks.flatMap (boxRefs fr L)

/-- The key that a block of a call's gets in the caller's scope. -/
def newKey (c k : Nat) : Nat := k * 4096 + (c + 1)

def ren1 (L c : Nat) : GV → GV
  | .bptr nm off => if nm.1 = L then .bptr (L - 1, newKey c nm.2) off else .bptr nm off
  | .hdr nm es top lo len => if nm.1 = L then .hdr (L - 1, newKey c nm.2) es top lo len else .hdr nm es top lo len
  | .eptr nm es top i off => if nm.1 = L then .eptr (L - 1, newKey c nm.2) es top i off else .eptr nm es top i off
  | .map nm => if nm.1 = L then .map (L - 1, newKey c nm.2) else .map nm
  | .yield nm => if nm.1 = L then gdead else .yield nm
  | .pure p => .pure p
  | .pptr cs => .pptr cs
  | .nils => .nils
  | _ => gdead
def ren2 (L c : Nat) : GV → GV
  | .agg l => mkAgg (l.map (ren1 L c))
  | .func f first cap => .func f (first.map (ren1 L c)) (cap.map (ren1 L c))
  | g => ren1 L c g
def ren (L c : Nat) : GV → GV
  | .tuple l => mkTuple (l.map (ren2 L c))
  | g => ren2 L c g

def isMat (fr : Fr) (k : Nat) : Bool := match fr.get k with | some (.mat ..) => true | _ => false
/-- A cell of a block that is handed over: a header whose block is not handed over is told as a pure slice. -/
def clM (c : Nat) (fr : Fr) (H : Heap) (ks : List Nat) (l0 : Nat) : GV → GV
  | .hdr nm es top lo len =>
    if nm.1 = H.length ∧ nm.2 ∉ ks then .pure (sliceOfM (fr :: H) nm es top lo len)
    else if nm.1 = H.length ∧ isMat fr nm.2 = true then .hdr (H.length - 1, newKey c nm.2) es top lo len
    else clean1 [] l0 (.hdr nm es top lo len)
  | g => clean1 [] l0 g

def cleanBlk (cl : GV → GV) (H : Heap) (l0 : Nat) : Blk → Option Blk
  | .box cs => some (.box (cs.map cl))
  | .arr es elems vf ro => some (.arr es elems vf ro)
  | .map es => some (.map (es.map fun e => (e.1, clean2 H l0 e.2)))
  | .mat es rows n => some (.mat es rows n)
  | _ => none

/-- Blocks of the scope that ends are handed over to the caller's. -/
def moveOut (cl : GV → GV) (f : Fr) (H : Heap) (c : Nat) : List Nat → Heap → Option Heap
  | [], H' => some H'
  | k :: r, H' =>
    match f.get k with
    | some b =>
      match cleanBlk cl [] (H.length - 1) b, Heap.get H' (H.length - 1, newKey c k) with
      | some b', none => if tyOk (newKey c k) b' then moveOut cl f H c r (Heap.set H' (H.length - 1, newKey c k) b') else none
      | _, _ => none
    | none => none

def dedup : List Nat → List Nat
  | [] => []
  | k :: r => if r.contains k then dedup r else k :: dedup r

/-- A call's end: its scope goes. 'c': where its result goes. -/
def gleave (f : FuncId) (c : Nat) (r : GV) : Heap → Option (GV × Heap)
  | [] => none
  | fr :: H =>
    if K.keep f then
      match moveOut (clM c fr H (dedup (deepRefs fr H.length (refs H.length r))) (H.length - 1)) fr H c (dedup (deepRefs fr H.length (refs H.length r))) H with
      | some H' => some (ren H.length c r, H')
      | none => none
    else some (canon (clean (fr :: H) (H.length - 1) r), H)

def gcall0 (rec : Rec) (f : FuncId) (args : List GV) (c : Nat) (H : Heap) : Option (GV × Heap) :=
  match K.P.funcs[f]? with
  | none => none
  | some fn =>
    match fn.body with
    | none => none
    | some code =>
      if fn.name == "runtime.NumGoroutine" || decide (fn.ntmps < args.length) || decide (H.length = 0) then none else
      match rec f code ⟨slotsOf 0 (args.map canon), [] :: H, fn.ntmps⟩ with
      | some (.exit _, _) => none
      | some (_, st) =>
        (match gresults K fn st with
        | some rs => (match rs with
          | [r] => gleave K f c r st.h
          | rs => gleave K f c (mkTuple rs) st.h)
        | none => none)
      | none => none

/-- Slices told as pure ones. -/
def frzCell (H : Heap) : GV → GV × Heap
  | .hdr nm es top lo len => let (p, H1) := pureCell H (.hdr nm es top lo len); (.pure p, H1)
  | g => (g, H)

def frzCells (H : Heap) : List GV → List GV × Heap
  | [] => ([], H)
  | g :: r => let (p, H1) := frzCell H g; let (ps, H2) := frzCells H1 r; (p :: ps, H2)

def frzVal (H : Heap) : GV → GV × Heap
  | .agg l => let (l', H1) := frzCells H l; (mkAgg l', H1)
  | g => frzCell H g

def frzVals (H : Heap) : List GV → List GV × Heap
  | [] => ([], H)
  | g :: r => let (p, H1) := frzVal H g; let (ps, H2) := frzVals H1 r; (p :: ps, H2)

mutual
/-- A value without slices. -/
def flatP : PV → Bool
  | .slice l => l.isEmpty
  | .agg l => flatPL l
  | .tuple l => flatPL l
  | .iface _ v => flatP v
  | _ => true
def flatPL : List PV → Bool
  | [] => true
  | p :: r => flatP p && flatPL r
end
def flatG : GV → Bool
  | .pure p => flatP p
  | .nils => true
  | _ => false
def flatGL : List GV → Bool
  | [] => true
  | g :: r => flatG g && flatGL r

/-- The box that is handed over, if there is one. -/
def borBox : List GV → Option (Option Nm)
  | [] => some none
  | g :: r =>
    match borBox r with
    | none => none
    | some q =>
      match g with
      | .pure _ | .nils => some q
      | .func _ a c => if (allPure a).isSome && (allPure c).isSome then some q else none
      | .bptr nm _ => (match q with | none => some (some nm) | some nm' => if nm = nm' then some q else none)
      | _ => none

def emptyH (H : Heap) : Heap := H.map fun _ => []

def flatRows : List (List PV) → Bool
  | [] => true
  | r :: l => flatPL r && flatRows l

/-- What a call with lent slices may tell: values without slices, new blocks of the innermost scope. -/
def lent1 (L : Nat) : GV → Bool
  | .pure p => flatP p
  | .nils => true
  | .hdr nm _ _ _ _ => decide (nm.1 = L)
  | _ => false
def lentL (L : Nat) : List GV → Bool
  | [] => true
  | g :: r => lent1 L g && lentL L r
def lent2 (L : Nat) : GV → Bool
  | .agg l => lentL L l
  | g => lent1 L g
def lentLL (L : Nat) : List GV → Bool
  | [] => true
  | g :: r => lent2 L g && lentLL L r
def lentV (L : Nat) : GV → Bool
  | .tuple l => lentLL L l
  | g => lent2 L g
/-- The new blocks. -/
def lentIns (H0 : Heap) (L : Nat) : List Nat → Heap → Option Heap
  | [], H => some H
  | k :: r, H =>
    match H0.get (L, k), H.get (L, k) with
    | some (.arr es rows vf false), none => if flatRows rows then lentIns H0 L r (H.set (L, k) (.arr es rows vf false)) else none
    | _, _ => none
def lentEnd (H0 : Heap) (v : GV) (H : Heap) : Option (GV × Heap) :=
  if lentV (H.length - 1) v then
    match lentIns H0 (H.length - 1) (dedup (refs (H.length - 1) v)) H with
    | some H' => some (v, H')
    | none => none
  else none

/-- A call with slices that are lent. -/
def gborrow (rec : Rec) (f : FuncId) (args : List GV) (c : Nat) (H : Heap) : Option (GV × Heap) :=
  match borBox args with
  | none => none
  | some none =>
    (match gcall0 K rec f args c (emptyH H) with
    | some (v, H0) => lentEnd H0 v H
    | none => none)
  | some (some nm) =>
    match H.get nm with
    | some (.box cs) =>
      if flatGL cs = false then none else
      (match gcall0 K rec f args c ((emptyH H).set nm (.box cs)) with
      | some (v, H0) =>
        (match H0.get nm with
        | some (.box cs') => if flatGL cs' then lentEnd H0 v (H.set nm (.box cs')) else none
        | _ => none)
      | none => none)
    | _ => none

def emptyArg : List GV → Bool
  | [.nils] => true
  | [.pure (.slice [])] => true
  | _ => false

def gcallN (rec : Rec) (f : FuncId) (args : List GV) (c : Nat) (H : Heap) : Option (GV × Heap) :=
  if K.cln f && emptyArg args then some (.nils, H)
  else if K.bor f then gborrow K rec f ((frzVals H args).1.map canon) c H
  else if K.frz f then gcall0 K rec f (frzVals H args).1 c (frzVals H args).2 else gcall0 K rec f args c H

def gcall (rec : Rec) (f : FuncId) (args : List GV) (c : Nat) (H : Heap) : Option (GV × Heap) :=
  if K.cln f then
    match K.ext f with
    | some e => if H.length = 0 then none else e args H
    | none => gcallN K rec f args c H
  else gcallN K rec f args c H

def putParams : Slots → Nat → List Tmp → List GV → Option Slots
  | s, _, [], [] => some s
  | s, nt, t :: ts, v :: vs => if t < nt then putParams ((t, v) :: s) nt ts vs else none
  | _, _, _, _ => none

/-- A round of a range over a function. -/
def ground (rec : Rec) (nm : Nm) (args : List GV) (H : Heap) : Option (GV × Heap) :=
  match H.get nm with
  | some (.loop l) =>
    if l.state = .ready then
      match putParams l.slots l.nt l.params (args.map canon) with
      | some s =>
        match rec l.fn l.assign ⟨s, [] :: H, l.nt⟩ with
        | some (.normal, st) =>
          match st.h with
          | fr :: H1 =>
            (match Heap.get H1 nm with
            | some (.loop l1) =>
              if l1.state ≠ .ready then none else
              match rec l.fn l.body ⟨st.s, fr :: Heap.set H1 nm (.loop { l1 with state := .busy }), l.nt⟩ with
              | some (e, st') =>
                (match st'.h with
                | _ :: H2 =>
                  (match Heap.get H2 nm with
                  | some (.loop l2) =>
                    (match e with
                    | .normal => some (.pure (.bool true), Heap.set H2 nm (.loop { l2 with state := .ready, pending := none }))
                    | e => some (.pure (.bool false), Heap.set H2 nm (.loop { l2 with state := .done, pending := some e })))
                  | _ => none)
                | [] => none)
              | none => none
            | _ => none)
          | [] => none
        | _ => none
      | none => none
    else none
  | _ => none

def gcallF (rec : Rec) (f : GV) (args : List GV) (c : Nat) (H : Heap) : Option (GV × Heap) :=
  match f with
  | .pure (.fn f) => gcall K rec f args c H
  | .func f first cap => gcall K rec f (first ++ args ++ cap) c H
  | _ => none

def gcallee (rec : Rec) (f : GV) (args : List GV) (c : Nat) (H : Heap) : Option (GV × Heap) :=
  match f with
  | .yield nm => ground rec nm args H
  | f => gcallF K rec f args c H

def wantedG (ops : List Oper) (s : Slots) (o : Oper) : Option Bool :=
  match o.guard with
  | none => some true
  | some (j, want) =>
    match ops[j]? with
    | some oj => (match oj.dst with
      | some d => (match look s d with | .pure (.bool b) => some (b == want) | .pure (.tuple []) => some false | _ => none)
      | none => none)
    | none => none

/-! ### a round's end of which blocks go on -/
def Fr.del (q : Nat) : Fr → Fr
  | [] => []
  | (k, b) :: r => if q = k then Fr.del q r else (k, b) :: Fr.del q r

def delAll : List Nat → Fr → Fr
  | [], f => f
  | q :: r, f => delAll r (f.del q)

mutual
/-- A value that does not lead to a name. -/
def noRef (nm : Nm) : GV → Bool
  | .bptr n _ | .eptr n _ _ _ _ | .hdr n _ _ _ _ | .yield n | .map n | .rhdr n _ _ _ | .rptr n _ _ _ _ => decide (n ≠ nm)
  | .lits l => noRefLL nm l
  | .lptr l => noRefL nm l
  | .agg l => noRefL nm l
  | .tuple l => noRefL nm l
  | .func _ a c => noRefL nm a && noRefL nm c
  | .pure _ | .pptr _ | .nils => true
def noRefL (nm : Nm) : List GV → Bool
  | [] => true
  | g :: r => noRef nm g && noRefL nm r
def noRefLL (nm : Nm) : List (List GV) → Bool
  | [] => true
  | g :: r => noRefL nm g && noRefLL nm r
end

def noRefE (nm : Nm) : List (PV × GV) → Bool
  | [] => true
  | e :: r => noRef nm e.2 && noRefE nm r
def noRefB (nm : Nm) : Blk → Bool
  | .box cs => noRefL nm cs
  | .arr .. => true
  | .mat .. => true
  | .gone => true
  | .map es => noRefE nm es
  | .loop _ => false
def noRefF (nm : Nm) : Fr → Bool
  | [] => true
  | x :: r => noRefB nm x.2 && noRefF nm r
def noRefS (nm : Nm) : Slots → Bool
  | [] => true
  | x :: r => noRef nm x.2 && noRefS nm r

def altKey (j k : Nat) : Nat := (j + 1) * 1000000000000 + k

def lift1 (L l j : Nat) : GV → Option GV
  | .hdr nm es top lo len => if nm.1 = L then some (.hdr (l, altKey j nm.2) es top lo len) else some (.hdr nm es top lo len)
  | .pure p => some (.pure p)
  | .nils => some .nils
  | _ => none
def liftL (L l j : Nat) : List GV → Option (List GV)
  | [] => some []
  | g :: r => match lift1 L l j g, liftL L l j r with | some g, some r => some (g :: r) | _, _ => none
def liftV (L l j : Nat) : GV → Option GV
  | .agg cs => (match liftL L l j cs with | some cs => some (.agg cs) | none => none)
  | g => lift1 L l j g

def allFree (H : Heap) (l j : Nat) : List Nat → Bool
  | [] => true
  | k :: r => (H.get (l, altKey j k)).isNone && allFree H l j r
def allNew (H : Heap) (L : Nat) (f0 : Fr) : List Nat → Bool
  | [] => true
  | k :: r => (H.get (L, k)).isNone && noRefF (L, k) f0 && allNew H L f0 r
def insAll (f0 : Fr) (l j : Nat) : List Nat → Heap → Option Heap
  | [], H => some H
  | k :: r, H => match f0.get k with | some (.arr es elems vf ro) => if tyOk (altKey j k) (.arr es elems vf ro) then insAll f0 l j r (H.set (l, altKey j k) (.arr es elems vf ro)) else none | _ => none

/-- The result's blocks go to the scope in which a box lies. 'H0': the heap ahead of the call. -/
def glift (H0 : Heap) (b : GV) (x : GV × Heap) : Option (GV × Heap) :=
  match b, x.2 with
  | .bptr nm _, f0 :: Hr =>
    let names := dedup (refs Hr.length x.1)
    let j := if allFree x.2 nm.1 0 names then 0 else 1
    if decide (nm.1 < Hr.length) && decide (H0.length = Hr.length + 1) && allNew H0 Hr.length f0 names && allFree x.2 nm.1 j names then
      (match liftV Hr.length nm.1 j x.1, insAll f0 nm.1 j names (delAll names f0 :: Hr) with
      | some v, some H => some (v, H)
      | _, _ => none)
    else none
  | _, _ => none

/-- The result's block becomes a row of a table in the scope in which a box lies. -/
def gliftRow (H0 : Heap) (b : GV) (key : Nat) (x : GV × Heap) : Option (GV × Heap) :=
  match b, x.1, x.2 with
  | .bptr nm _, .hdr nm2 es top lo len, f0 :: Hr =>
    if decide (nm2.1 = Hr.length) && decide (nm.1 < Hr.length) && decide (H0.length = Hr.length + 1) && allNew H0 Hr.length f0 [nm2.2] then
      match f0.get nm2.2 with
      | some (.arr es' elems vf false) =>
        if es' = es ∧ vf ≤ top ∧ top = elems.length ∧ lo = 0 ∧ len = top ∧ 0 < top then
          (match addRow (delAll [nm2.2] f0 :: Hr) nm key es elems with | some (i, H) => some (.rhdr (nm.1, key) es i top, H) | none => none)
        else none
      | _ => none
    else none
  | _, _, _ => none

/-- One operation, a call of Go code too. -/
def gstep (rec : Rec) (fn : FuncId) (o : Oper) (s : Slots) (H : Heap) : Option (GV × Heap) :=
  match goCalls o with
  | some (f, args) =>
    (match K.lift fn (o.dst.getD 0) with
    | none => gcallee K rec (ev s f) (args.map (ev s)) (o.dst.getD 0) H
    | some t => (match gcallee K rec (ev s f) (args.map (ev s)) (o.dst.getD 0) H with | some x => (match K.row fn (o.dst.getD 0) with | none => glift H (look s t) x | some key => gliftRow H (look s t) key x) | none => none))
  | none => gop K fn o s H

/-- Operations one behind the other. -/
def gops (rec : Rec) (fn : FuncId) (all : List Oper) : List Oper → GSt → Option GSt
  | [], st => some st
  | o :: r, st =>
    match wantedG all st.s o with
    | some false => (match st.put o.dst gundef with | some st => gops rec fn all r st | none => none)
    | some true =>
      (match gstep K rec fn o st.s st.h with
      | some (v, H) => (match GSt.put { st with h := H } o.dst v with | some st => gops rec fn all r st | none => none)
      | none => none)
    | none => none

def firstRegion : Code → Nat
  | .region id _ _ => id + 1
  | .seq a b => if firstRegion a = 0 then firstRegion b else firstRegion a
  | .cond _ a b => if firstRegion a = 0 then firstRegion b else firstRegion a
  | .block _ a => firstRegion a
  | .loop a => firstRegion a + 100000
  | .scope a => firstRegion a
  | .rangeFunc _ _ a b => if firstRegion a = 0 then firstRegion b else firstRegion a
  | _ => 0

def keepSlots (s : Slots) : List Nat → Slots
  | [] => []
  | t :: r => (t, look s t) :: keepSlots s r

def cleanSlots (H : Heap) (l0 : Nat) : Slots → Slots
  | [] => []
  | (t, v) :: r => (t, clean H l0 v) :: cleanSlots H l0 r

def keepO (ks : Option (List Nat)) (s : Slots) : Slots := match ks with | some l => keepSlots s l | none => s

/-- A scope is left; of the slots some are kept. -/
def gscope (ks : Option (List Nat)) (st : GSt) : Option GSt :=
  match st.h with
  | fr :: H =>
    if H.length = 0 then none else
    some { s := cleanSlots (fr :: H) (H.length - 1) (keepO ks st.s), h := H, nt := st.nt }
  | [] => none

/-- Keys of blocks that a round's end may let go. -/
def famKey (k : Nat) : Bool := decide (1000000000000 ≤ k)

def deadKeys (L : Nat) (s : Slots) (fr : Fr) : Fr → List Nat
  | [] => []
  | x :: r => if famKey x.1 && noRefS (L, x.1) s && noRefF (L, x.1) fr then x.1 :: deadKeys L s fr r else deadKeys L s fr r

/-- Blocks to which nothing leads any more are let go. -/
def gcol (st : GSt) : Option GSt :=
  match st.h with
  | fr :: H => if H.length = 0 then none else some { st with h := delAll (deadKeys H.length st.s fr fr) fr :: H }
  | [] => none

/-- A round's end. -/
def gnext (fn : FuncId) (c : Code) (st : GSt) : Option GSt :=
  if K.car fn (firstRegion c) then
    match gscope ((K.ann fn (firstRegion c)).map (·.1)) st with
    | some st => gcol st
    | none => none
  else gscope none st

/-! ### regions that draw their order -/
def isAlloc (o : Oper) : Bool :=
  match o.op, o.dst, o.guard with
  | .alloc _, some _, none => true
  | _, _, _ => false

/-- It leaves the heap alone. -/
def opPure (fn : FuncId) (o : Oper) : Bool :=
  match o.op with
  | .move _ | .assign _ | .pick .. | .build .. | .load .. | .nilCheck _ | .binOp .. | .unOp .. | .convert .. | .makeFunc .. | .slice .. | .fieldAddr .. | .field .. | .indexAddr .. | .index .. | .lookup .. | .extract .. => true
  | .buildSlice .. => (match o.dst with | some d => !K.own fn d | none => true)
  | .call { callee := .builtin .len, .. } | .call { callee := .builtin .min, .. } | .call { callee := .builtin .max, .. } => true
  | _ => false

/-- It reads what may be turned. -/
def opR (o : Oper) : Bool :=
  match o.op with
  | .load .. | .lookup .. => true
  | .call { callee := .builtin .len, .. } => true
  | _ => false

def tmpsOf (l : List Operand) : List Nat := l.filterMap fun | .tmp t => some t | _ => none

/-- The temporaries that an operation looks at; that its guard looks at. -/
def depsO (fn : FuncId) (o : Oper) : List Nat :=
  tmpsOf o.op.operands.toList ++ (match o.dst with | some d => (match K.up fn d with | .box t => [t] | _ => []) | none => []) ++ (match K.lift fn (o.dst.getD 0) with | some t => [t] | none => [])
def depsG (all : List Oper) (o : Oper) : List Nat :=
  match o.guard with | some (j, _) => (match all[j]? with | some oj => oj.dst.toList | none => []) | none => []

def nodupB : List Nat → Bool
  | [] => true
  | x :: r => !r.contains x && nodupB r

/-- What 'oi' tells is told surely ahead of 'oj', or surely behind it, or 'oj' does not look at it; of a new variable only what may turn something looks. -/
def depOk (fn : FuncId) (all : List Oper) (pre : Array Nat) (oj : Oper) (j : Nat) (oi : Oper) (i : Nat) : Bool :=
  (match oi.dst with
  | none => true
  | some d =>
    (!((depsO K fn oj).contains d || (depsG all oj).contains d) || i == j || (decide (i < j) && (pre.getD j 0).testBit i) || (decide (j < i) && (pre.getD i 0).testBit j)) &&
    (!isAlloc oi || (!(depsG all oj).contains d && (!(depsO K fn oj).contains d || (!opPure K fn oj && !isAlloc oj))))) &&
  (!isAlloc oi || opPure K fn oj || isAlloc oj || decide (j ≤ i) || (pre.getD j 0).testBit i)

def drawOk (fn : FuncId) (all : List Oper) (pre : Array Nat) : Bool :=
  nodupB (all.filterMap (·.dst)) &&
  all.zipIdx.all fun (oj, j) => oj.after.all (fun e => !Region.binds .any e || decide (e.on < j)) && all.zipIdx.all fun (oi, i) => depOk K fn all pre oj j oi i

/-- An operation that was done at other temporaries tells the same at this heap. -/
def sameAt (fn : FuncId) (o : Oper) (s : Slots) (v : GV) (H : Heap) : Bool := match gop K fn o s H with | some (v', _) => GV.beq v' v | none => false

structure RLog where
  i : Nat
  o : Oper
  s : Slots
  v : GV

/-- In the order of the text. 'hb': the heap without the new variables since the last operation that turned something: there is read; where else it may be read it is looked whether that tells the same. -/
def gdraw (rec : Rec) (fn : FuncId) (all : List Oper) (pre : Array Nat) : Nat → List Oper → List (Nat × Heap) → List RLog → Heap → GSt → Option GSt
  | _, [], _, _, _, st => some st
  | i, o :: r, wl, rl, hb, st =>
    match wantedG all st.s o with
    | some false => (match st.put o.dst gundef with | some st => gdraw rec fn all pre (i + 1) r wl rl hb st | none => none)
    | some true =>
      if opPure K fn o then
        (match gop K fn o st.s hb with
        | some (v, _) =>
          (match st.put o.dst v with
          | some st' =>
            if opR o then
              (if wl.all (fun x => (pre.getD i 0).testBit x.1 || sameAt K fn o st.s v x.2) then gdraw rec fn all pre (i + 1) r wl (⟨i, o, st.s, v⟩ :: rl) hb st' else none)
            else gdraw rec fn all pre (i + 1) r wl rl hb st'
          | none => none)
        | none => none)
      else
        (match gstep K rec fn o st.s st.h with
        | some (v, H) =>
          (match GSt.put { st with h := H } o.dst v with
          | some st' =>
            if isAlloc o then gdraw rec fn all pre (i + 1) r wl rl hb st'
            else if wl.all (fun x => (pre.getD i 0).testBit x.1) && rl.all (fun q => (pre.getD i 0).testBit q.i || sameAt K fn q.o q.s q.v H) then
              gdraw rec fn all pre (i + 1) r ((i, hb) :: wl) rl H st'
            else none
          | none => none)
        | none => none)
    | none => none

/-- One step of the evaluation. -/
def gbody (rec : Rec) (fn : FuncId) (c : Code) (st : GSt) : Option (GX × GSt) :=
  match c with
  | .skip | .label _ => some (.normal, st)
  | .region _ ops false => (match gops K rec fn ops.toList ops.toList st with | some st => some (.normal, st) | none => none)
  | .region _ ops true =>
    if drawOk K fn ops.toList (Region.before ops) then
      (match gdraw K rec fn ops.toList (Region.before ops) 0 ops.toList [] [] st.h st with | some st => some (.normal, st) | none => none)
    else none
  | .seq a b => (match rec fn a st with | some (.normal, st) => rec fn b st | r => r)
  | .cond c x y => (match ev st.s c with | .pure (.bool b) => if b then rec fn x st else rec fn y st | _ => none)
  | .block id c => (match rec fn c st with | some (.exit id', st) => if id' = id then some (.normal, st) else some (.exit id', st) | r => r)
  | .loop c =>
    let an := K.ann fn (firstRegion c)
    (match rec fn c { st with s := keepO (an.map (·.1)) st.s, h := [] :: st.h } with
    | some (.normal, st) => (match gnext K fn c st with | some st => rec fn (.loop c) st | none => none)
    | some (e, st) => (match gscope (an.map (·.2)) st with | some st => some (e, st) | none => none)
    | none => none)
  | .scope c => rec fn c st
  | .exit id => some (.exit id, st)
  | .ret => some (.ret, st)
  | .rangeFunc f ps assign body =>
    let key := 10000000 + firstRegion body
    (match gnew st.h key (.loop { slots := st.s, nt := st.nt, params := ps.toList, assign := assign, body := body, fn := fn, state := .ready, pending := none }) with
    | some (nm, H) =>
      (match gcallF K rec (ev st.s f) [.yield nm] 0 H with
      | some (_, H) =>
        (match H.get nm with
        | some (.loop l) =>
          if l.state = .busy then none else
          (match l.pending with
          | none => some (.normal, { st with h := H.set nm (.loop { l with state := .exhausted }) })
          | some e => some (e, { st with h := H.set nm (.loop { l with state := .exhausted }) }))
        | _ => none)
      | none => none)
    | none => none)
  | _ => none

def gexec : Nat → Rec
  | 0 => fun _ _ _ => none
  | n + 1 => gbody K (gexec n)

end
end Go.Gh
