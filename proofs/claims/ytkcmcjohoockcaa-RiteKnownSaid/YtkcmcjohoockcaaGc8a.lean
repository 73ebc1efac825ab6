/- Texts joined: the evaluator over ghost values, its soundness, the walks. Spaces struck and names made short by a program, for the size. -/
import Derived.RangeFuncLeaves
import Derived.WalkKit
import Derived.Eval
import Derived.Laws.CopyRow
namespace Go.Gh
set_option linter.unusedVariables false
set_option linter.unusedSimpArgs false
set_option linter.unnecessarySimpa false
set_option maxRecDepth 100000
set_option maxHeartbeats 8000000
inductive PV where
 |int (k:IntKind) (n:Int)
 |bool (b:Bool)
 |str (s:List UInt8)
 |slice (l:List (List PV))
 |agg (l:List PV)
 |tuple (l:List PV)
 |fn (f:FuncId)
 |nR
 |eg
 |lR
 |nS
 |iface (t:TypeId) (v:PV)
 |dead
 deriving Inhabited
abbrev Nm:=Nat×Nat
inductive GV where
 |pure (p:PV)
 |bF (cs:List PV)
 |aO
 |aA (nm:Nm) (off:Nat)
 |bZ (nm:Nm) (es top i off:Nat)
 |ay (nm:Nm) (es top lo len:Nat)
 |lits (l:List (List GV))
 |fO (cs:List GV)
 |agg (l:List GV)
 |tuple (l:List GV)
 |func (f:FuncId) (first cap:List GV)
 |yield (nm:Nm)
 |map (nm:Nm)
 |eT (nm:Nm) (es i len:Nat)
 |fZ (nm:Nm) (es i j off:Nat)
 deriving Inhabited
mutual
def PV.beq:PV→PV→Bool
 | .int k a, .int k' b=>decide (k=k') && a==b
 | .bool a, .bool b=>a==b
 | .str a, .str b=>a==b
 | .slice a, .slice b=>PV.gZ a b
 | .agg a, .agg b=>PV.ie a b
 | .tuple a, .tuple b=>PV.ie a b
 | .fn f, .fn g=>f==g
 | .nR, .nR| .eg, .eg| .lR, .lR| .nS, .nS| .dead, .dead=>true
 | .iface t v, .iface u w=>t==u && PV.beq v w
 |_,_=>false
def PV.ie:List PV→List PV→Bool
 | [],[]=>true
 |a::r,b::s=>PV.beq a b && PV.ie r s
 |_,_=>false
def PV.gZ:List (List PV)→List (List PV)→Bool
 | [],[]=>true
 |a::r,b::s=>PV.ie a b && PV.gZ r s
 |_,_=>false
end
mutual
def GV.beq:GV→GV→Bool
 | .pure a, .pure b=>PV.beq a b
 | .bF a, .bF b=>PV.ie a b
 | .aO, .aO=>true
 | .aA n o, .aA m p=>n==m && o==p
 | .bZ n e t i o, .bZ m e' t' i' o'=>n==m && e==e' && t==t' && i==i' && o==o'
 | .ay n e t i o, .ay m e' t' i' o'=>n==m && e==e' && t==t' && i==i' && o==o'
 | .lits a, .lits b=>GV.gZ a b
 | .fO a, .fO b=>GV.ie a b
 | .agg a, .agg b=>GV.ie a b
 | .tuple a, .tuple b=>GV.ie a b
 | .func f a c, .func g b d=>f==g && GV.ie a b && GV.ie c d
 | .yield n, .yield m=>n==m
 | .map n, .map m=>n==m
 | .eT n e i l, .eT m e' i' l'=>n==m && e==e' && i==i' && l==l'
 | .fZ n e i j o, .fZ m e' i' j' o'=>n==m && e==e' && i==i' && j==j' && o==o'
 |_,_=>false
def GV.ie:List GV→List GV→Bool
 | [],[]=>true
 |a::r,b::s=>GV.beq a b && GV.ie r s
 |_,_=>false
def GV.gZ:List (List GV)→List (List GV)→Bool
 | [],[]=>true
 |a::r,b::s=>GV.ie a b && GV.gZ r s
 |_,_=>false
end
mutual
theorem PV.beq_eq: ∀a b:PV,PV.beq a b=true→a=b
 | .int k a,b,h=>by cases b<;>simp_all [PV.beq]
 | .bool a,b,h=>by cases b<;>simp_all [PV.beq]
 | .str a,b,h=>by cases b<;>simp_all [PV.beq]
 | .slice a,b,h=>by cases b<;>simp [PV.beq]at h;rw [PV.lV _ _ h]
 | .agg a,b,h=>by cases b<;>simp [PV.beq]at h;rw [PV.fq _ _ h]
 | .tuple a,b,h=>by cases b<;>simp [PV.beq]at h;rw [PV.fq _ _ h]
 | .fn f,b,h=>by cases b<;>simp_all [PV.beq]
 | .nR,b,h=>by cases b<;>simp_all [PV.beq]
 | .eg,b,h=>by cases b<;>simp_all [PV.beq]
 | .lR,b,h=>by cases b<;>simp_all [PV.beq]
 | .nS,b,h=>by cases b<;>simp_all [PV.beq]
 | .iface t v,b,h=>by cases b<;>simp [PV.beq]at h;rw [h.1,PV.beq_eq _ _ h.2]
 | .dead,b,h=>by cases b<;>simp_all [PV.beq]
theorem PV.fq: ∀a b:List PV,PV.ie a b=true→a=b
 | [],b,h=>by cases b<;>simp_all [PV.ie]
 |x::r,b,h=>by
  cases b with
  |nil=>simp [PV.ie]at h
  |cons y s=>simp [PV.ie]at h;rw [PV.beq_eq _ _ h.1,PV.fq _ _ h.2]
theorem PV.lV: ∀a b:List (List PV),PV.gZ a b=true→a=b
 | [],b,h=>by cases b<;>simp_all [PV.gZ]
 |x::r,b,h=>by
  cases b with
  |nil=>simp [PV.gZ]at h
  |cons y s=>simp [PV.gZ]at h;rw [PV.fq _ _ h.1,PV.lV _ _ h.2]
end
mutual
theorem GV.beq_eq: ∀a b:GV,GV.beq a b=true→a=b
 | .pure a,b,h=>by cases b<;>simp [GV.beq]at h;rw [PV.beq_eq _ _ h]
 | .bF a,b,h=>by cases b<;>simp [GV.beq]at h;rw [PV.fq _ _ h]
 | .aO,b,h=>by cases b<;>simp_all [GV.beq]
 | .aA n o,b,h=>by cases b<;>simp_all [GV.beq]
 | .bZ n e t i o,b,h=>by cases b<;>simp_all [GV.beq]
 | .ay n e t i o,b,h=>by cases b<;>simp_all [GV.beq]
 | .lits a,b,h=>by cases b<;>simp [GV.beq]at h;rw [GV.lV _ _ h]
 | .fO a,b,h=>by cases b<;>simp [GV.beq]at h;rw [GV.fq _ _ h]
 | .agg a,b,h=>by cases b<;>simp [GV.beq]at h;rw [GV.fq _ _ h]
 | .tuple a,b,h=>by cases b<;>simp [GV.beq]at h;rw [GV.fq _ _ h]
 | .func f a c,b,h=>by cases b<;>simp [GV.beq]at h;rw [h.1.1,GV.fq _ _ h.1.2,GV.fq _ _ h.2]
 | .yield n,b,h=>by cases b<;>simp_all [GV.beq]
 | .map n,b,h=>by cases b<;>simp_all [GV.beq]
 | .eT n e i l,b,h=>by cases b<;>simp_all [GV.beq]
 | .fZ n e i j o,b,h=>by cases b<;>simp_all [GV.beq]
theorem GV.fq: ∀a b:List GV,GV.ie a b=true→a=b
 | [],b,h=>by cases b<;>simp_all [GV.ie]
 |x::r,b,h=>by
  cases b with
  |nil=>simp [GV.ie]at h
  |cons y s=>simp [GV.ie]at h;rw [GV.beq_eq _ _ h.1,GV.fq _ _ h.2]
theorem GV.lV: ∀a b:List (List GV),GV.gZ a b=true→a=b
 | [],b,h=>by cases b<;>simp_all [GV.gZ]
 |x::r,b,h=>by
  cases b with
  |nil=>simp [GV.gZ]at h
  |cons y s=>simp [GV.gZ]at h;rw [GV.fq _ _ h.1,GV.lV _ _ h.2]
end
mutual
@[simp] theorem PV.nZ: ∀a:PV,PV.beq a a=true
 | .int k a=>by simp [PV.beq]
 | .bool a=>by simp [PV.beq]
 | .str a=>by simp [PV.beq]
 | .slice a=>by simp [PV.beq,PV.jd a]
 | .agg a=>by simp [PV.beq,PV.dz a]
 | .tuple a=>by simp [PV.beq,PV.dz a]
 | .fn f=>by simp [PV.beq]
 | .nR=>rfl
 | .eg=>rfl
 | .lR=>rfl
 | .nS=>rfl
 | .iface t v=>by simp [PV.beq,PV.nZ v]
 | .dead=>rfl
@[simp] theorem PV.dz: ∀a:List PV,PV.ie a a=true
 | []=>rfl
 |x::r=>by simp [PV.ie,PV.nZ x,PV.dz r]
@[simp] theorem PV.jd: ∀a:List (List PV),PV.gZ a a=true
 | []=>rfl
 |x::r=>by simp [PV.gZ,PV.dz x,PV.jd r]
end
mutual
@[simp] theorem GV.nZ: ∀a:GV,GV.beq a a=true
 | .pure a=>by simp [GV.beq]
 | .bF a=>by simp [GV.beq]
 | .aO=>rfl
 | .aA n o=>by simp [GV.beq]
 | .bZ n e t i o=>by simp [GV.beq]
 | .ay n e t i o=>by simp [GV.beq]
 | .lits a=>by simp [GV.beq,GV.jd a]
 | .fO a=>by simp [GV.beq,GV.dz a]
 | .agg a=>by simp [GV.beq,GV.dz a]
 | .tuple a=>by simp [GV.beq,GV.dz a]
 | .func f a c=>by simp [GV.beq,GV.dz a,GV.dz c]
 | .yield n=>by simp [GV.beq]
 | .map n=>by simp [GV.beq]
 | .eT n e i l=>by simp [GV.beq]
 | .fZ n e i j o=>by simp [GV.beq]
@[simp] theorem GV.dz: ∀a:List GV,GV.ie a a=true
 | []=>rfl
 |x::r=>by simp [GV.ie,GV.nZ x,GV.dz r]
@[simp] theorem GV.jd: ∀a:List (List GV),GV.gZ a a=true
 | []=>rfl
 |x::r=>by simp [GV.gZ,GV.dz x,GV.jd r]
end
inductive GX where
 |normal
 |exit (id:Nat)
 |ret
 deriving DecidableEq,Inhabited
structure dR where
 c8:List (Nat×GV)
 nt:Nat
 params:List Tmp
 assign:Code
 body:Code
 fn:FuncId
 state:LoopState
 pending:Option GX
 deriving Inhabited
inductive dW where
 |box (cells:List GV)
 |arr (es:Nat) (elems:List (List PV)) (vf:Nat) (ro:Bool)
 |map (entries:List (PV×GV))
 |loop (l:dR)
 |nj (es:Nat) (rows:List (List (List PV))) (n:Nat)
 deriving Inhabited
abbrev Fr:=List (Nat×dW)
def Fr.get:Fr→Nat→Option dW
 | [],_=>none
 |(k,b)::r,q=>if q=k then some b else Fr.get r q
def Fr.ins (q:Nat)(x:dW):Fr→Fr
 | []=> [(q,x)]
 |(k,b)::r=>if q=k then (q,x)::r else if q<k then (q,x)::(k,b)::r else (k,b)::Fr.ins q x r
abbrev ae:=List Fr
def ae.get:ae→Nm→Option dW
 | [],_=>none
 |f::H,nm=>if nm.1=H.length then f.get nm.2 else ae.get H nm
def ae.set:ae→Nm→dW→ae
 | [],_,_=> []
 |f::H,nm,b=>if nm.1=H.length then f.ins nm.2 b::H else f::ae.set H nm b
abbrev aS:=List (Nat×GV)
def aG:GV:= .pure .dead
def jG:GV:= .pure (.tuple [])
def look:aS→Nat→GV
 | [],_=>aG
 |(k,v)::r,t=>if t=k then v else look r t
structure bE where
 s:aS
 h:ae
 nt:Nat
def bE.put (st:bE)(d:Option Tmp)(v:GV):Option bE:=
 match d with
 |none=>some st
 |some d=>if d<st.nt then some {st with s:=(d,v)::st.s}else none
def bd:List GV→Option (List PV)
 | []=>some []
 | .pure p::r=>match bd r with|some ps=>some (p::ps)|none=>none
 |_::_=>none
def cO (l:List GV):GV:=match bd l with|some ps=> .pure (.agg ps)|none=> .agg l
def mkTuple (l:List GV):GV:=match bd l with|some ps=> .pure (.tuple ps)|none=> .tuple l
def bm:GV→Option (List GV)
 | .agg l=>some l
 | .pure (.agg l)=>some (l.map .pure)
 | .pure .dead| .pure (.tuple _)| .tuple _=>none
 |g=>some [g]
def jZ:Value→GV
 | .int k n=> .pure (.int k n)
 | .bool b=> .pure (.bool b)
 | .string s=> .pure (.str s.data.toList)
 | .slice none 0 0=> .aO
 | .pointer none=> .pure .nR
 | .nilFunc=> .pure .eg
 | .map none=> .pure .lR
 | .nilIface=> .pure .nS
 |_=>aG
def ofConst:Value→GV
 | .agg cs=>if cs.toList.all Value.oneCell' then cO (cs.toList.map jZ)else aG
 |v=>jZ v
def ev (s:aS):Operand→GV
 | .tmp t=>look s t
 | .const v=>ofConst v
 | .func f=> .pure (.fn f)
 | .global _=>aG
def cb:GV→GV
 | .aO=> .pure (.slice [])
 |g=>g
def canon:GV→GV
 | .aO=> .pure (.slice [])
 | .agg l=>cO (l.map cb)
 | .tuple l=>mkTuple (l.map fun g=>match g with| .agg l=>cO (l.map cb)|g=>cb g)
 |g=>g
def aZ (P:Program)(t:TypeId):Option Nat:=(P.info? t).map (·.size)
def iI (P:Program)(t:TypeId):Option Nat:=(P.info? t).map (·.bytes)
def b8 (P:Program)(t:TypeId):Option GV:=match P.info? t with|some i=>(match i.zero with|some v=>some (ofConst v)|none=>none)|none=>none
def dC (P:Program)(t:TypeId):Option Bool:=
 match P.underlying t with
 |some (.struct _)|some (.array _ _)=>some true
 |some _=>some false
 |none=>none
def cU (P:Program)(t:TypeId):Option TypeId:=match P.underlying t with|some (.slice e)=>some e|_=>none
def qe (P:Program)(t:TypeId):Option (Nat×TypeId):=match P.underlying t with|some (.array n e)=>some (n,e)|_=>none
def jH (P:Program)(t:TypeId)(f:Nat):Option (Nat×TypeId):=
 match P.underlying t with
 |some (.struct fs)=>match fs[f]? with|some x=>some (x.offset,x.type)|none=>none
 |_=>none
def placesOf (P:Program):List Field→Option (List (Nat×Nat))
 | []=>some []
 |f::r=>match aZ P f.type,placesOf P r with|some n,some l=>some ((f.offset,n)::l)|_,_=>none
def eI (P:Program)(t:TypeId):Option (List (Nat×Nat)):=
 match P.underlying t with
 |some (.struct fs)=>placesOf P fs.toList
 |_=>none
def gI (H:ae)(nm:Nm)(es top lo len:Nat):PV:=
 match H.get nm with
 |some (.arr es' elems vf _)=>if es'=es∧vf≤top∧lo+len≤top∧top≤elems.length then .slice ((elems.drop lo).take len)else .dead
 |_=> .dead
def fG (H:ae)(nm:Nm)(es top lo len:Nat):PV:=
 match H.get nm with
 |some (.nj _ rows n)=>if es=1∧lo+len≤top∧top≤n then .slice (((rows.drop lo).take len).map fun r=> [.slice r])else .dead
 |_=>gI H nm es top lo len
def cT (l0:Nat):List GV→Bool
 | []=>true
 | .pure _::r| .bF _::r| .aO::r=>cT l0 r
 | .aA nm _::r| .bZ nm _ _ _ _::r| .ay nm _ _ _ _::r| .yield nm::r| .map nm::r=>decide (nm.1≤l0) && cT l0 r
 |_::_=>false
def cH (H:ae)(l0:Nat):GV→GV
 | .ay nm es top lo len=>if nm.1≤l0 then .ay nm es top lo len else .pure (fG H nm es top lo len)
 | .aA nm off=>if nm.1≤l0 then .aA nm off else aG
 | .bZ nm es top i off=>if nm.1≤l0 then .bZ nm es top i off else aG
 | .yield nm=>if nm.1≤l0 then .yield nm else aG
 | .map nm=>if nm.1≤l0 then .map nm else aG
 | .func f first cap=>if cT l0 first && cT l0 cap then .func f first cap else aG
 | .pure p=> .pure p
 | .bF cs=> .bF cs
 | .aO=> .aO
 | .lits l=>if l.all (cT l0)then .lits l else aG
 | .fO cs=>if cT l0 cs then .fO cs else aG
 | .eT nm es i len=>if nm.1≤l0 then .eT nm es i len else aG
 | .fZ nm es i j off=>if nm.1≤l0 then .fZ nm es i j off else aG
 | .agg _| .tuple _=>aG
def nJ (H:ae)(l0:Nat):GV→Option GV
 | .pure p=>some (.pure p)
 | .bF cs=>some (.bF cs)
 | .aO=>some .aO
 | .aA nm off=>if nm.1≤l0 then some (.aA nm off)else
  match H.get nm with
  |some (.box cs)=>(match bd cs with|some ps=>if off≤ps.length then some (.bF (ps.drop off))else none|none=>none)
  |_=>none
 |_=>none
def mE (H:ae)(l0:Nat):List GV→Option (List GV)
 | []=>some []
 |g::r=>match nJ H l0 g,mE H l0 r with|some g,some r=>some (g::r)|_,_=>none
def fN (H:ae)(l0:Nat):GV→GV
 | .agg l=>cO (l.map (cH H l0))
 | .func f first cap=>if cT l0 first && cT l0 cap then .func f first cap else if cT l0 first then (match mE H l0 cap with|some cap=> .func f first cap|none=>aG)else aG
 |g=>cH H l0 g
def clean (H:ae)(l0:Nat):GV→GV
 | .tuple l=>mkTuple (l.map (fN H l0))
 |g=>fN H l0 g
def df (H:ae):GV→PV×ae
 | .pure p=>(p,H)
 | .aO=>(.slice [],H)
 | .ay nm es top lo len=>
  match H.get nm with
  |some (.arr es' elems vf _)=>if es'=es∧vf≤top∧lo+len≤top∧top≤elems.length then (.slice ((elems.drop lo).take len),H.set nm (.arr es' elems vf true))else (.dead,H)
  |_=>(.dead,H)
 |_=>(.dead,H)
def bp (H:ae):List GV→List PV×ae
 | []=>([],H)
 |g::r=>let (p,H1):=df H g;let (ps,H2):=bp H1 r;(p::ps,H2)
def dx (H:ae)(l0:Nat):GV→GV×ae
 | .ay nm es top lo len=>if nm.1≤l0 then (.ay nm es top lo len,H)else let (p,H1):=df H (.ay nm es top lo len);(.pure p,H1)
 |g=>(cH H l0 g,H)
def cK (H:ae)(l0:Nat):List GV→List GV×ae
 | []=>([],H)
 |g::r=>let (p,H1):=dx H l0 g;let (ps,H2):=cK H1 l0 r;(p::ps,H2)
def aD {α:Type}(l:List α)(off:Nat)(xs:List α):List α:=l.take off++xs++l.drop (off+xs.length)
def ig (P:Program)(t:TypeId)(H:ae)(a:GV):Option GV:=
 match dC P t,aZ P t with
 |some ag,some size=>
  match a with
  | .aA nm off=>
   match H.get nm with
   |some (.box cs)=>if ag then (if off+size≤cs.length then some (cO ((cs.drop off).take size))else none)else cs[off]?
   |_=>none
  | .bZ nm es top i off=>
   match H.get nm with
   |some (.arr es' elems vf _)=>
    if es'=es∧vf≤top∧i<top∧top≤elems.length then
     (match elems[i]? with
     |some e=>if ag then (if off+size≤e.length then some (.pure (.agg ((e.drop off).take size)))else none)else (match e[off]? with|some p=>some (.pure p)|none=>none)
     |none=>none)
    else none
   |some (.nj es' rows n)=>if ag=false∧es=1∧off=0∧i<top∧top≤n then (match rows[i]? with|some r=>some (.eT nm es' i r.length)|none=>none)else none
   |_=>none
  | .fZ nm es i j off=>
   match H.get nm with
   |some (.nj es' rows _)=>
    if es'=es then
     (match rows[i]? with
     |some r=>
      (match r[j]? with
      |some e=>if ag then (if off+size≤e.length then some (.pure (.agg ((e.drop off).take size)))else none)else (match e[off]? with|some p=>some (.pure p)|none=>none)
      |none=>none)
     |none=>none)
    else none
   |_=>none
  | .bF cs=>if ag then (if size≤cs.length then some (.pure (.agg (cs.take size)))else none)else (match cs[0]? with|some p=>some (.pure p)|none=>none)
  | .fO cs=>if ag then (if size≤cs.length then some (cO (cs.take size))else none)else cs[0]?
  |_=>none
 |_,_=>none
def lP (P:Program)(t:TypeId)(H:ae)(a v:GV):Option ae:=
 match aZ P t with
 |some size=>
  match bm v with
  |none=>none
  |some cells=>
  if cells.length≠size then none else
  match a with
  | .aA nm off=>
   let (cs',H1):=cK H nm.1 cells
   match H1.get nm with
   |some (.box cs)=>if off+size≤cs.length then some (H1.set nm (.box (aD cs off cs')))else none
   |_=>none
  | .bZ nm es top i off=>
   let (ps,H1):=bp H cells
   match H1.get nm with
   |some (.arr es' elems _ ro)=>
    if es'=es∧ro=false∧top=elems.length∧i<top then
     (match elems[i]? with
     |some e=>if off+size≤e.length then some (H1.set nm (.arr es' (elems.set i (aD e off ps)) elems.length false))else none
     |none=>none)
    else none
   |_=>none
  | .fZ nm es i j off=>
   let (ps,H1):=bp H cells
   match H1.get nm with
   |some (.nj es' rows n)=>
    if es'=es then
     (match rows[i]? with
     |some r=>
      (match r[j]? with
      |some e=>if off+size≤e.length then some (H1.set nm (.nj es' (rows.set i (r.set j (aD e off ps))) n))else none
      |none=>none)
     |none=>none)
    else none
   |_=>none
  |_=>none
 |none=>none
def db (place : Nat → Option (Nat × Nat)) (cells : List GV) : List (Nat × GV) → Option (List GV)
  | [] => some cells
  | (i, v) :: rest =>
    match place i with
    | none => none
    | some (off, size) =>
      match bm v with
      | none => none
      | some vs =>
      if vs.length ≠ size ∨ off + vs.length > cells.length then none else db place (aD cells off vs) rest
def chunks {α:Type}(es:Nat):Nat→List α→List (List α)
 |0,_=> []
 |n+1,l=>l.take es::chunks es n (l.drop es)
def mw (op:BinOp)(k:IntKind)(a b:Int):Option PV:=
 match op with
 | .add=>some (.int k (k.wrap (a+b)))
 | .sub=>some (.int k (k.wrap (a-b)))
 | .mul=>some (.int k (k.wrap (a*b)))
 | .quo=>if b=0 then none else some (.int k (k.wrap (a.tdiv b)))
 | .rem=>if b=0 then none else some (.int k (a.tmod b))
 | .and=>some (.int k (k.wrap (BitVec.ofInt k.bits a &&& BitVec.ofInt k.bits b).toNat))
 | .or=>some (.int k (k.wrap (BitVec.ofInt k.bits a|||BitVec.ofInt k.bits b).toNat))
 | .xor=>some (.int k (k.wrap (BitVec.ofInt k.bits a^^^BitVec.ofInt k.bits b).toNat))
 | .andNot=>some (.int k (k.wrap (BitVec.ofInt k.bits a &&& ~~~(BitVec.ofInt k.bits b)).toNat))
 | .eql=>some (.bool (a==b))
 | .neq=>some (.bool (a !=b))
 | .lss=>some (.bool (a<b))
 | .leq=>some (.bool (a≤b))
 | .gtr=>some (.bool (a>b))
 | .geq=>some (.bool (a≥b))
 |_=>none
def uS (op:BinOp)(k:IntKind)(a b:Int):Option PV:=
 if b<0 then none else
 match op with
 | .shl=>some (.int k (k.wrap (a*2^(min b.toNat k.bits))))
 | .shr=>some (.int k (a.fdiv (2^(min b.toNat k.bits))))
 |_=>none
def Rd (op:BinOp)(a b:List UInt8):Option PV:=
 match op with
 | .add=>if a.length+b.length≤4611686018427387904 then some (.str (a++b))else none
 | .eql=>some (.bool (a==b))
 | .neq=>some (.bool (!(a==b)))
 | .lss=>some (.bool (Op.bytesLess a b))
 | .leq=>some (.bool (Op.bytesLess a b||a==b))
 | .gtr=>some (.bool (!(Op.bytesLess a b||a==b)))
 | .geq=>some (.bool (!Op.bytesLess a b))
 |_=>none
inductive SK where
 |int (k:IntKind)
 |bool
 |str
def bK:List SK→List PV→List PV→Option Bool
 | [],[],[]=>some true
 | .int k::ks, .int k1 x::a, .int k2 y::b=>if k1=k∧k2=k then (match bK ks a b with|some q=>some (x==y && q)|none=>none)else none
 | .bool::ks, .bool x::a, .bool y::b=>(match bK ks a b with|some q=>some (x==y && q)|none=>none)
 | .str::ks, .str x::a, .str y::b=>(match bK ks a b with|some q=>some (x==y && q)|none=>none)
 |_,_,_=>none
section
inductive Up where
 |scopes (n:Nat)
 |box (t:Tmp)
structure Ctx where
 P:Program
 B0:FuncId→Bool
 ir:FuncId→Nat→Option (List Nat×List Nat)
 up:FuncId→Nat→Up
 own:FuncId→Nat→Bool
 BH:FuncId→Bool
 vF:FuncId→Bool
 iu:FuncId→Nat→Bool
 vw:FuncId→Bool
 lift:FuncId→Nat→Option Tmp
 row:FuncId→Nat→Option Nat
 eqs:TypeId→Option (List SK)
def qo (s:aS)(x:Nat×Operand):Nat×GV:=(x.1,ev s x.2)
section
variable (K:Ctx)
def hQ (H:ae)(l key:Nat)(b:dW):Option (Nm×ae):=
 if H.length≤l then none else
 match H.get (l,key)with
 |some _=>none
 |none=>some ((l,key),H.set (l,key) b)
def fK (H:ae)(key:Nat)(b:dW):Option (Nm×ae):=hQ H (H.length-1) key b
def gH (H:ae)(s:aS):Up→Option Nat
 | .scopes n=>if H.length≤n then none else some (H.length-1-n)
 | .box t=>match look s t with| .aA nm _=>some nm.1|_=>none
def mB (s:aS):Up→Option Nm
 | .box t=>match look s t with| .aA nm _=>some nm|_=>none
 |_=>none
def ya (t:TypeId)(H:ae)(x:GV):Option Int:=
 match K.P.underlying t,x with
 |some (.array n _),_=>some n
 |some (.slice _), .ay _ _ _ _ len=>some len
 |some (.slice _), .eT _ _ _ len=>some len
 |some (.slice _), .aO=>some 0
 |some (.slice _), .lits l=>some l.length
 |some (.slice _), .pure (.slice l)=>some l.length
 |some .string, .pure (.str l)=>some l.length
 |some (.map _ _), .pure .lR=>some 0
 |some (.map _ _), .map nm=>(match H.get nm with|some (.map es)=>some es.length|_=>none)
 |_,_=>none
def eA (op:BinOp)(t:TypeId)(x y:GV):Option PV:=
 match x,y with
 | .pure (.int k a), .pure (.int k' b)=>
  match op with
  | .shl| .shr=>uS op k a b
  |_=>if k=k' then mw op k a b else none
 | .pure (.str a), .pure (.str b)=>Rd op a b
 | .pure (.bool a), .pure (.bool b)=>
  (match op,K.P.underlying t with
  | .eql,some .bool=>some (.bool (a==b))
  | .neq,some .bool=>some (.bool (!(a==b)))
  |_,_=>none)
 | .pure (.agg a), .pure (.agg b)=>
  match K.eqs t with
  |some ks=>
   (match op,bK ks a b with
   | .eql,some q=>some (.bool q)
   | .neq,some q=>some (.bool (!q))
   |_,_=>none)
  |none=>none
 |_,_=>none
def m7:Operand→Bool
 | .const (.slice none 0 0)=>true
 |_=>false
def rH:GV→Bool
 | .ay .. =>true
 | .pure (.slice (_::_))=>true
 | .lits (_::_)=>true
 |_=>false
def fC (op:BinOp)(t:TypeId)(x:GV):Option PV:=
 match K.P.underlying t,op with
 |some (.slice _), .eql=>if rH x then some (.bool false)else none
 |some (.slice _), .neq=>if rH x then some (.bool true)else none
 |_,_=>none
def zo (op:BinOp)(t:TypeId)(s:aS)(x y:Operand):Option PV:=if m7 y then fC K op t (ev s x)else eA K op t (ev s x) (ev s y)
def ym (x i:GV)(t:TypeId):Option GV:=
 match i with
 | .pure (.int _ i)=>
  if i<0 then none else
  match qe K.P t with
  |some (n,e)=>
   match dC K.P e,aZ K.P e with
   |some ag,some size=>
    if (n:Int)≤i then none else
    (match x with
    | .agg cs=>if (i.toNat*size)+size≤cs.length then (if ag then some (cO ((cs.drop (i.toNat*size)).take size))else cs[i.toNat*size]?)else none
    | .pure (.agg cs)=>if (i.toNat*size)+size≤cs.length then (if ag then some (.pure (.agg ((cs.drop (i.toNat*size)).take size)))else (match cs[i.toNat*size]? with|some p=>some (.pure p)|none=>none))else none
    |_=>none)
   |_,_=>none
  |none=>match x,K.P.underlying t with
   | .pure (.str l),some .string=>(match l[i.toNat]? with|some b=>some (.pure (.int .u8 b.toNat))|none=>none)
   |_,_=>none
 |_=>none
def fb (q:Nat):GV→Option GV
 | .aA nm off=>some (.aA nm (off+q))
 | .bZ nm es top j off=>some (.bZ nm es top j (off+q))
 | .bF cs=>if q≤cs.length then some (.bF (cs.drop q))else none
 | .fO cs=>if q≤cs.length then some (.fO (cs.drop q))else none
 | .fZ nm es i j off=>some (.fZ nm es i j (off+q))
 |_=>none
def iZ (t:TypeId)(x i:GV):Option GV:=
 match i with
 | .pure (.int _ i)=>
  if i<0 then none else
  match qe K.P t with
  |some (n,e)=>
   match aZ K.P e with
   |some size=>
    if (n:Int)≤i then none else
    fb (i.toNat*size) x
   |none=>none
  |none=>match cU K.P t with
   |some e=>match aZ K.P e with
    |some size=>
     (match x with
     | .ay nm es top lo len=>if es=size∧i<len then some (.bZ nm es top (lo+i.toNat) 0)else none
     | .pure (.slice l)=>(match l[i.toNat]? with|some cs=>if cs.length=size then some (.bF cs)else none|none=>none)
     | .lits l=>(match l[i.toNat]? with|some cs=>if cs.length=size then some (.fO cs)else none|none=>none)
     | .eT nm es q len=>if es=size∧i<len then some (.fZ nm es q i.toNat 0)else none
     |_=>none)
    |none=>none
   |none=>none
 |_=>none
def cv (x:Option GV)(dflt:Nat):Option Nat:=
 match x with
 |none=>some dflt
 |some (.pure (.int _ i))=>if i<0 then none else some i.toNat
 |_=>none
def hZ (t:TypeId)(x:GV)(lo hi mx:Option GV):Option GV:=
 if mx.isSome then
  (match cv lo 0,hi,mx,cU K.P t with
  |some a,some (.pure (.int _ b)),some (.pure (.int _ m)),some e=>
   (match aZ K.P e,x with
   |some _, .aO=>if a=0∧b=0∧m=0 then some .aO else none
   |some _, .pure (.slice _)=>if a=0∧b=0∧m=0 then some .aO else none
   |some es', .ay nm es top l0 len=>
    if a=0∧b=0∧m=0 then some .aO
    else if (a:Int)<b∧b≤m∧m=len∧l0+len=top∧es'=es then some (.ay nm es top (l0+a) (b.toNat-a))else none
   |_,_=>none)
  |_,_,_,_=>none)
 else
 match x with
 | .bF cs=>
  (match lo,hi,qe K.P t with
  |none,none,some (n,e)=>
   (match aZ K.P e with
   |some size=>if 0<size∧0<n∧n*size≤cs.length then some (.pure (.slice (chunks size n cs)))else none
   |none=>none)
  |_,_,_=>none)
 | .pure (.str l)=>
  (match cv lo 0,cv hi l.length,K.P.underlying t with
  |some a,some b,some .string=>if a≤b∧b≤l.length then some (.pure (.str ((l.take b).drop a)))else none
  |_,_,_=>none)
 | .ay nm es top l0 len=>
  (match cv lo 0,cv hi len,cU K.P t with
  |some a,some b,some e=>if a≤b∧(b≤len∨l0+b≤top)∧aZ K.P e=some es then (if a=b∧0<a then some (.pure (.slice []))else some (.ay nm es top (l0+a) (b-a)))else none
  |_,_,_=>none)
 | .pure (.slice l)=>
  (match cv lo 0,cv hi l.length,cU K.P t with
  |some a,some b,some e=>
   if a≤b∧b≤l.length then
    (match aZ K.P e with
    |some es=>if l.all (fun r=>r.length==es)then some (.pure (.slice ((l.take b).drop a)))else none
    |none=>none)
   else none
  |_,_,_=>none)
 | .aO=>(match cv lo 0,cv hi 0,cU K.P t with|some 0,some 0,some e=>if (aZ K.P e).isSome then some (.pure (.slice []))else none|_,_,_=>none)
 |_=>none
def dV (H:ae):List (List GV)→List (List PV)×ae
 | []=>([],H)
 |g::r=>let (p,H1):=bp H g;let (ps,H2):=dV H1 r;(p::ps,H2)
def fA (H:ae):GV→Option (List (List PV)×ae)
 | .aO=>some ([],H)
 | .pure (.slice l)=>some (l,H)
 | .pure (.str l)=>some (l.map fun b=> [.int .u8 b.toNat],H)
 | .lits l=>some (dV H l)
 | .ay nm es top lo len=>match gI H nm es top lo len with| .slice l=>some (l,H)|_=>none
 |_=>none
def o6 (P:Program)(t:TypeId):Option Nat:=match b8 P t with|some z=>(match bm z with|some zs=>some zs.length|none=>none)|none=>none
def dQ (P:Program)(t:Option TypeId):Bool:=
 match t with
 |some t=>(match P.underlying t with|some (.slice _)|some .string=>true|_=>false)
 |none=>false
def l5 (H:ae)(l key:Nat)(t:TypeId)(s x:GV):Option (GV×ae):=
  match cU K.P t with
  |some e=>
    match aZ K.P e,iI K.P e,fA H x with
    |some size,some bytes,some (xs,H)=>
      if decide (o6 K.P e=some size) && xs.all (fun r=>r.length==size) && decide (0<size) && decide (0<bytes) && decide (bytes≤1048576)then
        match s with
        | .aO=>
          if xs.length*bytes≤1099511627776 then
            (if xs.isEmpty then some (.aO,H)else
            match hQ H l key (.arr size xs 0 false)with
            |some (nm,H)=>some (.ay nm size xs.length 0 xs.length,H)
            |none=>none)
          else none
        | .ay nm es top lo len=>
          (match H.get nm with
          |some (.arr es' elems vf ro)=>
            if es'=size∧es=size∧top=elems.length∧lo=0∧len=top∧vf≤top∧ro=false∧(len+xs.length)*bytes≤1099511627776 then
              (if xs.isEmpty then some (.ay nm es top lo len,H)
               else some (.ay nm es (top+xs.length) 0 (top+xs.length),H.set nm (.arr es' (elems++xs) vf false)))
            else if es'=size∧es=size∧top=elems.length∧vf≤top∧ro=false∧lo+len+xs.length≤top then
              (if xs.isEmpty then some (.ay nm es top lo len,H)else some (.ay nm es top lo (len+xs.length),H.set nm (.arr es' (aD elems (lo+len) xs) top false)))
            else none
          |_=>none)
        |_=>none
      else none
    |_,_,_=>none
  |none=>none
def leads (nm:Nm):List GV→Bool
 | []=>false
 | .ay m _ _ _ _::r=>decide (m=nm)||leads nm r
 |_::r=>leads nm r
def uG (H:ae)(bn:Nm)(key es:Nat)(r:List (List PV)):Option (Nat×ae):=
 if H.length≤bn.1 then none else
 match H.get (bn.1,key)with
 |none=>some (0,H.set (bn.1,key) (.nj es [r] 0))
 |some (.nj es' rows n)=>
  (match H.get bn with
  |some (.box cs)=>if es'=es∧leads (bn.1,key) cs=true then some (rows.length,H.set (bn.1,key) (.nj es (rows++[r]) n))else none
  |_=>none)
 |_=>none
def uI (H:ae)(bytes:Nat)(s:GV)(nm:Nm)(es i len:Nat):Option (GV×ae):=
 match H.get nm with
 |some (.nj es' rows n)=>
  if es'=es∧i=n∧n<rows.length∧(rows.getD n []).length=len∧(n+1)*bytes≤1099511627776 then
   match s with
   | .aO=>if n=0 then some (.ay nm 1 1 0 1,H.set nm (.nj es rows 1))else none
   | .ay nm' es1 top lo ln=>if nm'=nm∧es1=1∧top=n∧lo=0∧ln=n then some (.ay nm 1 (n+1) 0 (n+1),H.set nm (.nj es rows (n+1)))else none
   |_=>none
  else none
 |_=>none
def ye (H:ae)(bn:Nm)(key size bytes:Nat)(s x:GV):Option (GV×ae):=
 match s,fA H x with
 | .aO,some (xs,H)=>
  if xs.all (fun r=>r.length==size) && !xs.isEmpty && decide (xs.length*bytes≤1099511627776)then
   (match uG H bn key size xs with|some (i,H)=>some (.eT (bn.1,key) size i xs.length,H)|none=>none)
  else none
 |_,_=>none
def yg:GV→Option (Nm×Nat×Nat×Nat)
 | .lits [[.eT nm es i len]]=>some (nm,es,i,len)
 |_=>none
def kZ (H:ae)(bn:Nm)(key:Nat)(t:TypeId)(s x:GV):Option (GV×ae):=
 match cU K.P t with
 |some e=>
  match aZ K.P e,iI K.P e with
  |some size,some bytes=>
   if decide (o6 K.P e=some size) && decide (0<size) && decide (0<bytes) && decide (bytes≤1048576)then
    match yg x with
    |some (nm,es,i,len)=>if size=1 then uI H bytes s nm es i len else none
    |none=>ye H bn key size bytes s x
   else none
  |_,_=>none
 |none=>none
def iJ (H:ae)(l0:Nat):GV→Option (GV×ae)
 | .agg l=>let (l',H1):=cK H l0 l;some (cO l',H1)
 | .tuple _| .lits _=>none
 |g=>let (g',H1):=dx H l0 g;some (g',H1)
def gg:List PV→List PV→Option Bool
 | [],[]=>some true
 | .int k x::a, .int k' y::b=>if k=k' then (match gg a b with|some q=>some (x==y && q)|none=>none)else none
 | .bool x::a, .bool y::b=>(match gg a b with|some q=>some (x==y && q)|none=>none)
 | .str x::a, .str y::b=>(match gg a b with|some q=>some (x==y && q)|none=>none)
 |_,_=>none
def kR:PV→PV→Option Bool
 | .int k a, .int k' b=>if k=k' then some (a==b)else none
 | .str a, .str b=>some (a==b)
 | .bool a, .bool b=>some (a==b)
 | .agg a, .agg b=>gg a b
 |_,_=>none
def b9 (k:PV):List (PV×GV)→Nat→Option (Option (Nat×GV))
 | [],_=>some none
 |(k',v)::r,i=>match kR k k' with|some true=>some (some (i,v))|some false=>b9 k r (i+1)|none=>none
def sG (P:Program)(t:TypeId):Option (TypeId×TypeId):=match P.underlying t with|some (.map k e)=>some (k,e)|_=>none
def uC (P:Program)(t:TypeId)(k:PV):Bool:=
 match P.underlying t,k with
 |some (.int k), .int k' _=>decide (k'=k)
 |some .string, .str _=>true
 |some .bool, .bool _=>true
 |_,_=>false
def fI:List SK→List PV→Bool
 | [],[]=>true
 | .int k::ks, .int k' _::a=>decide (k'=k) && fI ks a
 | .bool::ks, .bool _::a=>fI ks a
 | .str::ks, .str _::a=>fI ks a
 |_,_=>false
def gb (t:TypeId)(k:PV):Bool:=
 uC K.P t k||(match K.eqs t,k,K.P.underlying t with|some ks, .agg l,some _=>fI ks l|_,_,_=>false)
def mapOf (H:ae):GV→Option (List (PV×GV))
 | .pure .lR=>some []
 | .map nm=>(match H.get nm with|some (.map es)=>some es|_=>none)
 |_=>none
def nq (t:TypeId)(H:ae)(x k:GV)(ok:Bool):Option GV:=
 match sG K.P t,k,mapOf H x with
 |some (kt,e), .pure k,some es=>
  if gb K kt k=false then none else
  match b9 k es 0 with
  |some (some (_,v))=>some (if ok then mkTuple [v, .pure (.bool true)]else v)
  |some none=>(match b8 K.P e with|some z=>some (if ok then mkTuple [z, .pure (.bool false)]else z)|none=>none)
  |none=>none
 |_,_,_=>none
def gA (t:TypeId)(H:ae)(m k v:GV):Option ae:=
 match sG K.P t,m,k with
 |some (kt,_), .map nm, .pure k=>
  match iJ H nm.1 v with
  |some (v',H1)=>
   match H1.get nm with
   |some (.map es)=>
    if gb K kt k=false then none else
    match b9 k es 0 with
    |some (some (i,_))=>some (H1.set nm (.map (es.set i (k,v'))))
    |some none=>some (H1.set nm (.map (es++[(k,v')])))
    |none=>none
   |_=>none
  |none=>none
 |_,_,_=>none
def oy (t:TypeId)(H:ae)(x:GV):Option ae:=
 match cU K.P t with
 |some e=>
  match aZ K.P e,b8 K.P e,x with
  |some size,some z, .ay nm es top lo len=>
   (match bm z,H.get nm with
   |some zs,some (.arr es' elems vf ro)=>
    (match bd (zs.map cb)with
    |some ps=>if es'=size∧es=size∧ps.length=size∧top=elems.length∧vf≤top∧ro=false∧lo+len≤top∧0<len then some (H.set nm (.arr es' (aD elems lo (List.replicate len ps)) top false))else none
    |none=>none)
   |_,_=>none)
  |_,_,_=>none
 |none=>none
def kj (mx:Bool):List GV→Option GV
 | []=>none
 | [.pure (.int k a)]=>some (.pure (.int k a))
 | .pure (.int k a):: .pure (.int k' b)::r=>if k=k' then kj mx (.pure (.int k (if mx then (if a<b then b else a)else (if b<a then b else a)))::r)else none
 |_=>none
termination_by l=>l.length
def oz (f:FuncId)(first cap:List GV):GV:=if first.isEmpty && cap.isEmpty then .pure (.fn f)else .func f first cap
def dw (fn:FuncId)(o:Oper)(s:aS)(H:ae):Option (GV×ae):=
 match o.op with
 | .move x| .assign x=>some (ev s x,H)
 | .pick c a b=>match ev s c with| .pure (.bool t)=>some (if t then ev s a else ev s b,H)|_=>none
 | .alloc t=>
  match o.dst,b8 K.P t with
  |some d,some z=>(match bm z with|some cs=>(match fK H d (.box cs)with|some (nm,H)=>some (.aA nm 0,H)|none=>none)|none=>none)
  |_,_=>none
 | .box _ x=>
  match o.dst,bm (ev s x)with
  |some d,some cs=>(match fK H d (.box cs)with|some (nm,H)=>some (.aA nm 0,H)|none=>none)
  |_,_=>none
 | .build t parts=>
  match b8 K.P t with
  |some z=>
   match bm z with
   |some zs=>
    let ps:=parts.toList.map (qo s)
    let r:=match qe K.P t with
     |some (_,e)=>(match aZ K.P e with|some size=>db (fun i=>some (i*size,size)) zs ps|none=>none)
     |none=>(match eI K.P t with|some l=>db (fun i=>l[i]?) zs ps|none=>none)
    (match r with|some cs=>some (cO cs,H)|none=>none)
   |none=>none
  |none=>none
 | .buildSlice t len parts=>
  match cU K.P t with
  |some e=>
   match aZ K.P e,b8 K.P e with
   |some size,some z=>
    match bm z with
    |some zs=>
     if zs.length=size∧0<size∧len*size≤16777216 then
      match db (fun i=>some (i*size,size)) (List.replicate len zs).flatten (parts.toList.map (qo s))with
      |some cs=>
       if len=0 then some (.aO,H)else
       let rows:=chunks size len cs
       (match bd (cs.map cb)with
       |some ps=>
        (match o.dst with
        |some d=>if K.own fn d then (match fK H d (.arr size (chunks size len ps) 0 false)with|some (nm,H)=>some (.ay nm size len 0 len,H)|none=>none)else some (.pure (.slice (chunks size len ps)),H)
        |none=>none)
       |none=>
        (match o.dst with
        |some d=>if K.own fn d then (match fK (bp H cs).2 d (.arr size (chunks size len (bp H cs).1) 0 false)with|some (nm,H)=>some (.ay nm size len 0 len,H)|none=>none)else some (.lits rows,H)
        |none=>some (.lits rows,H)))
      |none=>none
     else none
    |none=>none
   |_,_=>none
  |none=>none
 | .load t a=>match ig K.P t H (ev s a)with|some v=>some (v,H)|none=>none
 | .store t a x=>match lP K.P t H (ev s a) (ev s x)with|some H=>some (aG,H)|none=>none
 | .nilCheck x=>
  match ev s x with
  | .aA nm off=>some (.aA nm off,H)
  | .bZ nm es top i off=>some (.bZ nm es top i off,H)
  | .bF cs=>some (.bF cs,H)
  | .fO cs=>some (.fO cs,H)
  | .func f first cap=>some (.func f first cap,H)
  | .pure (.fn f)=>some (.pure (.fn f),H)
  | .yield nm=>some (.yield nm,H)
  |_=>none
 | .binOp op t x y _=>match zo K op t s x y with|some p=>some (.pure p,H)|none=>none
 | .unOp op _ x=>
  match op,ev s x with
  | .not, .pure (.bool b)=>some (.pure (.bool (!b)),H)
  | .neg, .pure (.int k n)=>some (.pure (.int k (k.wrap (-n))),H)
  |_,_=>none
 | .convert src dst x=>
  match K.P.underlying src,K.P.underlying dst,ev s x with
  |some _,some (.int k), .pure (.int _ n)=>some (.pure (.int k (k.wrap n)),H)
  |some _,some .string, .pure (.str l)=>some (.pure (.str l),H)
  |_,_,_=>none
 | .makeFunc (.func f) first cap=>some (oz f (first.toList.map (ev s)) (cap.toList.map (ev s)),H)
 | .makeMap _ none=>match o.dst with|some d=>(match fK H d (.map [])with|some (nm,H)=>some (.map nm,H)|none=>none)|none=>none
 | .makeSlice t l c=>
  match cU K.P t with
  |some e=>
   match aZ K.P e,iI K.P e,b8 K.P e,ev s l,ev s c,o.dst with
   |some size,some bytes,some z, .pure (.int _ l), .pure (.int _ c),some d=>
    match bm z with
    |some zs=>
     (match bd (zs.map cb)with
     |some ps=>
      if ps.length=size∧0<size∧0<bytes∧0≤l∧l≤c∧c*bytes≤1099511627776 then
       (match fK H d (.arr size (List.replicate l.toNat ps) 0 false)with|some (nm,H)=>some (.ay nm size l.toNat 0 l.toNat,H)|none=>none)
      else none
     |none=>none)
    |none=>none
   |_,_,_,_,_,_=>none
  |none=>none
 | .slice t x lo hi mx=>match hZ K t (ev s x) (lo.map (ev s)) (hi.map (ev s)) (mx.map (ev s))with|some v=>some (v,H)|none=>none
 | .fieldAddr st x f=>
  match jH K.P st f with
  |some (off,ft)=>
   match aZ K.P ft with
   |some size=>
    if size=0 then none else
    (match fb off (ev s x)with|some v=>some (v,H)|none=>none)
   |none=>none
  |none=>none
 | .field t x f=>
  match jH K.P t f with
  |some (off,ft)=>
   match dC K.P ft,aZ K.P ft,ev s x with
   |some ag,some size, .agg cs=>if off+size≤cs.length then (if ag then some (cO ((cs.drop off).take size),H)else (match cs[off]? with|some v=>some (v,H)|none=>none))else none
   |some ag,some size, .pure (.agg cs)=>if off+size≤cs.length then (if ag then some (.pure (.agg ((cs.drop off).take size)),H)else (match cs[off]? with|some v=>some (.pure v,H)|none=>none))else none
   |_,_,_=>none
  |none=>none
 | .indexAddr t x i=>match iZ K t (ev s x) (ev s i)with|some v=>some (v,H)|none=>none
 | .index t x i=>match ym K (ev s x) (ev s i) t with|some v=>some (v,H)|none=>none
 | .lookup t x k ok=>match nq K t H (ev s x) (ev s k) ok with|some v=>some (v,H)|none=>none
 | .mapUpdate t m k v=>match gA K t H (ev s m) (ev s k) (ev s v)with|some H=>some (aG,H)|none=>none
 | .insert t m k v=>match gA K t H (ev s m) (ev s k) (ev s v)with|some H=>some (aG,H)|none=>none
 | .extract t ix=>
  match ev s t with
  | .tuple l=>(match l[ix]? with|some v=>some (v,H)|none=>none)
  | .pure (.tuple l)=>(match l[ix]? with|some v=>some (.pure v,H)|none=>none)
  |_=>none
 | .call c=>
  match c.callee with
  | .builtin .len=>(match c.argTypes[0]?,c.args[0]? with|some t,some x=>(match ya K t H (ev s x)with|some n=>some (.pure (.int .i64 n),H)|none=>none)|_,_=>none)
  | .builtin .append=>(match c.argTypes[0]?,c.args[0]?,c.args[1]?,o.dst with|some t,some x,some y,some d=>if dQ K.P c.argTypes[1]? then (match K.row fn d with|none=>(match gH H s (K.up fn d)with|some l=>l5 K H l d t (ev s x) (ev s y)|none=>none)|some key=>(match mB s (K.up fn d)with|some bn=>kZ K H bn key t (ev s x) (ev s y)|none=>none))else none|_,_,_,_=>none)
  | .builtin .clear=>(match c.argTypes[0]?,c.args[0]? with|some t,some x=>(match oy K t H (ev s x)with|some H=>some (.pure (.tuple []),H)|none=>none)|_,_=>none)
  | .builtin .min=>(match kj false (c.args.toList.map (ev s))with|some v=>some (v,H)|none=>none)
  | .builtin .max=>(match kj true (c.args.toList.map (ev s))with|some v=>some (v,H)|none=>none)
  |_=>none
 |_=>none
def eP (o:Oper):Option (Operand×List Operand):=
 match o.op with
 | .call {callee:= .value f,args, ..}=>some (f,args.toList)
 |_=>none
abbrev Rec:=FuncId→Code→bE→Option (GX×bE)
def slotsOf:Nat→List GV→aS
 |_,[]=> []
 |i,v::r=>(i,v)::slotsOf (i+1) r
def dB (fn:Func)(st:bE):Option (List GV):=
 fn.results.toList.mapM fun
  | .tmp t=>some (look st.s t)
  | .cell a t=>ig K.P t st.h (look st.s a)
def fy (L:Nat):GV→List Nat
 | .aA nm _| .ay nm _ _ _ _| .bZ nm _ _ _ _| .map nm=>if nm.1=L then [nm.2]else []
 |_=> []
def ij (L:Nat):GV→List Nat
 | .agg l=>l.flatMap (fy L)
 | .func _ first cap=>first.flatMap (fy L)++cap.flatMap (fy L)
 |g=>fy L g
def refs (L:Nat):GV→List Nat
 | .tuple l=>l.flatMap (ij L)
 |g=>ij L g
def ju (fr:Fr)(L:Nat):GV→List Nat
 | .ay nm _ _ _ _=>if nm.1=L then (match fr.get nm.2 with|some (.nj ..)=> [nm.2]|_=> [])else []
 |_=> []
def js (fr:Fr)(L k:Nat):List Nat:=match fr.get k with|some (.box cs)=>cs.flatMap (ju fr L)|_=> []
def ez (fr:Fr)(L:Nat)(ks:List Nat):List Nat:=ks++ks.flatMap (js fr L)
def aq (c k:Nat):Nat:=k*4096+(c+1)
def jD (L c:Nat):GV→GV
 | .aA nm off=>if nm.1=L then .aA (L-1,aq c nm.2) off else .aA nm off
 | .ay nm es top lo len=>if nm.1=L then .ay (L-1,aq c nm.2) es top lo len else .ay nm es top lo len
 | .bZ nm es top i off=>if nm.1=L then .bZ (L-1,aq c nm.2) es top i off else .bZ nm es top i off
 | .map nm=>if nm.1=L then .map (L-1,aq c nm.2)else .map nm
 | .yield nm=>if nm.1=L then aG else .yield nm
 | .pure p=> .pure p
 | .bF cs=> .bF cs
 | .aO=> .aO
 |_=>aG
def qh (L c:Nat):GV→GV
 | .agg l=>cO (l.map (jD L c))
 | .func f first cap=> .func f (first.map (jD L c)) (cap.map (jD L c))
 |g=>jD L c g
def Ew (L c:Nat):GV→GV
 | .tuple l=>mkTuple (l.map (qh L c))
 |g=>qh L c g
def R7 (fr:Fr)(k:Nat):Bool:=match fr.get k with|some (.nj ..)=>true|_=>false
def BJ (c:Nat)(fr:Fr)(H:ae)(ks:List Nat)(l0:Nat):GV→GV
 | .ay nm es top lo len=>
  if nm.1=H.length∧nm.2∉ks then .pure (fG (fr::H) nm es top lo len)
  else if nm.1=H.length∧R7 fr nm.2=true then .ay (H.length-1,aq c nm.2) es top lo len
  else cH [] l0 (.ay nm es top lo len)
 |g=>cH [] l0 g
def dg (cl:GV→GV)(H:ae)(l0:Nat):dW→Option dW
 | .box cs=>some (.box (cs.map cl))
 | .arr es elems vf ro=>some (.arr es elems vf ro)
 | .map es=>some (.map (es.map fun e=>(e.1,fN H l0 e.2)))
 | .nj es rows n=>some (.nj es rows n)
 |_=>none
def eJ (cl:GV→GV)(f:Fr)(H:ae)(c:Nat):List Nat→ae→Option ae
 | [],H'=>some H'
 |k::r,H'=>
  match f.get k with
  |some b=>
   match dg cl [] (H.length-1) b,ae.get H' (H.length-1,aq c k)with
   |some b',none=>eJ cl f H c r (ae.set H' (H.length-1,aq c k) b')
   |_,_=>none
  |none=>none
def dedup:List Nat→List Nat
 | []=> []
 |k::r=>if r.contains k then dedup r else k::dedup r
def fB (f:FuncId)(c:Nat)(r:GV):ae→Option (GV×ae)
 | []=>none
 |fr::H=>
  if K.B0 f then
   match eJ (BJ c fr H (dedup (ez fr H.length (refs H.length r))) (H.length-1)) fr H c (dedup (ez fr H.length (refs H.length r))) H with
   |some H'=>some (Ew H.length c r,H')
   |none=>none
  else some (canon (clean (fr::H) (H.length-1) r),H)
def bG (rec:Rec)(f:FuncId)(args:List GV)(c:Nat)(H:ae):Option (GV×ae):=
 match K.P.funcs[f]? with
 |none=>none
 |some fn=>
  match fn.body with
  |none=>none
  |some code=>
   if fn.name== "runtime.NumGoroutine" ||decide (fn.ntmps<args.length)||decide (H.length=0)then none else
   match rec f code ⟨slotsOf 0 (args.map canon),[]::H,fn.ntmps⟩with
   |some (.exit _,_)=>none
   |some (_,st)=>
    (match dB K fn st with
    |some rs=>(match rs with
     | [r]=>fB K f c r st.h
     |rs=>fB K f c (mkTuple rs) st.h)
    |none=>none)
   |none=>none
def dp (H:ae):GV→GV×ae
 | .ay nm es top lo len=>let (p,H1):=df H (.ay nm es top lo len);(.pure p,H1)
 |g=>(g,H)
def eZ (H:ae):List GV→List GV×ae
 | []=>([],H)
 |g::r=>let (p,H1):=dp H g;let (ps,H2):=eZ H1 r;(p::ps,H2)
def cZ (H:ae):GV→GV×ae
 | .agg l=>let (l',H1):=eZ H l;(cO l',H1)
 |g=>dp H g
def br (H:ae):List GV→List GV×ae
 | []=>([],H)
 |g::r=>let (p,H1):=cZ H g;let (ps,H2):=br H1 r;(p::ps,H2)
mutual
def iL:PV→Bool
 | .slice l=>l.isEmpty
 | .agg l=>oL l
 | .tuple l=>oL l
 | .iface _ v=>iL v
 |_=>true
def oL:List PV→Bool
 | []=>true
 |p::r=>iL p && oL r
end
def zw:GV→Bool
 | .pure p=>iL p
 | .aO=>true
 |_=>false
def oM:List GV→Bool
 | []=>true
 |g::r=>zw g && oM r
def mS:List GV→Option (Option Nm)
 | []=>some none
 |g::r=>
  match mS r with
  |none=>none
  |some q=>
   match g with
   | .pure _| .aO=>some q
   | .func _ a c=>if (bd a).isSome && (bd c).isSome then some q else none
   | .aA nm _=>(match q with|none=>some (some nm)|some nm'=>if nm=nm' then some q else none)
   |_=>none
def m8 (H:ae):ae:=H.map fun _=> []
def lS:List (List PV)→Bool
 | []=>true
 |r::l=>oL r && lS l
def nW (L:Nat):GV→Bool
 | .pure p=>iL p
 | .aO=>true
 | .ay nm _ _ _ _=>decide (nm.1=L)
 |_=>false
def zx (L:Nat):List GV→Bool
 | []=>true
 |g::r=>nW L g && zx L r
def pJ (L:Nat):GV→Bool
 | .agg l=>zx L l
 |g=>nW L g
def uT (L:Nat):List GV→Bool
 | []=>true
 |g::r=>pJ L g && uT L r
def wJ (L:Nat):GV→Bool
 | .tuple l=>uT L l
 |g=>pJ L g
def mh (H0:ae)(L:Nat):List Nat→ae→Option ae
 | [],H=>some H
 |k::r,H=>
  match H0.get (L,k),H.get (L,k)with
  |some (.arr es rows vf false),none=>if lS rows then mh H0 L r (H.set (L,k) (.arr es rows vf false))else none
  |_,_=>none
def mj (H0:ae)(v:GV)(H:ae):Option (GV×ae):=
 if wJ (H.length-1) v then
  match mh H0 (H.length-1) (dedup (refs (H.length-1) v)) H with
  |some H'=>some (v,H')
  |none=>none
 else none
def gL (rec:Rec)(f:FuncId)(args:List GV)(c:Nat)(H:ae):Option (GV×ae):=
 match mS args with
 |none=>none
 |some none=>
  (match bG K rec f args c (m8 H)with
  |some (v,H0)=>mj H0 v H
  |none=>none)
 |some (some nm)=>
  match H.get nm with
  |some (.box cs)=>
   if oM cs=false then none else
   (match bG K rec f args c ((m8 H).set nm (.box cs))with
   |some (v,H0)=>
    (match H0.get nm with
    |some (.box cs')=>if oM cs' then mj H0 v (H.set nm (.box cs'))else none
    |_=>none)
   |none=>none)
  |_=>none
def jN:List GV→Bool
 | [.aO]=>true
 | [.pure (.slice [])]=>true
 |_=>false
def aK (rec:Rec)(f:FuncId)(args:List GV)(c:Nat)(H:ae):Option (GV×ae):=
 if K.vw f && jN args then some (.aO,H)
 else if K.vF f then gL K rec f ((br H args).1.map canon) c H
 else if K.BH f then bG K rec f (br H args).1 c (br H args).2 else bG K rec f args c H
def fj:aS→Nat→List Tmp→List GV→Option aS
 |s,_,[],[]=>some s
 |s,nt,t::ts,v::vs=>if t<nt then fj ((t,v)::s) nt ts vs else none
 |_,_,_,_=>none
def ground (rec:Rec)(nm:Nm)(args:List GV)(H:ae):Option (GV×ae):=
 match H.get nm with
 |some (.loop l)=>
  if l.state= .ready then
   match fj l.c8 l.nt l.params (args.map canon)with
   |some s=>
    match rec l.fn l.assign ⟨s,[]::H,l.nt⟩with
    |some (.normal,st)=>
     match st.h with
     |fr::H1=>
      (match ae.get H1 nm with
      |some (.loop l1)=>
       if l1.state≠ .ready then none else
       match rec l.fn l.body ⟨st.s,fr::ae.set H1 nm (.loop {l1 with state:= .busy}),l.nt⟩with
       |some (e,st')=>
        (match st'.h with
        |_::H2=>
         (match ae.get H2 nm with
         |some (.loop l2)=>
          (match e with
          | .normal=>some (.pure (.bool true),ae.set H2 nm (.loop {l2 with state:= .ready,pending:=none}))
          |e=>some (.pure (.bool false),ae.set H2 nm (.loop {l2 with state:= .done,pending:=some e})))
         |_=>none)
        | []=>none)
       |none=>none
      |_=>none)
     | []=>none
    |_=>none
   |none=>none
  else none
 |_=>none
def j8 (rec:Rec)(f:GV)(args:List GV)(c:Nat)(H:ae):Option (GV×ae):=
 match f with
 | .pure (.fn f)=>aK K rec f args c H
 | .func f first cap=>aK K rec f (first++args++cap) c H
 |_=>none
def cV (rec:Rec)(f:GV)(args:List GV)(c:Nat)(H:ae):Option (GV×ae):=
 match f with
 | .yield nm=>ground rec nm args H
 |f=>j8 K rec f args c H
def cR (ops:List Oper)(s:aS)(o:Oper):Option Bool:=
 match o.guard with
 |none=>some true
 |some (j,want)=>
  match ops[j]? with
  |some oj=>(match oj.dst with
   |some d=>(match look s d with| .pure (.bool b)=>some (b==want)| .pure (.tuple [])=>some false|_=>none)
   |none=>none)
  |none=>none
def Fr.del (q:Nat):Fr→Fr
 | []=> []
 |(k,b)::r=>if q=k then Fr.del q r else (k,b)::Fr.del q r
def ic:List Nat→Fr→Fr
 | [],f=>f
 |q::r,f=>ic r (f.del q)
mutual
def fe (nm:Nm):GV→Bool
 | .aA n _| .bZ n _ _ _ _| .ay n _ _ _ _| .yield n| .map n| .eT n _ _ _| .fZ n _ _ _ _=>decide (n≠nm)
 | .lits l=>qz nm l
 | .fO l=>gj nm l
 | .agg l=>gj nm l
 | .tuple l=>gj nm l
 | .func _ a c=>gj nm a && gj nm c
 | .pure _| .bF _| .aO=>true
def gj (nm:Nm):List GV→Bool
 | []=>true
 |g::r=>fe nm g && gj nm r
def qz (nm:Nm):List (List GV)→Bool
 | []=>true
 |g::r=>gj nm g && qz nm r
end
def uX (nm:Nm):List (PV×GV)→Bool
 | []=>true
 |e::r=>fe nm e.2 && uX nm r
def rf (nm:Nm):dW→Bool
 | .box cs=>gj nm cs
 | .arr .. =>true
 | .nj .. =>true
 | .map es=>uX nm es
 | .loop _=>false
def kF (nm:Nm):Fr→Bool
 | []=>true
 |x::r=>rf nm x.2 && kF nm r
def oN (nm:Nm):aS→Bool
 | []=>true
 |x::r=>fe nm x.2 && oN nm r
def cN (j k:Nat):Nat:=(j+1)*1000000000000+k
def mI (L l j:Nat):GV→Option GV
 | .ay nm es top lo len=>if nm.1=L then some (.ay (l,cN j nm.2) es top lo len)else some (.ay nm es top lo len)
 | .pure p=>some (.pure p)
 | .aO=>some .aO
 |_=>none
def wL (L l j:Nat):List GV→Option (List GV)
 | []=>some []
 |g::r=>match mI L l j g,wL L l j r with|some g,some r=>some (g::r)|_,_=>none
def wM (L l j:Nat):GV→Option GV
 | .agg cs=>(match wL L l j cs with|some cs=>some (.agg cs)|none=>none)
 |g=>mI L l j g
def mm (H:ae)(l j:Nat):List Nat→Bool
 | []=>true
 |k::r=>(H.get (l,cN j k)).isNone && mm H l j r
def rQ (H:ae)(L:Nat)(f0:Fr):List Nat→Bool
 | []=>true
 |k::r=>(H.get (L,k)).isNone && kF (L,k) f0 && rQ H L f0 r
def rR (f0:Fr)(l j:Nat):List Nat→ae→Option ae
 | [],H=>some H
 |k::r,H=>match f0.get k with|some (.arr es elems vf ro)=>rR f0 l j r (H.set (l,cN j k) (.arr es elems vf ro))|_=>none
def zy (H0:ae)(b:GV)(x:GV×ae):Option (GV×ae):=
 match b,x.2 with
 | .aA nm _,f0::Hr=>
  let names:=dedup (refs Hr.length x.1)
  let j:=if mm x.2 nm.1 0 names then 0 else 1
  if decide (nm.1<Hr.length) && decide (H0.length=Hr.length+1) && rQ H0 Hr.length f0 names && mm x.2 nm.1 j names then
   (match wM Hr.length nm.1 j x.1,rR f0 nm.1 j names (ic names f0::Hr)with
   |some v,some H=>some (v,H)
   |_,_=>none)
  else none
 |_,_=>none
def nX (H0:ae)(b:GV)(key:Nat)(x:GV×ae):Option (GV×ae):=
 match b,x.1,x.2 with
 | .aA nm _, .ay nm2 es top lo len,f0::Hr=>
  if decide (nm2.1=Hr.length) && decide (nm.1<Hr.length) && decide (H0.length=Hr.length+1) && rQ H0 Hr.length f0 [nm2.2]then
   match f0.get nm2.2 with
   |some (.arr es' elems vf false)=>
    if es'=es∧vf≤top∧top=elems.length∧lo=0∧len=top∧0<top then
     (match uG (ic [nm2.2] f0::Hr) nm key es elems with|some (i,H)=>some (.eT (nm.1,key) es i top,H)|none=>none)
    else none
   |_=>none
  else none
 |_,_,_=>none
def cf (rec:Rec)(fn:FuncId)(o:Oper)(s:aS)(H:ae):Option (GV×ae):=
 match eP o with
 |some (f,args)=>
  (match K.lift fn (o.dst.getD 0)with
  |none=>cV K rec (ev s f) (args.map (ev s)) (o.dst.getD 0) H
  |some t=>(match cV K rec (ev s f) (args.map (ev s)) (o.dst.getD 0) H with|some x=>(match K.row fn (o.dst.getD 0)with|none=>zy H (look s t) x|some key=>nX H (look s t) key x)|none=>none))
 |none=>dw K fn o s H
def nb (rec:Rec)(fn:FuncId)(all:List Oper):List Oper→bE→Option bE
 | [],st=>some st
 |o::r,st=>
  match cR all st.s o with
  |some false=>(match st.put o.dst jG with|some st=>nb rec fn all r st|none=>none)
  |some true=>
   (match cf K rec fn o st.s st.h with
   |some (v,H)=>(match bE.put {st with h:=H} o.dst v with|some st=>nb rec fn all r st|none=>none)
   |none=>none)
  |none=>none
def aL:Code→Nat
 | .region id _ _=>id+1
 | .seq a b=>if aL a=0 then aL b else aL a
 | .cond _ a b=>if aL a=0 then aL b else aL a
 | .block _ a=>aL a
 | .loop a=>aL a+100000
 | .scope a=>aL a
 | .rangeFunc _ _ a b=>if aL a=0 then aL b else aL a
 |_=>0
def bu (s:aS):List Nat→aS
 | []=> []
 |t::r=>(t,look s t)::bu s r
def bV (H:ae)(l0:Nat):aS→aS
 | []=> []
 |(t,v)::r=>(t,clean H l0 v)::bV H l0 r
def jQ (ks:Option (List Nat))(s:aS):aS:=match ks with|some l=>bu s l|none=>s
def ku (ks:Option (List Nat))(st:bE):Option bE:=
 match st.h with
 |fr::H=>
  if H.length=0 then none else
  some {s:=bV (fr::H) (H.length-1) (jQ ks st.s),h:=H,nt:=st.nt}
 | []=>none
def Co (k:Nat):Bool:=decide (1000000000000≤k)
def ja (L:Nat)(s:aS)(fr:Fr):Fr→List Nat
 | []=> []
 |x::r=>if Co x.1 && oN (L,x.1) s && kF (L,x.1) fr then x.1::ja L s fr r else ja L s fr r
def LW (st:bE):Option bE:=
 match st.h with
 |fr::H=>if H.length=0 then none else some {st with h:=ic (ja H.length st.s fr fr) fr::H}
 | []=>none
def tJ (fn:FuncId)(c:Code)(st:bE):Option bE:=
 if K.iu fn (aL c)then
  match ku ((K.ir fn (aL c)).map (·.1)) st with
  |some st=>LW st
  |none=>none
 else ku none st
def b7 (o:Oper):Bool:=
 match o.op,o.dst,o.guard with
 | .alloc _,some _,none=>true
 |_,_,_=>false
def bN (fn:FuncId)(o:Oper):Bool:=
 match o.op with
 | .move _| .assign _| .pick .. | .build .. | .load .. | .nilCheck _| .binOp .. | .unOp .. | .convert .. | .makeFunc .. | .slice .. | .fieldAddr .. | .field .. | .indexAddr .. | .index .. | .lookup .. | .extract .. =>true
 | .buildSlice .. =>(match o.dst with|some d=> !K.own fn d|none=>true)
 | .call {callee:= .builtin .len, ..}| .call {callee:= .builtin .min, ..}| .call {callee:= .builtin .max, ..}=>true
 |_=>false
def AX (o:Oper):Bool:=
 match o.op with
 | .load .. | .lookup .. =>true
 | .call {callee:= .builtin .len, ..}=>true
 |_=>false
def tmpsOf (l:List Operand):List Nat:=l.filterMap fun| .tmp t=>some t|_=>none
def gy (fn:FuncId)(o:Oper):List Nat:=
 tmpsOf o.op.operands.toList++(match o.dst with|some d=>(match K.up fn d with| .box t=> [t]|_=> [])|none=> [])++(match K.lift fn (o.dst.getD 0)with|some t=> [t]|none=> [])
def jS (all:List Oper)(o:Oper):List Nat:=
 match o.guard with|some (j,_)=>(match all[j]? with|some oj=>oj.dst.toList|none=> [])|none=> []
def nd:List Nat→Bool
 | []=>true
 |x::r=> !r.contains x && nd r
def tQ (fn:FuncId)(all:List Oper)(pre:Array Nat)(oj:Oper)(j:Nat)(oi:Oper)(i:Nat):Bool:=
 (match oi.dst with
 |none=>true
 |some d=>
  (!((gy K fn oj).contains d||(jS all oj).contains d)||i==j||(decide (i<j) && (pre.getD j 0).testBit i)||(decide (j<i) && (pre.getD i 0).testBit j)) &&
  (!b7 oi||(!(jS all oj).contains d && (!(gy K fn oj).contains d||(!bN K fn oj && !b7 oj))))) &&
 (!b7 oi||bN K fn oj||b7 oj||decide (j≤i)||(pre.getD j 0).testBit i)
def u0 (fn:FuncId)(all:List Oper)(pre:Array Nat):Bool:=
 nd (all.filterMap (·.dst)) &&
 all.zipIdx.all fun(oj,j)=>oj.after.all (fun e=> !Region.binds .any e||decide (e.on<j)) && all.zipIdx.all fun(oi,i)=>tQ K fn all pre oj j oi i
def sameAt (fn:FuncId)(o:Oper)(s:aS)(v:GV)(H:ae):Bool:=match dw K fn o s H with|some (v',_)=>GV.beq v' v|none=>false
structure yv where
 i:Nat
 o:Oper
 s:aS
 v:GV
def ff (rec:Rec)(fn:FuncId)(all:List Oper)(pre:Array Nat):Nat→List Oper→List (Nat×ae)→List yv→ae→bE→Option bE
 |_,[],_,_,_,st=>some st
 |i,o::r,wl,rl,hb,st=>
  match cR all st.s o with
  |some false=>(match st.put o.dst jG with|some st=>ff rec fn all pre (i+1) r wl rl hb st|none=>none)
  |some true=>
   if bN K fn o then
    (match dw K fn o st.s hb with
    |some (v,_)=>
     (match st.put o.dst v with
     |some st'=>
      if AX o then
       (if wl.all (fun x=>(pre.getD i 0).testBit x.1||sameAt K fn o st.s v x.2)then ff rec fn all pre (i+1) r wl (⟨i,o,st.s,v⟩::rl) hb st' else none)
      else ff rec fn all pre (i+1) r wl rl hb st'
     |none=>none)
    |none=>none)
   else
    (match cf K rec fn o st.s st.h with
    |some (v,H)=>
     (match bE.put {st with h:=H} o.dst v with
     |some st'=>
      if b7 o then ff rec fn all pre (i+1) r wl rl hb st'
      else if wl.all (fun x=>(pre.getD i 0).testBit x.1) && rl.all (fun q=>(pre.getD i 0).testBit q.i||sameAt K fn q.o q.s q.v H)then
       ff rec fn all pre (i+1) r ((i,hb)::wl) rl H st'
      else none
     |none=>none)
    |none=>none)
  |none=>none
def cr (rec:Rec)(fn:FuncId)(c:Code)(st:bE):Option (GX×bE):=
 match c with
 | .skip| .label _=>some (.normal,st)
 | .region _ ops false=>(match nb K rec fn ops.toList ops.toList st with|some st=>some (.normal,st)|none=>none)
 | .region _ ops true=>
  if u0 K fn ops.toList (Region.before ops)then
   (match ff K rec fn ops.toList (Region.before ops) 0 ops.toList [] [] st.h st with|some st=>some (.normal,st)|none=>none)
  else none
 | .seq a b=>(match rec fn a st with|some (.normal,st)=>rec fn b st|r=>r)
 | .cond c x y=>(match ev st.s c with| .pure (.bool b)=>if b then rec fn x st else rec fn y st|_=>none)
 | .block id c=>(match rec fn c st with|some (.exit id',st)=>if id'=id then some (.normal,st)else some (.exit id',st)|r=>r)
 | .loop c=>
  let an:=K.ir fn (aL c)
  (match rec fn c {st with s:=jQ (an.map (·.1)) st.s,h:=[]::st.h}with
  |some (.normal,st)=>(match tJ K fn c st with|some st=>rec fn (.loop c) st|none=>none)
  |some (e,st)=>(match ku (an.map (·.2)) st with|some st=>some (e,st)|none=>none)
  |none=>none)
 | .scope c=>rec fn c st
 | .exit id=>some (.exit id,st)
 | .ret=>some (.ret,st)
 | .rangeFunc f ps assign body=>
  let key:=10000000+aL body
  (match fK st.h key (.loop {c8:=st.s,nt:=st.nt,params:=ps.toList,assign:=assign,body:=body,fn:=fn,state:= .ready,pending:=none})with
  |some (nm,H)=>
   (match j8 K rec (ev st.s f) [.yield nm] 0 H with
   |some (_,H)=>
    (match H.get nm with
    |some (.loop l)=>
     if l.state= .busy then none else
     (match l.pending with
     |none=>some (.normal,{st with h:=H.set nm (.loop {l with state:= .exhausted})})
     |some e=>some (e,{st with h:=H.set nm (.loop {l with state:= .exhausted})}))
    |_=>none)
   |none=>none)
  |none=>none)
 |_=>none
def cC:Nat→Rec
 |0=>fun _ _ _=>none
 |n+1=>cr K (cC n)
end
end
section
abbrev Mu:=Nm→Nat→Option Nat
def mb (i:Nat):Nat:=2199023255552+i
section
variable (w:World) (S:Nat→Prop)
inductive bI:Value→PV→Prop
 |int (k:IntKind) (n:Int):bI (.int k n) (.int k n)
 |bool (b:Bool):bI (.bool b) (.bool b)
 |str (s:ByteArray):bI (.string s) (.str s.data.toList)
 |dJ (a:Option Addr) (cap:Nat):bI (.slice a 0 cap) (.slice [])
 |slice (b o cap es:Nat) (l:List (List PV)) (f:Nat→Nat→Value) (hS:S b) (he:0<es) (hes: ∀r∈l,r.length=es)
   (hf: ∀i j,i<l.length→j<es→w.cell? ⟨b,o+(i*es+j),none⟩=some (f i j)) (h1: ∀i j,i<l.length→j<es→(f i j).oneCell'=true)
   (hr: ∀i j,i<l.length→j<es→bI (f i j) ((l.getD i []).getD j .dead)) (hc:l.length≤cap):bI (.slice (some ⟨b,o,none⟩) l.length cap) (.slice l)
 |agg (vs:Array Value) (l:List PV) (h:vs.size=l.length) (h1: ∀j,j<l.length→(vs.getD j undef).oneCell'=true) (hr: ∀j,j<l.length→bI (vs.getD j undef) (l.getD j .dead)):bI (.agg vs) (.agg l)
 |tuple (vs:Array Value) (l:List PV) (h:vs.size=l.length) (hr: ∀j,j<l.length→bI (vs.getD j undef) (l.getD j .dead)):bI (.tuple vs) (.tuple l)
 |fn (f:FuncId):bI (.func (.func f) #[] #[]) (.fn f)
 |nR:bI (.pointer none) .nR
 |eg:bI .nilFunc .eg
 |lR:bI (.map none) .lR
 |nS:bI .nilIface .nS
 |iface (t:TypeId) (v:Value) (p:PV) (h:bI v p):bI (.iface t v) (.iface t p)
 |dead (v:Value):bI v .dead
inductive ax (μ:Mu) (ℓ:Nat):Value→GV→Prop
 |pure (v:Value) (p:PV) (h:bI w S v p):ax μ ℓ v (.pure p)
 |bF (b o:Nat) (cs:List PV) (f:Nat→Value) (hS:cs≠[]→S b) (hf: ∀j,j<cs.length→w.cell? ⟨b,o+j,none⟩=some (f j)) (h1: ∀j,j<cs.length→(f j).oneCell'=true)
   (hr: ∀j,j<cs.length→bI w S (f j) (cs.getD j .dead)):ax μ ℓ (.pointer (some ⟨b,o,none⟩)) (.bF cs)
 |fO (b o:Nat) (cs:List GV) (f:Nat→Value) (hS:cs≠[]→S b) (hf: ∀j,j<cs.length→w.cell? ⟨b,o+j,none⟩=some (f j)) (h1: ∀j,j<cs.length→(f j).oneCell'=true)
   (hr: ∀j,j<cs.length→ax μ ℓ (f j) (cs.getD j aG)):ax μ ℓ (.pointer (some ⟨b,o,none⟩)) (.fO cs)
 |aO (a:Option Addr):ax μ ℓ (.slice a 0 0) .aO
 |lits (b o cap es:Nat) (l:List (List GV)) (f:Nat→Nat→Value) (hS:S b) (he:0<es) (hes: ∀r∈l,r.length=es)
   (hf: ∀i j,i<l.length→j<es→w.cell? ⟨b,o+(i*es+j),none⟩=some (f i j)) (h1: ∀i j,i<l.length→j<es→(f i j).oneCell'=true)
   (hr: ∀i j,i<l.length→j<es→ax μ ℓ (f i j) ((l.getD i []).getD j aG)):ax μ ℓ (.slice (some ⟨b,o,none⟩) l.length cap) (.lits l)
 |aA (nm:Nm) (off b:Nat) (hl:nm.1≤ℓ) (hm:μ nm 0=some b):ax μ ℓ (.pointer (some ⟨b,off,none⟩)) (.aA nm off)
 |bZ (nm:Nm) (es top i off b:Nat) (hl:nm.1≤ℓ) (hm:μ nm top=some b):ax μ ℓ (.pointer (some ⟨b,i*es+off,none⟩)) (.bZ nm es top i off)
 |ay (nm:Nm) (es top lo len cap b n:Nat) (e:TypeId) (hl:nm.1≤ℓ) (hm:μ nm top=some b) (hc:top≤lo+cap) (ht:lo+len≤top)
   (hsh:w.shape? b=some (e,n)) (hn:(lo+cap)*es≤n):ax μ ℓ (.slice (some ⟨b,lo*es,none⟩) len cap) (.ay nm es top lo len)
 |agg (vs:Array Value) (l:List GV) (h:vs.size=l.length) (h1: ∀j,j<l.length→(vs.getD j undef).oneCell'=true) (hr: ∀j,j<l.length→ax μ ℓ (vs.getD j undef) (l.getD j aG)):ax μ ℓ (.agg vs) (.agg l)
 |tuple (vs:Array Value) (l:List GV) (h:vs.size=l.length) (hr: ∀j,j<l.length→ax μ ℓ (vs.getD j undef) (l.getD j aG)):ax μ ℓ (.tuple vs) (.tuple l)
 |func (f:FuncId) (a c:Array Value) (la lc:List GV) (h1:a.size=la.length) (h2:c.size=lc.length)
   (hr1: ∀j,j<la.length→ax μ ℓ (a.getD j undef) (la.getD j aG)) (hr2: ∀j,j<lc.length→ax μ ℓ (c.getD j undef) (lc.getD j aG)):
   ax μ ℓ (.func (.func f) a c) (.func f la lc)
 |yield (nm:Nm) (b:Nat) (hl:nm.1≤ℓ) (hm:μ nm 0=some b):ax μ ℓ (.func (.yield b) #[] #[]) (.yield nm)
 |map (nm:Nm) (b:Nat) (hl:nm.1≤ℓ) (hm:μ nm 0=some b):ax μ ℓ (.map (some b)) (.map nm)
 |eT (nm:Nm) (es i len cap b:Nat) (hl:nm.1≤ℓ) (hm:μ nm (mb i)=some b) (hc:len≤cap):ax μ ℓ (.slice (some ⟨b,0,none⟩) len cap) (.eT nm es i len)
 |fZ (nm:Nm) (es i j off b:Nat) (hl:nm.1≤ℓ) (hm:μ nm (mb i)=some b):ax μ ℓ (.pointer (some ⟨b,j*es+off,none⟩)) (.fZ nm es i j off)
inductive bz (μ:Mu) (ℓ:Nat):List Value→List GV→Prop
 |nil:bz μ ℓ [] []
 |cons {v:Value} {g:GV} {vs:List Value} {gs:List GV} (h1:v.oneCell'=true) (h:ax w S μ ℓ v g) (t:bz μ ℓ vs gs):bz μ ℓ (v::vs) (g::gs)
def kC:GX→Code
 | .exit id=> .exit id
 |_=> .ret
def lH (b es:Nat)(l:List (List PV)):Prop:=
 (∃c e,w.heap[b]? =some (.cells c e (0,0)))∧ ¬S b∧ ∀i j,i<l.length→j<es→ ∃u,w.cell? ⟨b,i*es+j,none⟩=some u∧u.oneCell'=true∧bI w S u ((l.getD i []).getD j .dead)
structure cD (μ:Mu)(nm:Nm)(es:Nat)(rows:List (List (List PV)))(n:Nat):Prop where
 pos:0<es
 le:n≤rows.length
 Az:n<mb 0
 wid: ∀r∈rows,∀x∈r,x.length=es
 row: ∀i,i<rows.length→ ∃b,μ nm (mb i)=some b∧lH w S b es (rows.getD i [])
 inj: ∀i j b,μ nm (mb i)=some b→μ nm (mb j)=some b→i=j
 je: ∀i b,μ nm (mb i)=some b→i<rows.length
 top: ∀t b,t<mb 0→μ nm t=some b→t≤n∧(∃c e,w.heap[b]? =some (.cells c e (0,0)))∧ ¬S b∧(∀i,μ nm (mb i)≠some b)∧
  ∀i,i<t→ ∃bi cap,w.cell? ⟨b,i,none⟩=some (.slice (some ⟨bi,0,none⟩) (rows.getD i []).length cap)∧μ nm (mb i)=some bi∧(rows.getD i []).length≤cap
def eH (μ:Mu)(nm:Nm):dW→Prop
 | .box cs=> ∃b c e,μ nm 0=some b∧ ¬S b∧w.heap[b]? =some (.cells c e (0,0))∧bz w S μ nm.1 c.toList cs
 | .arr es elems vf ro=>0<es∧(∀r∈elems,r.length=es)∧vf≤elems.length∧(∃b,μ nm elems.length=some b)∧
   (∀top b,μ nm top=some b→top≤elems.length∧(∃c e,w.heap[b]? =some (.cells c e (0,0)))∧(ro=false→ ¬S b)∧
    (vf≤top→(ro=true→S b)∧ ∀i j,i<top→j<es→ ∃u,w.cell? ⟨b,i*es+j,none⟩=some u∧u.oneCell'=true∧bI w S u ((elems.getD i []).getD j .dead)))
 | .map es=> ∃b ms clock,μ nm 0=some b∧ ¬S b∧w.heap[b]? =some (.map ms clock)∧ms.size=es.length∧
   ∀j,(h:j<es.length)→ ∃m,ms[j]? =some m∧bI w S m.key es[j].1∧ax w S μ nm.1 m.val es[j].2
 | .loop l=> ∃b r,μ nm 0=some b∧ ¬S b∧w.heap[b]? =some (.loop r)∧r.state=l.state∧r.pending=l.pending.map kC∧l.pending≠some .normal∧
   r.params=l.params.toArray∧r.assign=l.assign∧r.body=l.body∧r.tmps.size=l.nt∧ ∀t,ax w S μ nm.1 (r.tmps.getD t undef) (look l.c8 t)
 | .nj es rows n=>cD w S μ nm es rows n
structure aN (μ:Mu)(H:ae):Prop where
 fY: ∀nm x,H.get nm=some x→ ∀t b,μ nm t=some b→eH w S μ nm x
 je: ∀nm t b,μ nm t=some b→ ∃x,H.get nm=some x
 fF: ∀nm nm' t t' b,μ nm t=some b→μ nm' t'=some b→nm=nm'
 lt: ∀nm t b,μ nm t=some b→b<w.heap.size
 slt: ∀b,S b→b<w.heap.size
end
structure Ev (ℓ:Nat)(w:World)(S:Nat→Prop)(μ:Mu)(w':World)(S':Nat→Prop)(μ':Mu):Prop where
 os:w'.os=w.os
 tape:w'.tape=w.tape
 out:w'.output=w.output
 size:w.heap.size≤w'.heap.size
 sub: ∀b,S b→S' b
 same: ∀b,b<w.heap.size→(S b∨ ∀nm t,μ nm t≠some b)→w'.heap[b]? =w.heap[b]?
 zp: ∀b x,w.shape? b=some x→w'.shape? b=some x
 lp: ∀(b:Nat) (r:Loop),w.heap[b]? =some (Obj.loop r)→ ∃r':Loop,w'.heap[b]? =some (Obj.loop r')
 mu: ∀nm t b,nm.1≤ℓ→μ nm t=some b→μ' nm t=some b
 own: ∀nm t b,μ' nm t=some b→b<w.heap.size→ ∃nm' t',μ nm' t'=some b
 sM: ∀b,S' b→b<w.heap.size→S b∨ ∃nm t,μ nm t=some b
theorem Ev.refl (ℓ:Nat)(w:World)(S:Nat→Prop)(μ:Mu):Ev ℓ w S μ w S μ:=
 ⟨rfl,rfl,rfl,Nat.le_refl _,fun _ h=>h,fun _ _ _=>rfl,fun _ _ h=>h,fun _ r h=>⟨r,h⟩,fun _ _ _ _ h=>h,fun nm t _ h _=>⟨nm,t,h⟩,fun _ h _=> .inl h⟩
theorem Ev.trans {ℓ:Nat}{w1 w2 w3:World}{S1 S2 S3:Nat→Prop}{μ1 μ2 μ3:Mu}(h:Ev ℓ w1 S1 μ1 w2 S2 μ2)(k:Ev ℓ w2 S2 μ2 w3 S3 μ3):
  Ev ℓ w1 S1 μ1 w3 S3 μ3 where
 os:=k.os.trans h.os
 tape:=k.tape.trans h.tape
 out:=k.out.trans h.out
 size:=Nat.le_trans h.size k.size
 sub:=fun b hb=>k.sub b (h.sub b hb)
 same:=fun b hb ho=>by
  have h1:=h.same b hb ho;rw [←h1];refine k.same b (Nat.lt_of_lt_of_le hb h.size) ?_;rcases ho with ho|ho
  ·exact .inl (h.sub b ho)
  ·refine .inr fun nm t hm=> ?_;obtain⟨nm',t',hm'⟩:=h.own nm t b hm hb;exact ho nm' t' hm'
 zp:=fun b x hx=>k.zp b x (h.zp b x hx)
 lp:=fun b r hr=>let ⟨r',h'⟩:=h.lp b r hr;k.lp b r' h'
 mu:=fun nm t b hl hm=>k.mu nm t b hl (h.mu nm t b hl hm)
 own:=fun nm t b hm hb=>by
  obtain⟨nm',t',hm'⟩:=k.own nm t b hm (Nat.lt_of_lt_of_le hb h.size);exact h.own nm' t' b hm' hb
 sM:=fun b hb hl=>by
  rcases k.sM b hb (Nat.lt_of_lt_of_le hl h.size)with h'|⟨nm,t,h'⟩
  ·exact h.sM b h' hl
  ·exact .inr (h.own nm t b h' hl)
theorem Ev.level {ℓ ℓ':Nat}{w1 w2:World}{S1 S2:Nat→Prop}{μ1 μ2:Mu}(h:Ev ℓ w1 S1 μ1 w2 S2 μ2)(hl:ℓ'≤ℓ):Ev ℓ' w1 S1 μ1 w2 S2 μ2:=
 {h with mu:=fun nm t b hb hm=>h.mu nm t b (Nat.le_trans hb hl) hm}
theorem cQ {w w':World}{b:Nat}(h:w'.heap[b]? =w.heap[b]?)(o:Nat):w'.cell? ⟨b,o,none⟩=w.cell? ⟨b,o,none⟩:=by
 unfold World.cell?;simp only [h]
theorem bI.mono {w w':World}{S S':Nat→Prop}(hS: ∀b,S b→S' b)(hw: ∀b,S b→w'.heap[b]? =w.heap[b]?){v:Value}{p:PV}(h:bI w S v p):
  bI w' S' v p:=by
 induction h with
 |int k n=>exact .int k n
 |bool b=>exact .bool b
 |str s=>exact .str s
 |dJ a cap=>exact .dJ a cap
 |slice b o cap es l f hb he hes hf h1 _ hc ih=>exact .slice b o cap es l f (hS b hb) he hes (fun i j hi hj=>by rw [cQ (hw b hb)];exact hf i j hi hj) h1 ih hc
 |agg vs l h h1 _ ih=>exact .agg vs l h h1 ih
 |tuple vs l h _ ih=>exact .tuple vs l h ih
 |fn f=>exact .fn f
 |nR=>exact .nR
 |eg=>exact .eg
 |lR=>exact .lR
 |nS=>exact .nS
 |iface t v p _ ih=>exact .iface t v p ih
 |dead v=>exact .dead v
theorem ax.mono {w w':World} {S S':Nat→Prop} {μ μ':Mu} {ℓ ℓ':Nat} (hS: ∀b,S b→S' b) (hw: ∀b,S b→w'.heap[b]? =w.heap[b]?)
  (hsh: ∀b x,w.shape? b=some x→w'.shape? b=some x) (hm: ∀nm t b,nm.1≤ℓ→μ nm t=some b→μ' nm t=some b) (hl:ℓ≤ℓ')
  {v:Value} {g:GV} (h:ax w S μ ℓ v g):ax w' S' μ' ℓ' v g:=by
 induction h with
 |pure v p h=>exact .pure v p (h.mono hS hw)
 |bF b o cs f hb hf h1 hr=>
  refine .bF b o cs f (fun h=>hS b (hb h)) (fun j hj=> ?_) h1 (fun j hj=>(hr j hj).mono hS hw);rw [cQ (hw b (hb (by intro h;subst h;simp at hj)))];exact hf j hj
 |fO b o cs f hb hf h1 _ ih=>
  refine .fO b o cs f (fun h=>hS b (hb h)) (fun j hj=> ?_) h1 ih;rw [cQ (hw b (hb (by intro h;subst h;simp at hj)))];exact hf j hj
 |aO a=>exact .aO a
 |lits b o cap es l f hb he hes hf h1 _ ih=>exact .lits b o cap es l f (hS b hb) he hes (fun i j hi hj=>by rw [cQ (hw b hb)];exact hf i j hi hj) h1 ih
 |aA nm off b h1 h2=>exact .aA nm off b (Nat.le_trans h1 hl) (hm _ _ _ h1 h2)
 |bZ nm es top i off b h1 h2=>exact .bZ nm es top i off b (Nat.le_trans h1 hl) (hm _ _ _ h1 h2)
 |ay nm es top lo len cap b n e h1 h2 hc ht hs hn=>exact .ay nm es top lo len cap b n e (Nat.le_trans h1 hl) (hm _ _ _ h1 h2) hc ht (hsh _ _ hs) hn
 |agg vs l h h1 _ ih=>exact .agg vs l h h1 ih
 |tuple vs l h _ ih=>exact .tuple vs l h ih
 |func f a c la lc h1 h2 _ _ ih1 ih2=>exact .func f a c la lc h1 h2 ih1 ih2
 |yield nm b h1 h2=>exact .yield nm b (Nat.le_trans h1 hl) (hm _ _ _ h1 h2)
 |map nm b h1 h2=>exact .map nm b (Nat.le_trans h1 hl) (hm _ _ _ h1 h2)
 |eT nm es i len cap b h1 h2 hc=>exact .eT nm es i len cap b (Nat.le_trans h1 hl) (hm _ _ _ h1 h2) hc
 |fZ nm es i j off b h1 h2=>exact .fZ nm es i j off b (Nat.le_trans h1 hl) (hm _ _ _ h1 h2)
section
variable {ℓ:Nat} {w w':World} {S S':Nat→Prop} {μ μ':Mu}
theorem Ev.val (h:Ev ℓ w S μ w' S' μ')(hlt: ∀b,S b→b<w.heap.size){k:Nat}(hk:k≤ℓ){v:Value}{g:GV}(hv:ax w S μ k v g):ax w' S' μ' k v g:=
 hv.mono h.sub (fun b hb=>h.same b (hlt b hb) (.inl hb)) h.zp (fun nm t b hn hm=>h.mu nm t b (Nat.le_trans hn hk) hm) (Nat.le_refl _)
end
theorem ax.up {w:World}{S:Nat→Prop}{μ:Mu}{ℓ ℓ':Nat}(hl:ℓ≤ℓ'){v:Value}{g:GV}(h:ax w S μ ℓ v g):ax w S μ ℓ' v g:=
 h.mono (fun _ h=>h) (fun _ _=>rfl) (fun _ _ h=>h) (fun _ _ _ _ h=>h) hl
theorem bz.mono {w w':World} {S S':Nat→Prop} {μ μ':Mu} {ℓ ℓ':Nat} (hS: ∀b,S b→S' b) (hw: ∀b,S b→w'.heap[b]? =w.heap[b]?)
  (hsh: ∀b x,w.shape? b=some x→w'.shape? b=some x) (hm: ∀nm t b,nm.1≤ℓ→μ nm t=some b→μ' nm t=some b) (hl:ℓ≤ℓ')
  {vs:List Value} {gs:List GV} (h:bz w S μ ℓ vs gs):bz w' S' μ' ℓ' vs gs:=by
 induction h with
 |nil=>exact .nil
 |cons h1 h _ ih=>exact .cons h1 (h.mono hS hw hsh hm hl) ih
theorem lH.mono {w w':World} {S S':Nat→Prop} {b es:Nat} {l:List (List PV)} (hS: ∀b,S b→S' b) (hw: ∀b,S b→w'.heap[b]? =w.heap[b]?)
  (hb:w'.heap[b]? =w.heap[b]?) (hs:S' b→S b) (h:lH w S b es l):lH w' S' b es l:=by
 obtain⟨⟨c,e,h1⟩,h2,h3⟩:=h;refine⟨⟨c,e,by rw [hb];exact h1⟩,fun h=>h2 (hs h),fun i j hi hj=> ?_⟩;obtain⟨u,u1,u2,u3⟩:=h3 i j hi hj;exact⟨u,by rw [cQ hb];exact u1,u2,u3.mono hS hw⟩
theorem cD.mono {w w':World} {S S':Nat→Prop} {μ μ':Mu} {nm nm':Nm} {es n:Nat} {rows:List (List (List PV))} (hS: ∀b,S b→S' b) (hw: ∀b,S b→w'.heap[b]? =w.heap[b]?)
  (ho: ∀t,μ' nm' t=μ nm t) (hb: ∀t b,μ nm t=some b→w'.heap[b]? =w.heap[b]?) (hs: ∀t b,μ nm t=some b→S' b→S b) (h:cD w S μ nm es rows n):cD w' S' μ' nm' es rows n where
 pos:=h.pos
 le:=h.le
 Az:=h.Az
 wid:=h.wid
 row:=fun i hi=>by
  obtain⟨b,h1,h2⟩:=h.row i hi;exact⟨b,by rw [ho];exact h1,h2.mono hS hw (hb _ _ h1) (hs _ _ h1)⟩
 inj:=fun i j b h1 h2=>by rw [ho]at h1 h2;exact h.inj i j b h1 h2
 je:=fun i b h1=>by rw [ho]at h1;exact h.je i b h1
 top:=fun t b ht h1=>by
  rw [ho]at h1;obtain⟨g1,⟨c,e,g2⟩,g3,g4,g5⟩:=h.top t b ht h1;refine⟨g1,⟨c,e,by rw [hb _ _ h1];exact g2⟩,fun h=>g3 (hs _ _ h1 h),fun i=>by rw [ho];exact g4 i,fun i hi=> ?_⟩;obtain⟨bi,cap,k1,k2,k3⟩:=g5 i hi;exact⟨bi,cap,by rw [cQ (hb _ _ h1)];exact k1,by rw [ho];exact k2,k3⟩
theorem eH.mono {w w':World} {S S':Nat→Prop} {μ μ':Mu} {nm:Nm} (hS: ∀b,S b→S' b) (hw: ∀b,S b→w'.heap[b]? =w.heap[b]?)
  (hsh: ∀b x,w.shape? b=some x→w'.shape? b=some x) (hm: ∀n t b,n.1≤nm.1→μ n t=some b→μ' n t=some b) (ho: ∀t,μ' nm t=μ nm t)
  (hb: ∀t b,μ nm t=some b→w'.heap[b]? =w.heap[b]?) (hs: ∀t b,μ nm t=some b→S' b→S b) {x:dW} (h:eH w S μ nm x):eH w' S' μ' nm x:=by
 cases x with
 |box cs=>
  obtain⟨b,c,e,h1,h2,h3,h4⟩:=h;exact⟨b,c,e,by rw [ho];exact h1,fun h=>h2 (hs _ _ h1 h),by rw [hb _ _ h1];exact h3,h4.mono hS hw hsh hm (Nat.le_refl _)⟩
 |arr es elems vf ro=>
  obtain⟨h0,h1,h2,⟨b0,h3⟩,h4⟩:=h;refine⟨h0,h1,h2,⟨b0,by rw [ho];exact h3⟩,fun top b hb'=> ?_⟩;rw [ho]at hb';obtain⟨g1,⟨c,e,g2⟩,g3,g4⟩:=h4 top b hb';refine⟨g1,⟨c,e,by rw [hb _ _ hb'];exact g2⟩,fun hr h=>g3 hr (hs _ _ hb' h),fun hv=> ?_⟩;obtain⟨k1,k2⟩:=g4 hv;refine⟨fun hr=>hS _ (k1 hr),fun i j hi hj=> ?_⟩;obtain⟨u,u1,u2,u3⟩:=k2 i j hi hj;exact⟨u,by rw [cQ (hb _ _ hb')];exact u1,u2,u3.mono hS hw⟩
 |map es=>
  obtain⟨b,ms,clock,h1,h2,h3,h4,h5⟩:=h;refine⟨b,ms,clock,by rw [ho];exact h1,fun h=>h2 (hs _ _ h1 h),by rw [hb _ _ h1];exact h3,h4,fun j hj=> ?_⟩;obtain⟨m,m1,m2,m3⟩:=h5 j hj;exact⟨m,m1,m2.mono hS hw,m3.mono hS hw hsh hm (Nat.le_refl _)⟩
 |loop l=>
  obtain⟨b,r,h1,h2,h3,q1,q2,q3,q5,q6,q7,q8,q9⟩:=h;exact⟨b,r,by rw [ho];exact h1,fun h=>h2 (hs _ _ h1 h),by rw [hb _ _ h1];exact h3,q1,q2,q3,q5,q6,q7,q8,fun t=>(q9 t).mono hS hw hsh hm (Nat.le_refl _)⟩
 |nj es rows n=>exact cD.mono hS hw ho hb hs h
theorem Fr.bO (q : Nat) (x : dW) : ∀ f : Fr, (f.ins q x).get q = some x
  | [] => by simp [Fr.ins, Fr.get]
  | (k, b) :: r => by
    unfold Fr.ins
    split
    · simp [Fr.get]
    · split
      · simp [Fr.get]
      · rename_i h _; simp [Fr.get, h, Fr.bO q x r]
theorem Fr.aF {q p : Nat} (x : dW) (h : p ≠ q) : ∀ f : Fr, (f.ins q x).get p = f.get p
  | [] => by simp [Fr.ins, Fr.get, h]
  | (k, b) :: r => by
    unfold Fr.ins
    split
    · rename_i hk; subst hk; simp [Fr.get, h]
    · split
      · simp [Fr.get, h]
      · simp only [Fr.get]; rw [Fr.aF x h r]
theorem ae.cj: ∀{H:ae} {nm:Nm} {b:dW},H.get nm=some b→nm.1<H.length
 | [],nm,b,h=>by simp [ae.get]at h
 |f::H,nm,b,h=>by
  unfold ae.get at h;split at h
  ·rename_i e;simp [e]
  ·have:=ae.cj h;simp;omega
theorem ae.length_set: ∀(H:ae) (nm:Nm) (b:dW),(H.set nm b).length=H.length
 | [],_,_=>rfl
 |f::H,nm,b=>by
  unfold ae.set;split
  ·rfl
  ·simp [ae.length_set H nm b]
theorem ae.cw: ∀{H:ae} {nm:Nm} (b:dW),nm.1<H.length→(H.set nm b).get nm=some b
 | [],nm,b,h=>by simp at h
 |f::H,nm,b,h=>by
  unfold ae.set;split
  ·rename_i e;simp [ae.get,e,Fr.bO]
  ·rename_i e;simp only [ae.get,ae.length_set,e,if_false];exact ae.cw b (by simp at h;omega)
theorem ae.a9: ∀{H:ae} {nm nm':Nm} (b:dW),nm'≠nm→(H.set nm b).get nm'=H.get nm'
 | [],_,_,_,_=>rfl
 |f::H,nm,nm',b,h=>by
  unfold ae.set;split
  ·rename_i e;simp only [ae.get];split
   ·rename_i e';refine Fr.aF b ?_ f;intro h2;exact h (Prod.ext (by omega) h2)
   ·rfl
  ·simp only [ae.get,ae.length_set];split
   ·rfl
   ·exact ae.a9 b h
theorem ae.wH {H:ae}(nm:Nm):ae.get ([]::H) nm=H.get nm:=by
 show (if nm.1=H.length then Fr.get [] nm.2 else H.get nm)=H.get nm
 split
 ·rename_i e;simp only [Fr.get]
  cases h:ae.get H nm with
  |none=>rfl
  |some b=>have:=ae.cj h;omega
 ·rfl
end
section
theorem ax.pv {w:World}{S:Nat→Prop}{μ:Mu}{ℓ:Nat}{v:Value}{p:PV}(h:ax w S μ ℓ v (.pure p)):bI w S v p:=by
 cases h with|pure _ _ h=>exact h
section crel
variable {w:World} {S:Nat→Prop} {μ:Mu} {ℓ:Nat}
theorem bz.length {vs:List Value}{gs:List GV}(h:bz w S μ ℓ vs gs):vs.length=gs.length:=by
 induction h with
 |nil=>rfl
 |cons _ _ _ ih=>simp [ih]
theorem bz.append {vs us:List Value}{gs ks:List GV}(h:bz w S μ ℓ vs gs)(k:bz w S μ ℓ us ks):bz w S μ ℓ (vs++us) (gs++ks):=by
 induction h with
 |nil=>exact k
 |cons h1 h2 _ ih=>exact .cons h1 h2 ih
theorem bz.take {vs:List Value}{gs:List GV}(h:bz w S μ ℓ vs gs): ∀n:Nat,bz w S μ ℓ (vs.take n) (gs.take n):=by
 induction h with
 |nil=>intro n;simp;exact .nil
 |cons h1 h2 _ ih=>intro n;cases n with
  |zero=>simp;exact .nil
  |succ n=>simp only [List.take_succ_cons];exact .cons h1 h2 (ih n)
theorem bz.drop {vs:List Value}{gs:List GV}(h:bz w S μ ℓ vs gs): ∀n:Nat,bz w S μ ℓ (vs.drop n) (gs.drop n):=by
 induction h with
 |nil=>intro n;simp;exact .nil
 |cons h1 h2 h3 ih=>intro n;cases n with
  |zero=>simp only [List.drop_zero];exact .cons h1 h2 h3
  |succ n=>simp only [List.drop_succ_cons];exact ih n
theorem bz.get {vs:List Value}{gs:List GV}(h:bz w S μ ℓ vs gs): ∀(j:Nat) (g:GV),gs[j]? =some g→ ∃v,vs[j]? =some v∧v.oneCell'=true∧ax w S μ ℓ v g:=by
 induction h with
 |nil=>intro j g hg;simp at hg
 | @cons v _ _ _ h1 h2 _ ih=>intro j g hg;cases j with
  |zero=>simp at hg;subst hg;exact⟨v,rfl,h1,h2⟩
  |succ j=>simpa using ih j g (by simpa using hg)
theorem bz.mZ: ∀(vs:List Value) (gs:List GV),vs.length=gs.length→(∀j,j<gs.length→(vs.getD j undef).oneCell'=true∧ax w S μ ℓ (vs.getD j undef) (gs.getD j aG))→
  bz w S μ ℓ vs gs
 | [],[],_,_=> .nil
 |v::vs,g::gs,h,k=> .cons (k 0 (by simp)).1 (k 0 (by simp)).2 (bz.mZ vs gs (by simpa using h) fun j hj=>by simpa using k (j+1) (by simpa using hj))
 | [],_::_,h,_=>by simp at h
 |_::_,[],h,_=>by simp at h
theorem bz.getD {vs:List Value}{gs:List GV}(h:bz w S μ ℓ vs gs)(j:Nat)(hj:j<gs.length):(vs.getD j undef).oneCell'=true∧ax w S μ ℓ (vs.getD j undef) (gs.getD j aG):=by
 obtain⟨v,h1,h2,h3⟩:=h.get j gs[j] (by simp [hj]);simp only [List.getD_eq_getElem?_getD,h1,List.getElem?_eq_getElem hj,Option.getD_some];exact⟨h2,h3⟩
theorem bz.aD {vs us:List Value}{gs ks:List GV}(h:bz w S μ ℓ vs gs)(k:bz w S μ ℓ us ks)(off:Nat):
  bz w S μ ℓ (aD vs off us) (aD gs off ks):=by
 unfold Gh.aD;rw [k.length];exact((h.take off).append k).append (h.drop _)
theorem bz.one {vs:List Value}{gs:List GV}(h:bz w S μ ℓ vs gs): ∀v∈vs,v.oneCell'=true:=by
 induction h with
 |nil=>simp
 |cons h1 _ _ ih=>intro v hv;rcases List.mem_cons.1 hv with rfl|hv;exact h1;exact ih v hv
theorem bz.replicate {vs:List Value}{gs:List GV}(h:bz w S μ ℓ vs gs): ∀n:Nat,bz w S μ ℓ (List.replicate n vs).flatten (List.replicate n gs).flatten
 |0=> .nil
 |n+1=>by simp only [List.replicate_succ,List.flatten_cons];exact h.append (bz.replicate h n)
theorem bz.mG: ∀(vs:List Value) (ps:List PV),bz w S μ ℓ vs (ps.map .pure)→vs.length=ps.length∧ ∀j,j<ps.length→(vs.getD j undef).oneCell'=true∧bI w S (vs.getD j undef) (ps.getD j .dead):=by
 intro vs ps h;refine⟨by simpa using h.length,fun j hj=> ?_⟩;obtain⟨h1,h2⟩:=h.getD j (by simpa using hj);refine⟨h1, ?_⟩;have e:(ps.map GV.pure).getD j aG= .pure (ps.getD j .dead):=(by simp [List.getD_eq_getElem?_getD,hj]);rw [e]at h2;exact h2.pv
theorem bz.wE (vs:List Value)(ps:List PV)(h:vs.length=ps.length)(k: ∀j,j<ps.length→(vs.getD j undef).oneCell'=true∧bI w S (vs.getD j undef) (ps.getD j .dead)):
  bz w S μ ℓ vs (ps.map .pure):=
 .mZ _ _ (by simpa using h) fun j hj=>by
  have hj':j<ps.length:=(by simpa using hj);have e:(ps.map GV.pure).getD j aG= .pure (ps.getD j .dead):=(by simp [List.getD_eq_getElem?_getD,hj']);rw [e];exact⟨(k j hj').1, .pure _ _ (k j hj').2⟩
end crel
theorem dG: ∀{l:List GV} {ps:List PV},bd l=some ps→l=ps.map .pure
 | [],ps,h=>by simp [bd]at h;subst h;rfl
 |g::r,ps,h=>by
  cases g with
  |pure p=>
   simp only [bd]at h
   cases hr:bd r with
   |none=>rw [hr]at h;simp at h
   |some qs=>rw [hr]at h;simp at h;subst h;simp [dG hr]
  |_=>simp [bd]at h
theorem lU: ∀l:List PV,bd (l.map .pure)=some l
 | []=>rfl
 |x::r=>by simp [bd,lU r]
theorem mg (l:List PV):cO (l.map .pure)= .pure (.agg l):=by simp only [cO,lU]
theorem dP (vs:Array Value)(j:Nat):vs.getD j undef=vs.toList.getD j undef:=by
 simp [Array.getD_eq_getD_getElem?,List.getD_eq_getElem?_getD]
section vals
variable {w:World} {S:Nat→Prop} {μ:Mu} {ℓ:Nat}
theorem cW (v:Value):ax w S μ ℓ v aG:= .pure v .dead (.dead v)
theorem ax.C9 {vs:List Value}{gs:List GV}(h:bz w S μ ℓ vs gs):ax w S μ ℓ (.agg vs.toArray) (.agg gs):=
 .agg _ _ (by simpa using h.length) (fun j hj=>by rw [dP];exact(h.getD j hj).1) (fun j hj=>by rw [dP];exact(h.getD j hj).2)
theorem tx {vs:List Value}{gs:List GV}(h:bz w S μ ℓ vs gs):ax w S μ ℓ (.agg vs.toArray) (cO gs):=by
 unfold cO;split
 ·rename_i ps hp;rw [dG hp]at h;obtain⟨h1,h2⟩:=bz.mG _ _ h;exact .pure _ _ (.agg _ _ (by simpa using h1) (fun j hj=>by rw [dP];exact(h2 j hj).1) (fun j hj=>by rw [dP];exact(h2 j hj).2))
 ·exact .C9 h
theorem dK {vs:Array Value}{gs:List GV}(h:bz w S μ ℓ vs.toList gs):ax w S μ ℓ (.agg vs) (cO gs):=by
 have:=tx h;simpa using this
theorem fT {vs:Array Value}{gs:List GV}(hs:vs.size=gs.length)(h: ∀j,j<gs.length→ax w S μ ℓ (vs.getD j undef) (gs.getD j aG)):
  ax w S μ ℓ (.tuple vs) (mkTuple gs):=by
 unfold mkTuple;split
 ·rename_i ps hp;have e:=dG hp;subst e;refine .pure _ _ (.tuple _ _ (by simpa using hs) fun j hj=> ?_);have h2:=h j (by simpa using hj);have e:(ps.map GV.pure).getD j aG= .pure (ps.getD j .dead):=(by simp [List.getD_eq_getElem?_getD,hj]);rw [e]at h2;exact h2.pv
 ·exact .tuple _ _ hs h
theorem dL {v:Value}{g:GV}{cs:List GV}(h:ax w S μ ℓ v g)(hc:bm g=some cs):bz w S μ ℓ v.cells.toList cs:=by
 have one: ∀{v:Value} {g:GV},v.oneCell'=true→v.cells= #[v]→ax w S μ ℓ v g→some [g]=some cs→bz w S μ ℓ v.cells.toList cs:=by
  intro v g h1 h2 h3 h4;simp at h4;subst h4;rw [h2];exact .cons h1 h3 .nil
 cases h with
 |pure _ p hp=>
  cases hp with
  |agg vs l h1 h2 h3=>
   simp only [bm,Option.some.injEq]at hc;subst hc;exact .wE _ _ (by simpa [Value.cells]using h1) fun j hj=>by
    have a:=h2 j hj;have b:=h3 j hj;rw [dP]at a b;exact⟨a,b⟩
  |tuple vs l h1 h2=>simp [bm]at hc
  |dead v=>simp [bm]at hc
  |int k n=>exact one rfl rfl (.pure _ _ (.int k n)) hc
  |bool b=>exact one rfl rfl (.pure _ _ (.bool b)) hc
  |str s=>exact one rfl rfl (.pure _ _ (.str s)) hc
  |dJ a cap=>exact one rfl rfl (.pure _ _ (.dJ a cap)) hc
  |slice b o cap es l f hS he hes hf h1 hr hcp=>exact one rfl rfl (.pure _ _ (.slice b o cap es l f hS he hes hf h1 hr hcp)) hc
  |fn f=>exact one rfl rfl (.pure _ _ (.fn f)) hc
  |nR=>exact one rfl rfl (.pure _ _ .nR) hc
  |eg=>exact one rfl rfl (.pure _ _ .eg) hc
  |lR=>exact one rfl rfl (.pure _ _ .lR) hc
  |nS=>exact one rfl rfl (.pure _ _ .nS) hc
  |iface t v p h=>exact one rfl rfl (.pure _ _ (.iface t v p h)) hc
 |agg vs l h1 h2 h3=>
  simp only [bm,Option.some.injEq]at hc;subst hc;exact .mZ _ _ (by simpa [Value.cells]using h1) fun j hj=>by
   have a:=h2 j hj;have b:=h3 j hj;rw [dP]at a b;exact⟨a,b⟩
 |tuple vs l h1 h2=>simp [bm]at hc
 |bF b o cs f hS hf h1 hr=>exact one rfl rfl (.bF b o cs f hS hf h1 hr) hc
 |fO b o cs f hS hf h1 hr=>exact one rfl rfl (.fO b o cs f hS hf h1 hr) hc
 |aO a=>exact one rfl rfl (.aO a) hc
 |lits b o cap es l f hS he hes hf h1 hr=>exact one rfl rfl (.lits b o cap es l f hS he hes hf h1 hr) hc
 |aA nm off b h1 h2=>exact one rfl rfl (.aA nm off b h1 h2) hc
 |bZ nm es top i off b h1 h2=>exact one rfl rfl (.bZ nm es top i off b h1 h2) hc
 |ay nm es top lo len cap b n e h1 h2 h3 h4 h5 h6=>exact one rfl rfl (.ay nm es top lo len cap b n e h1 h2 h3 h4 h5 h6) hc
 |eT nm es i len cap b h1 h2 h3=>exact one rfl rfl (.eT nm es i len cap b h1 h2 h3) hc
 |fZ nm es i j off b h1 h2=>exact one rfl rfl (.fZ nm es i j off b h1 h2) hc
 |func f a c la lc h1 h2 h3 h4=>exact one rfl rfl (.func f a c la lc h1 h2 h3 h4) hc
 |yield nm b h1 h2=>exact one rfl rfl (.yield nm b h1 h2) hc
 |map nm b h1 h2=>exact one rfl rfl (.map nm b h1 h2) hc
theorem oa (v:Value):ax w S μ ℓ v (jZ v):=by
 unfold jZ;split
 ·exact .pure _ _ (.int _ _)
 ·exact .pure _ _ (.bool _)
 ·exact .pure _ _ (.str _)
 ·exact .aO _
 ·exact .pure _ _ .nR
 ·exact .pure _ _ .eg
 ·exact .pure _ _ .lR
 ·exact .pure _ _ .nS
 ·exact cW _
theorem dF (v:Value):ax w S μ ℓ v (ofConst v):=by
 unfold ofConst;split
 ·rename_i cs;split
  ·rename_i h;refine dK (.mZ _ _ (by simp) fun j hj=> ?_);have hj':j<cs.toList.length:=(by simpa using hj);have e1:cs.toList.getD j undef=cs.toList[j]:=(by rw [List.getD_eq_getElem?_getD,List.getElem?_eq_getElem hj'];rfl);have e2:(cs.toList.map jZ).getD j aG=jZ cs.toList[j]:=(by rw [List.getD_eq_getElem?_getD,List.getElem?_map,List.getElem?_eq_getElem hj'];rfl);rw [e1,e2];exact⟨List.all_eq_true.1 h _ (List.getElem_mem hj'),oa _⟩
  ·exact cW _
 ·exact oa _
theorem iU {a:Act}{s:aS}(hs: ∀t,ax w S μ ℓ (a.tmps.getD t undef) (look s t))(x:Operand):ax w S μ ℓ (a.eval x) (ev s x):=by
 cases x with
 |tmp t=>exact hs t
 |const v=>exact dF v
 |func f=>exact .pure _ _ (.fn f)
 |global g=>exact cW _
end vals
section runs
variable {P:Program} (w:World)
theorem aC {t:TypeId}{d:TypeDesc}(h:P.underlying t=some d):(underlying t).run P w= .ok d w:=run_underlying h w
theorem cM {t:TypeId}{n:Nat}(h:aZ P t=some n):(sizeOf t).run P w= .ok n w:=by
 unfold aZ at h
 cases hi:P.info? t with
 |none=>simp [hi]at h
 |some i=>simp [hi]at h;simp [sizeOf,typeInfo,hi,h]
theorem uQ {t:TypeId}{n:Nat}(h:iI P t=some n): ∃i,(typeInfo t).run P w= .ok i w∧i.bytes=n:=by
 unfold iI at h
 cases hi:P.info? t with
 |none=>simp [hi]at h
 |some i=>simp [hi]at h;exact⟨i,by simp [typeInfo,hi],h⟩
theorem zu {t:TypeId}{b:Bool}(h:dC P t=some b):(isAgg t).run P w= .ok b w:=by
 unfold dC at h
 cases hu:P.underlying t with
 |none=>simp [hu]at h
 |some d=>
  simp only [isAgg,Sem.run_bind,aC w hu,Result.andThen_ok];cases d<;>simp [hu]at h<;>subst h<;>rfl
theorem lG {t:TypeId}{g:GV}(h:b8 P t=some g): ∃v,(zeroValue t).run P w= .ok v w∧g=ofConst v:=by
 unfold b8 at h
 cases hi:P.info? t with
 |none=>simp [hi]at h
 |some i=>
  cases hz:i.zero with
  |none=>simp [hi,hz]at h
  |some v=>simp [hi,hz]at h;exact⟨v,by simp [zeroValue,typeInfo,hi,hz],h.symm⟩
def kx (w:World)(b o:Nat)(vs:List Value):Prop:= ∀j v,vs[j]? =some v→w.cell? ⟨b,o+j,none⟩=some v
theorem cS (b o n:Nat):(⟨b,o,none⟩:Addr).add n=⟨b,o+n,none⟩:=by unfold Addr.add;split<;>simp_all
theorem pD {b o:Nat}{vs:List Value}(h:kx w b o vs):(loadCells ⟨b,o,none⟩ vs.length).run P w= .ok vs.toArray w:=
 run_loadCells_list w _ vs fun j v hv=>by rw [cS];exact h j v hv
theorem sN {t:TypeId}{b o:Nat}{vs:List Value}(ha:dC P t=some true)(hs:aZ P t=some vs.length)(h:kx w b o vs):
  (loadVar t ⟨b,o,none⟩).run P w= .ok (.agg vs.toArray) w:=by
 simp [loadVar,zu w ha,cM w hs,pD w h]
theorem mF {t:TypeId}{b o:Nat}{v:Value}(ha:dC P t=some false)(h:w.cell? ⟨b,o,none⟩=some v):
  (loadVar t ⟨b,o,none⟩).run P w= .ok v w:=by
 simp [loadVar,zu w ha,h]
theorem m0 {t:TypeId} {b o:Nat} {v:Value} {c:Array Value} {e:TypeId} (hs:aZ P t=some v.cells.size) (hg:w.heap[b]? =some (.cells c e (0,0)))
  (hl:o+v.cells.size≤c.size) (h1: ∀u∈v.cells.toList,u.oneCell'=true):
  (storeVar t ⟨b,o,none⟩ v).run P w= .ok () (w.setRow b (aD c.toList o v.cells.toList).toArray):=by
 have:=run_storeCells_at (P:=P) b o e v.cells.toList 0 c w hg (by simpa using hl) h1;simp only [storeVar,Sem.run_bind,cM w hs,Result.andThen_ok,ne_eq,not_true_eq_false,if_false];simpa [aD,Nat.add_zero]using this
end runs
end
section
section
variable {w w':World} {S S':Nat→Prop} {μ μ':Mu} {H:ae}
theorem aN.yd (ℓ:Nat) {nm:Nm} {x:dW} (hH:aN w S μ H) (hl:nm.1<H.length)
  (ho:w'.os=w.os) (ht:w'.tape=w.tape) (hout:w'.output=w.output) (hsz:w.heap.size≤w'.heap.size)
  (hsub: ∀b,S b→S' b) (hsn: ∀b,S' b→S b∨w.heap.size≤b∨ ∃t,μ nm t=some b) (hsl: ∀b,S' b→b<w'.heap.size)
  (hh: ∀k,k<w.heap.size→(S k∨ ∀t,μ nm t≠some k)→w'.heap[k]? =w.heap[k]?)
  (hsh: ∀b y,w.shape? b=some y→w'.shape? b=some y)
  (hlp: ∀(b:Nat) (r:Loop),w.heap[b]? =some (Obj.loop r)→ ∃r':Loop,w'.heap[b]? =some (Obj.loop r'))
  (hmo: ∀n t,n≠nm→μ' n t=μ n t) (hmu: ∀t b,μ nm t=some b→μ' nm t=some b)
  (hmn: ∀t b,μ' nm t=some b→(∃t',μ nm t'=some b)∨w.heap.size≤b) (hml: ∀t b,μ' nm t=some b→b<w'.heap.size)
  (hx:eH w' S' μ' nm x):aN w' S' μ' (H.set nm x)∧Ev ℓ w S μ w' S' μ':=by
 have hw: ∀b,S b→w'.heap[b]? =w.heap[b]? :=fun b hb=>hh b (hH.slt b hb) (.inl hb);have hmm: ∀n t b,μ n t=some b→μ' n t=some b:=fun n t b h=>by
  by_cases e:n=nm
  ·subst e;exact hmu t b h
  ·rw [hmo n t e];exact h
 constructor
 ·constructor
  ·intro n b hb t0 b0 hb0;by_cases e:n=nm
   ·subst e;rw [ae.cw _ hl]at hb;cases hb;exact hx
   ·rw [ae.a9 _ e]at hb;rw [hmo n t0 e]at hb0;refine(hH.fY n b hb t0 b0 hb0).mono hsub hw hsh (fun n t b _ h=>hmm n t b h) (fun t=>hmo n t e) (fun t b' hb'=> ?_) (fun t b' hb' hs=> ?_)
    ·exact hh b' (hH.lt _ _ _ hb') (.inr fun t' h'=>e (hH.fF _ _ _ _ _ hb' h'))
    ·rcases hsn b' hs with h|h|⟨t',h⟩
     ·exact h
     ·have:=hH.lt _ _ _ hb';omega
     ·exact absurd (hH.fF _ _ _ _ _ hb' h) e
  ·intro n t b hb;by_cases e:n=nm
   ·subst e;exact⟨x,ae.cw _ hl⟩
   ·rw [hmo n t e]at hb;obtain⟨y,hy⟩:=hH.je n t b hb;exact⟨y,by rw [ae.a9 _ e];exact hy⟩
  ·intro n n' t t' b h h';have key: ∀n n' t t' b,n=nm→n'≠nm→μ' n t=some b→μ' n' t'=some b→False:=by
    intro n n' t t' b e e' h h';subst e;rw [hmo n' t' e']at h';rcases hmn t b h with ⟨t2,h2⟩|h2
    ·exact e' (hH.fF _ _ _ _ _ h' h2)
    ·have:=hH.lt _ _ _ h';omega
   by_cases e:n=nm
   ·by_cases e':n'=nm
    ·rw [e,e']
    ·exact(key n n' t t' b e e' h h').elim
   ·by_cases e':n'=nm
    ·exact(key n' n t' t b e' e h' h).elim
    ·rw [hmo n t e]at h;rw [hmo n' t' e']at h';exact hH.fF _ _ _ _ _ h h'
  ·intro n t b h;by_cases e:n=nm
   ·subst e;exact hml t b h
   ·rw [hmo n t e]at h;exact Nat.lt_of_lt_of_le (hH.lt _ _ _ h) hsz
  ·exact hsl
 ·refine⟨ho,ht,hout,hsz,hsub,fun b hb h=> ?_,hsh,hlp,fun n t b _ h=>hmm n t b h,fun n t b h hb=> ?_,fun b h hb=> ?_⟩
  ·rcases h with h|h
   ·exact hw b h
   ·exact hh b hb (.inr fun t=>h nm t)
  ·by_cases e:n=nm
   ·subst e;rcases hmn t b h with ⟨t',h'⟩|h'
    ·exact⟨_,t',h'⟩
    ·omega
   ·rw [hmo n t e]at h;exact⟨n,t,h⟩
  ·rcases hsn b h with h|h|⟨t,h⟩
   ·exact .inl h
   ·omega
   ·exact .inr ⟨nm,t,h⟩
def Mu.jF (μ:Mu)(nm:Nm)(top b:Nat):Mu:=fun n t=>if n=nm∧t=top then some b else μ n t
theorem Mu.bc (μ:Mu)(nm:Nm)(top b:Nat):μ.jF nm top b nm top=some b:=by simp [Mu.jF]
theorem Mu.cB (μ:Mu){nm n:Nm}(top b t:Nat)(h:n≠nm):μ.jF nm top b n t=μ n t:=by simp [Mu.jF,h]
theorem Mu.bX (μ:Mu)(nm:Nm){top t:Nat}(b:Nat)(h:t≠top):μ.jF nm top b nm t=μ nm t:=by simp [Mu.jF,h]
theorem bM (w:World)(o:Obj):(w.alloc o).heap.size=w.heap.size+1:=by show (w.heap.push o).size=_;simp
theorem bC (w:World)(o:Obj)(k:Nat)(h:k<w.heap.size):(w.alloc o).heap[k]? =w.heap[k]? :=by
 show (w.heap.push o)[k]? =_
 rw [Array.getElem?_push,if_neg (by omega)]
theorem cu (w:World)(o:Obj):(w.alloc o).heap[w.heap.size]? =some o:=by
 show (w.heap.push o)[w.heap.size]? =_
 simp
theorem eE (w:World)(o:Obj)(b:Nat)(y:TypeId×Nat)(h:w.shape? b=some y):(w.alloc o).shape? b=some y:=by
 have hb:b<w.heap.size:=by
  rcases Nat.lt_or_ge b w.heap.size with h'|h'
  ·exact h'
  ·simp [World.shape?,Array.getElem?_eq_none h']at h
 unfold World.shape? at h⊢;rw [bC w o b hb];exact h
theorem lI (w:World)(o:Obj)(b:Nat)(r:Loop)(h:w.heap[b]? =some (Obj.loop r)): ∃r':Loop,(w.alloc o).heap[b]? =some (Obj.loop r'):=by
 have hb:b<w.heap.size:=by
  rcases Nat.lt_or_ge b w.heap.size with h'|h'
  ·exact h'
  ·simp [Array.getElem?_eq_none h']at h
 exact⟨r,by rw [bC w o b hb];exact h⟩
theorem aN.new (ℓ:Nat) (hH:aN w S μ H) {nm:Nm} (hg:H.get nm=none) (hl:nm.1<H.length) (o:Obj) (top:Nat) (x:dW)
  (hx:eH (w.alloc o) S (μ.jF nm top w.heap.size) nm x):
  aN (w.alloc o) S (μ.jF nm top w.heap.size) (H.set nm x)∧Ev ℓ w S μ (w.alloc o) S (μ.jF nm top w.heap.size):=by
 have hno: ∀t b,μ nm t≠some b:=fun t b h=>by obtain⟨y,hy⟩:=hH.je _ _ _ h;rw [hg]at hy;cases hy
 refine hH.yd ℓ hl rfl rfl rfl (by rw [bM];omega) (fun _ h=>h) (fun b h=> .inl h) (fun b h=>by have:=hH.slt b h;rw [bM];omega)
  (fun k hk _=>bC w o k hk) (eE w o) (lI w o) (fun n t h=>Mu.cB μ _ _ _ h) (fun t b h=>absurd h (hno t b)) (fun t b h=> ?_) (fun t b h=> ?_) hx
 ·by_cases e:t=top
  ·subst e;rw [Mu.bc]at h;cases h;exact .inr (Nat.le_refl _)
  ·rw [Mu.bX μ nm _ e]at h;exact absurd h (hno t b)
 ·by_cases e:t=top
  ·subst e;rw [Mu.bc]at h;cases h;rw [bM];omega
  ·rw [Mu.bX μ nm _ e]at h;exact absurd h (hno t b)
theorem aN.lit (ℓ:Nat)(hH:aN w S μ H)(o:Obj):
  aN (w.alloc o) (fun b=>S b∨b=w.heap.size) μ H∧Ev ℓ w S μ (w.alloc o) (fun b=>S b∨b=w.heap.size) μ:=by
 have hw: ∀b,S b→(w.alloc o).heap[b]? =w.heap[b]? :=fun b hb=>bC w o b (hH.slt b hb);constructor
 ·refine⟨fun n b hb t0 b0 hb0=> ?_,hH.je,hH.fF,fun n t b h=> ?_,fun b h=> ?_⟩
  ·refine(hH.fY n b hb t0 b0 hb0).mono (fun b h=> .inl h) hw (eE w o) (fun _ _ _ _ h=>h) (fun _=>rfl) (fun t b' h'=>bC w o b' (hH.lt _ _ _ h')) (fun t b' h' hs=> ?_);rcases hs with hs|hs
   ·exact hs
   ·have:=hH.lt _ _ _ h';omega
  ·have:=hH.lt n t b h;rw [bM];omega
  ·rcases h with h|h
   ·have:=hH.slt b h;rw [bM];omega
   ·subst h;rw [bM];omega
 ·exact⟨rfl,rfl,rfl,by rw [bM];omega,fun b h=> .inl h,fun b hb _=>bC w o b hb,eE w o,lI w o,fun _ _ _ _ h=>h,fun n t b h _=>⟨n,t,h⟩,
   fun b h hb=>by rcases h with h|h;exact .inl h;omega⟩
theorem kq (w:World) (g:Nat) (c c':Array Value) (e:TypeId) (fr:Nat×Nat) (hg:w.heap[g]? =some (.cells c e fr)) (hs:c'.size=c.size) (b:Nat) (y:TypeId×Nat)
  (h:w.shape? b=some y):(w.setRow g c').shape? b=some y:=by
 unfold World.shape? at h⊢;by_cases e':b=g
 ·subst e';rw [setRow_heap w b c c' e fr hg];rw [hg]at h;simpa [hs]using h
 ·rw [setRow_other w g b c' e'];exact h
theorem A9 (w:World) (g:Nat) (c c':Array Value) (e:TypeId) (fr:Nat×Nat) (hg:w.heap[g]? =some (.cells c e fr)) (b:Nat) (r:Loop)
  (h:w.heap[b]? =some (Obj.loop r)): ∃r':Loop,(w.setRow g c').heap[b]? =some (Obj.loop r'):=by
 by_cases e':b=g
 ·subst e';rw [hg]at h;cases h
 ·exact⟨r,by rw [setRow_other w g b c' e'];exact h⟩
theorem aN.row (ℓ:Nat) (hH:aN w S μ H) {nm:Nm} {x:dW} (hl:nm.1<H.length) {t b:Nat} (hm:μ nm t=some b) (hS: ¬S b) {c c':Array Value} {e:TypeId} {fr:Nat×Nat}
  (hg:w.heap[b]? =some (.cells c e fr)) (hs:c'.size=c.size) (top:Nat) (hx:eH (w.setRow b c') S (μ.jF nm top b) nm x)
  (hold: ∀b',μ nm top=some b'→b'=b):
  aN (w.setRow b c') S (μ.jF nm top b) (H.set nm x)∧Ev ℓ w S μ (w.setRow b c') S (μ.jF nm top b):=by
 refine hH.yd ℓ hl rfl rfl rfl (by simp) (fun _ h=>h) (fun b h=> .inl h) (fun b h=>by simpa using hH.slt b h) (fun k hk ho=> ?_) (kq w b c c' e fr hg hs)
  (A9 w b c c' e fr hg) (fun n t h=>Mu.cB μ _ _ _ h) (fun t' b' h=> ?_) (fun t' b' h=> ?_) (fun t' b' h=> ?_) hx
 ·refine setRow_other w b k c' fun e'=> ?_;subst e';rcases ho with ho|ho
  ·exact hS ho
  ·exact ho t hm
 ·by_cases e':t'=top
  ·subst e';rw [Mu.bc,hold b' h]
  ·rw [Mu.bX μ nm _ e'];exact h
 ·by_cases e':t'=top
  ·subst e';rw [Mu.bc]at h;cases h;exact .inl ⟨t,hm⟩
  ·rw [Mu.bX μ nm _ e']at h;exact .inl ⟨t',h⟩
 ·by_cases e':t'=top
  ·subst e';rw [Mu.bc]at h;cases h;simpa using hH.lt _ _ _ hm
  ·rw [Mu.bX μ nm _ e']at h;simpa using hH.lt _ _ _ h
theorem aN.freeze (ℓ:Nat)(hH:aN w S μ H){nm:Nm}{es:Nat}{elems:List (List PV)}{vf:Nat}{ro:Bool}(hg:H.get nm=some (.arr es elems vf ro)){t0 b0:Nat}(hb0:μ nm t0=some b0):
  aN w (fun b=>S b∨ ∃t,μ nm t=some b) μ (H.set nm (.arr es elems vf true))∧Ev ℓ w S μ w (fun b=>S b∨ ∃t,μ nm t=some b) μ:=by
 refine hH.yd ℓ (ae.cj hg) rfl rfl rfl (Nat.le_refl _) (fun b h=> .inl h) (fun b h=>h.imp id .inr) (fun b h=> ?_) (fun _ _ _=>rfl) (fun _ _ h=>h) (fun b r h=>⟨r,h⟩)
  (fun _ _ _=>rfl) (fun _ _ h=>h) (fun t b h=> .inl ⟨t,h⟩) (fun t b h=>hH.lt _ _ _ h) ?_
 ·rcases h with h|⟨t,h⟩
  ·exact hH.slt b h
  ·exact hH.lt _ _ _ h
 ·obtain⟨h0,h1,h2,h3,h4⟩:=hH.fY _ _ hg _ _ hb0;refine⟨h0,h1,h2,h3,fun top b hb=> ?_⟩;obtain⟨g1,g2,g3,g4⟩:=h4 top b hb;refine⟨g1,g2,fun h=>by simp at h,fun hv=>⟨fun _=> .inr ⟨top,hb⟩,fun i j hi hj=> ?_⟩⟩;obtain⟨u,u1,u2,u3⟩:=(g4 hv).2 i j hi hj;exact⟨u,u1,u2,u3.mono (fun b h=> .inl h) (fun _ _=>rfl)⟩
theorem xe (hH:aN w S μ H) {ℓ:Nat} {v:Value} {nm:Nm} {es top lo len:Nat} (hv:ax w S μ ℓ v (.ay nm es top lo len)) (hS': ∀b,S b→S' b)
  (hall: ∀t b,μ nm t=some b→S' b):bI w S' v (gI H nm es top lo len):=by
 unfold gI;split
 ·rename_i es' elems vf ro hg;split
  ·rename_i hc;obtain⟨rfl,hvf,hlen,htop⟩:=hc
   cases hv with
   |ay _ _ _ _ _ cap b n e h1 h2 h3 h4 h5 h6=>
   obtain⟨h0,k1,k2,k3,k4⟩:=hH.fY _ _ hg _ _ h2;obtain⟨g1,g2,g3,g4⟩:=k4 top b h2;obtain⟨_,g5⟩:=g4 hvf;by_cases hz:len=0
   ·subst hz;simp;exact .dJ _ _
   ·have hlen2:((elems.drop lo).take len).length=len:=(by simp;omega);have hget: ∀i,i<len→(((elems.drop lo).take len).getD i [])=elems.getD (lo+i) []:=fun i hi=>by
     simp [List.getD_eq_getElem?_getD,List.getElem?_take,hi,List.getElem?_drop]
    have:=bI.slice (w:=w) (S:=S') b (lo*es') cap es' ((elems.drop lo).take len) (fun i j=>(w.cell? ⟨b,(lo+i)*es'+j,none⟩).getD undef) (hall _ _ h2) h0
     (fun r hr=>k1 r (List.mem_of_mem_drop (List.mem_of_mem_take hr)))
     (fun i j hi hj=>by
      rw [hlen2]at hi;obtain⟨u,u1,u2,u3⟩:=g5 (lo+i) j (by omega) hj;have e:lo*es'+(i*es'+j)=(lo+i)*es'+j:=(by rw [Nat.add_mul];omega);rw [e,u1];rfl)
     (fun i j hi hj=>by
      rw [hlen2]at hi;obtain⟨u,u1,u2,u3⟩:=g5 (lo+i) j (by omega) hj;simp only [u1,Option.getD_some];exact u2)
     (fun i j hi hj=>by
      rw [hlen2]at hi;obtain⟨u,u1,u2,u3⟩:=g5 (lo+i) j (by omega) hj;simp only [u1,Option.getD_some,hget i hi];exact u3.mono hS' (fun _ _=>rfl))
     (by rw [hlen2];omega)
    rw [hlen2]at this;exact this
  ·exact .dead _
 ·exact .dead _
theorem Da {b es:Nat}{r:List (List PV)}{cap:Nat}(hr:lH w S b es r)(hpos:0<es)(hw: ∀x∈r,x.length=es)(hc:r.length≤cap)(hS': ∀b,S b→S' b)(hb:S' b):
  bI w S' (.slice (some ⟨b,0,none⟩) r.length cap) (.slice r):=by
 obtain⟨_,_,h3⟩:=hr;refine bI.slice (w:=w) (S:=S') b 0 cap es r (fun i j=>(w.cell? ⟨b,i*es+j,none⟩).getD undef) hb hpos hw (fun i j hi hj=> ?_) (fun i j hi hj=> ?_) (fun i j hi hj=> ?_) hc
 ·obtain⟨u,u1,u2,u3⟩:=h3 i j hi hj;rw [Nat.zero_add,u1];rfl
 ·obtain⟨u,u1,u2,u3⟩:=h3 i j hi hj;simp only [u1,Option.getD_some];exact u2
 ·obtain⟨u,u1,u2,u3⟩:=h3 i j hi hj;simp only [u1,Option.getD_some];exact u3.mono hS' (fun _ _=>rfl)
theorem tv (hH:aN w S μ H) {ℓ:Nat} {v:Value} {nm:Nm} {es top lo len:Nat} (hv:ax w S μ ℓ v (.ay nm es top lo len)) (hS': ∀b,S b→S' b)
  (hall: ∀t b,μ nm t=some b→S' b):bI w S' v (fG H nm es top lo len):=by
 unfold fG;split
 ·rename_i es' rows n hg;split
  ·rename_i hc;obtain⟨rfl,hlen,htop⟩:=hc
   cases hv with
   |ay _ _ _ _ _ cap b n e h1 h2 h3 h4 h5 h6=>
   have m:cD w S μ nm es' rows _:=hH.fY _ _ hg _ _ h2;have hml:=m.le;obtain⟨g1,g2,g3,g4,g5⟩:=m.top top b (by have:=m.Az;omega) h2;by_cases hz:len=0
   ·subst hz;simp;exact .dJ _ _
   ·have hlen2:(((rows.drop lo).take len).map fun r=> [PV.slice r]).length=len:=(by simp;omega);have hget: ∀i,i<len→((((rows.drop lo).take len).map fun r=> [PV.slice r]).getD i [])=[.slice (rows.getD (lo+i) [])]:=fun i hi=>by
     have:lo+i<rows.length:=(by omega);simp [List.getD_eq_getElem?_getD,List.getElem?_take,hi,List.getElem?_drop,this]
    have:=bI.slice (w:=w) (S:=S') b (lo*1) cap 1 (((rows.drop lo).take len).map fun r=> [PV.slice r]) (fun i j=>(w.cell? ⟨b,lo+i,none⟩).getD undef) (hall _ _ h2) (by omega)
     (fun r hr=>by obtain⟨x,_,rfl⟩:=List.mem_map.1 hr;rfl)
     (fun i j hi hj=>by
      rw [hlen2]at hi;obtain⟨bi,cp,u1,u2,u3⟩:=g5 (lo+i) (by omega);obtain rfl:j=0:=(by omega);have e:lo*1+(i*1+0)=lo+i:=(by omega);rw [e,u1];rfl)
     (fun i j hi hj=>by
      rw [hlen2]at hi;obtain⟨bi,cp,u1,u2,u3⟩:=g5 (lo+i) (by omega);simp only [u1,Option.getD_some];rfl)
     (fun i j hi hj=>by
      rw [hlen2]at hi;obtain⟨bi,cp,u1,u2,u3⟩:=g5 (lo+i) (by omega);obtain rfl:j=0:=(by omega);rw [hget i hi];simp only [u1,Option.getD_some,List.getD_cons_zero];obtain⟨b',k1,k2⟩:=m.row (lo+i) (by omega);rw [u2]at k1;cases k1;refine Da k2 m.pos (fun x hx=> ?_) u3 hS' (hall _ _ u2);have hlt:lo+i<rows.length:=(by omega);rw [List.getD_eq_getElem?_getD,List.getElem?_eq_getElem hlt]at hx;exact m.wid _ (List.getElem_mem hlt) x hx)
     (by rw [hlen2];omega)
    rw [hlen2]at this;exact this
  ·exact .dead _
 ·exact xe hH hv hS' hall
theorem jY {nm:Nm}{es top lo len:Nat}:(df H (.ay nm es top lo len))=
  match H.get nm with
  |some (.arr es' elems vf _)=>if es'=es∧vf≤top∧lo+len≤top∧top≤elems.length then (.slice ((elems.drop lo).take len),H.set nm (.arr es' elems vf true))else (.dead,H)
  |_=>(.dead,H):=rfl
def dr (H H1:ae):Prop:=H1.length=H.length∧(∀nm cs,H.get nm=some (.box cs)→H1.get nm=some (.box cs))∧(∀nm,(H.get nm).isSome→(H1.get nm).isSome)
theorem dr.refl (H:ae):dr H H:=⟨rfl,fun _ _ h=>h,fun _ h=>h⟩
theorem dr.trans {H1 H2 H3:ae}(h:dr H1 H2)(k:dr H2 H3):dr H1 H3:=
 ⟨k.1.trans h.1,fun nm cs hg=>k.2.1 nm cs (h.2.1 nm cs hg),fun nm hg=>k.2.2 nm (h.2.2 nm hg)⟩
theorem kA (ℓ:Nat)(hH:aN w S μ H){k:Nat}{v:Value}{g:GV}(hv:ax w S μ k v g):
  ∃S',aN w S' μ (df H g).2∧Ev ℓ w S μ w S' μ∧bI w S' v (df H g).1∧dr H (df H g).2:=by
 have triv: ∀p,bI w S v p→ ∃S',aN w S' μ H∧Ev ℓ w S μ w S' μ∧bI w S' v p∧dr H H:=fun p hp=>⟨S,hH, .refl _ _ _ _,hp, .refl H⟩
 cases g with
 |pure p=>exact triv p hv.pv
 |aO=>cases hv with|aO a=>exact triv _ (.dJ a 0)
 |ay nm es top lo len=>
  rw [jY];have hs:=xe (S':=fun b=>S b∨ ∃t,μ nm t=some b) hH hv (fun b h=> .inl h) (fun t b h=> .inr ⟨t,h⟩);unfold gI at hs;split
  ·rename_i es' elems vf ro hg;rw [hg]at hs;simp only at hs;split
   ·rename_i hc;rw [if_pos hc]at hs;obtain⟨tb,bb,hbb⟩: ∃t b,μ nm t=some b:=(by cases hv with|ay _ _ _ _ _ cap b n e h1 h2 h3 h4 h5 h6=>exact⟨_,_,h2⟩);obtain⟨h1,h2⟩:=hH.freeze ℓ hg hbb;refine⟨_,h1,h2,hs,ae.length_set _ _ _,fun n cs hn=> ?_,fun n hn=> ?_⟩
    ·rw [ae.a9];exact hn;intro e;subst e;rw [hg]at hn;cases hn
    ·by_cases e:n=nm
     ·subst e;rw [ae.cw _ (ae.cj hg)];rfl
     ·rw [ae.a9 _ e];exact hn
   ·exact triv _ (.dead v)
  ·exact triv _ (.dead v)
 |_=>exact triv _ (.dead v)
theorem fH (ℓ:Nat): ∀{gs:List GV} {vs:List Value} {S:Nat→Prop} {H:ae} {k:Nat},aN w S μ H→bz w S μ k vs gs→
  ∃S',aN w S' μ (bp H gs).2∧Ev ℓ w S μ w S' μ∧bz w S' μ k vs ((bp H gs).1.map .pure)∧dr H (bp H gs).2
 | [],vs,S,H,k,hH,hc=>by cases hc;exact⟨S,hH, .refl _ _ _ _, .nil, .refl H⟩
 |g::gs,vs,S,H,k,hH,hc=>by
  cases hc with
  |cons h1 h2 h3=>
  obtain⟨S1,a1,a2,a3,a4⟩:=kA ℓ hH h2;have h3':bz w S1 μ k _ gs:=h3.mono a2.sub (fun _ _=>rfl) (fun _ _ h=>h) (fun _ _ _ _ h=>h) (Nat.le_refl _);obtain⟨S2,b1,b2,b3,b4⟩:=fH ℓ a1 h3';refine⟨S2,b1,a2.trans b2, ?_,a4.trans b4⟩;exact .cons h1 (.pure _ _ (a3.mono b2.sub (fun _ _=>rfl))) b3
theorem gC {l0:Nat}{k:Nat}: ∀{gs:List GV} {f:Nat→Value},cT l0 gs=true→(∀j,j<gs.length→ax w S μ k (f j) (gs.getD j aG))→
  ∀j,j<gs.length→ax w S μ l0 (f j) (gs.getD j aG)
 | [],f,_,h=>by simp
 |g::gs,f,ha,h=>by
  have hrec:cT l0 gs=true→ ∀j,j<gs.length→ax w S μ l0 (f (j+1)) (gs.getD j aG):=fun ha'=>
   gC (f:=fun j=>f (j+1)) ha' (fun j hj=>by simpa using h (j+1) (by simpa using hj))
  have h0:ax w S μ k (f 0) g:=(by simpa using h 0 (by simp));have main:ax w S μ l0 (f 0) g∧cT l0 gs=true:=by
   generalize f 0=v at h0
   cases h0 with
   |pure _ p hp=>exact⟨.pure _ _ hp,by simpa [cT]using ha⟩
   |bF b o cs f' hS hf h1 hr=>exact⟨.bF b o cs f' hS hf h1 hr,by simpa [cT]using ha⟩
   |aO a=>exact⟨.aO a,by simpa [cT]using ha⟩
   |aA nm off b h1 h2=>simp [cT]at ha;exact⟨.aA nm off b ha.1 h2,ha.2⟩
   |bZ nm es top i off b h1 h2=>simp [cT]at ha;exact⟨.bZ nm es top i off b ha.1 h2,ha.2⟩
   |ay nm es top lo len cap b n e h1 h2 h3 h4 h5 h6=>simp [cT]at ha;exact⟨.ay nm es top lo len cap b n e ha.1 h2 h3 h4 h5 h6,ha.2⟩
   |yield nm b h1 h2=>simp [cT]at ha;exact⟨.yield nm b ha.1 h2,ha.2⟩
   |map nm b h1 h2=>simp [cT]at ha;exact⟨.map nm b ha.1 h2,ha.2⟩
   |_=>simp [cT]at ha
  intro j hj
  cases j with
  |zero=>simpa using main.1
  |succ j=>simpa using hrec main.2 j (by simpa using hj)
theorem mY {k l0:Nat} {v:Value} {g:GV} (hv:ax w S μ k v g) (hS': ∀b,S b→S' b)
  (hall: ∀nm es top lo len,g= .ay nm es top lo len→ ¬nm.1≤l0→bI w S' v (fG H nm es top lo len)):
  ax w S' μ l0 v (cH H l0 g):=by
 have up: ∀{v g},ax w S μ l0 v g→ax w S' μ l0 v g:=fun h=>h.mono hS' (fun _ _=>rfl) (fun _ _ h=>h) (fun _ _ _ _ h=>h) (Nat.le_refl _)
 cases hv with
 |pure _ p hp=>exact up (.pure _ _ hp)
 |bF b o cs f hS hf h1 hr=>exact up (.bF b o cs f hS hf h1 hr)
 |fO b o cs f hS hf h1 hr=>
  simp only [cH];split
  ·rename_i ha;exact up (.fO b o cs f hS hf h1 (gC ha hr))
  ·exact cW _
 |aO a=>exact up (.aO a)
 |lits b o cap es l f hS he hes hf h1 hr=>
  simp only [cH];split
  ·rename_i ha;refine up (.lits b o cap es l f hS he hes hf h1 fun i j hi hj=> ?_);have hi':l[i]∈l:=List.getElem_mem hi;have e:l.getD i []=l[i]:=(by simp [List.getD_eq_getElem?_getD,hi]);have hl:(l[i]).length=es:=hes _ hi';rw [e];refine gC (k:=k) (f:=f i) (List.all_eq_true.1 ha _ hi') (fun j hj=> ?_) j (by omega);have:=hr i j hi (by omega)
   rwa [e]at this
  ·exact cW _
 |aA nm off b h1 h2=>simp only [cH];split;exact up (.aA nm off b ‹_› h2);exact cW _
 |bZ nm es top i off b h1 h2=>simp only [cH];split;exact up (.bZ nm es top i off b ‹_› h2);exact cW _
 |ay nm es top lo len cap b n e h1 h2 h3 h4 h5 h6=>
  simp only [cH];split
  ·exact up (.ay nm es top lo len cap b n e ‹_› h2 h3 h4 h5 h6)
  ·rename_i hl;exact .pure _ _ (hall nm es top lo len rfl hl)
 |agg vs l h h1 hr=>exact cW _
 |tuple vs l h hr=>exact cW _
 |func f a c la lc h1 h2 hr1 hr2=>
  simp only [cH];split
  ·rename_i ha;simp only [Bool.and_eq_true]at ha;exact up (.func f a c la lc h1 h2 (gC ha.1 hr1) (gC ha.2 hr2))
  ·exact cW _
 |yield nm b h1 h2=>simp only [cH];split;exact up (.yield nm b ‹_› h2);exact cW _
 |map nm b h1 h2=>simp only [cH];split;exact up (.map nm b ‹_› h2);exact cW _
 |eT nm es i len cap b h1 h2 h3=>simp only [cH];split;exact up (.eT nm es i len cap b ‹_› h2 h3);exact cW _
 |fZ nm es i j off b h1 h2=>simp only [cH];split;exact up (.fZ nm es i j off b ‹_› h2);exact cW _
theorem ng (hH:aN w S μ H){k l0:Nat}{v:Value}{g:GV}(hv:ax w S μ k v g)(hS': ∀b,S b→S' b)(hall: ∀nm t b,l0<nm.1→μ nm t=some b→S' b):
  ax w S' μ l0 v (cH H l0 g):=
 mY hv hS' fun nm es top lo len e hl=>by subst e;exact tv hH hv hS' (fun t b h=>hall nm t b (by omega) h)
theorem u9 (hH:aN w S μ H) {k l0:Nat} (hS': ∀b,S b→S' b) (hall: ∀nm t b,l0<nm.1→μ nm t=some b→S' b) {vs:List Value} {gs:List GV}
  (h:bz w S μ k vs gs):bz w S' μ l0 vs (gs.map (cH H l0)):=by
 induction h with
 |nil=>exact .nil
 |cons h1 h2 _ ih=>exact .cons h1 (ng hH h2 hS' hall) ih
theorem ax.cells {k:Nat}{v:Value}{l:List GV}(h:ax w S μ k v (.agg l)): ∃vs:Array Value,v= .agg vs∧bz w S μ k vs.toList l:=by
 cases h with
 |agg vs _ h1 h2 h3=>
  exact⟨vs,rfl, .mZ _ _ (by simpa using h1) fun j hj=>by
   have a:=h2 j hj;have b:=h3 j hj;rw [dP]at a b;exact⟨a,b⟩⟩
theorem Db (hH:aN w S μ H) {k l0:Nat} {v:Value} {g g':GV} (hv:ax w S μ k v g) (hS': ∀b,S b→S' b) (hall: ∀nm t b,l0<nm.1→μ nm t=some b→S' b)
  (h:nJ H l0 g=some g'):ax w S' μ l0 v g':=by
 have up: ∀{v g},ax w S μ l0 v g→ax w S' μ l0 v g:=fun h=>h.mono hS' (fun _ _=>rfl) (fun _ _ h=>h) (fun _ _ _ _ h=>h) (Nat.le_refl _)
 cases hv with
 |pure _ p hp=>simp only [nJ,Option.some.injEq]at h;subst h;exact up (.pure _ _ hp)
 |bF b o cs f hS hf h1 hr=>simp only [nJ,Option.some.injEq]at h;subst h;exact up (.bF b o cs f hS hf h1 hr)
 |aO a=>simp only [nJ,Option.some.injEq]at h;subst h;exact up (.aO a)
 |aA nm off b h1 h2=>
  simp only [nJ]at h;split at h
  ·simp only [Option.some.injEq]at h;subst h;exact up (.aA nm off b ‹_› h2)
  ·rename_i hl;split at h
   ·rename_i cs hg;split at h
    ·rename_i ps hps;split at h
     ·rename_i ho;simp only [Option.some.injEq]at h;subst h;obtain⟨b',c,e,q1,_,q3,q4⟩:=hH.fY nm _ hg 0 b h2;rw [h2]at q1;cases q1;rw [dG hps]at q4;obtain⟨z1,z2⟩:=bz.mG _ _ q4;refine .bF b off (ps.drop off) (fun j=>c.toList.getD (off+j) undef) (fun _=>hall nm 0 b (by omega) h2) (fun j hj=> ?_) (fun j hj=> ?_) (fun j hj=> ?_)
      ·have hj':off+j<c.toList.length:=(by rw [z1];simp at hj;omega);have this:c.toList[off+j]? =some (c.toList.getD (off+j) undef):=(by rw [List.getD_eq_getElem?_getD,List.getElem?_eq_getElem hj'];rfl);simp only [World.cell?,q3];simpa using this
      ·exact(z2 (off+j) (by simp at hj;omega)).1
      ·have:=(z2 (off+j) (by simp at hj;omega)).2;have e:(ps.drop off).getD j .dead=ps.getD (off+j) .dead:=(by simp [List.getD_eq_getElem?_getD,List.getElem?_drop]);rw [e];exact this.mono hS' (fun _ _=>rfl)
     ·cases h
    ·cases h
   ·cases h
 |_=>simp [nJ]at h
theorem tZ (hH:aN w S μ H){k l0:Nat}(hS': ∀b,S b→S' b)(hall: ∀nm t b,l0<nm.1→μ nm t=some b→S' b):
  ∀{gs gs':List GV} {f:Nat→Value},mE H l0 gs=some gs'→(∀j,j<gs.length→ax w S μ k (f j) (gs.getD j aG))→gs'.length=gs.length∧ ∀j,j<gs'.length→ax w S' μ l0 (f j) (gs'.getD j aG)
 | [],gs',f,h,_=>by
  simp only [mE,Option.some.injEq]at h;subst h;exact⟨rfl,fun j hj=>absurd hj (Nat.not_lt_zero _)⟩
 |g::gs,gs',f,h,hr=>by
  simp only [mE]at h;split at h
  ·rename_i g1 r1 e1 e2;simp only [Option.some.injEq]at h;subst h;obtain⟨a,b⟩:=tZ hH hS' hall (f:=fun j=>f (j+1)) e2 (fun j hj=>by simpa using hr (j+1) (by simpa using hj));refine⟨by simp [a],fun j hj=> ?_⟩
   cases j with
   |zero=>simpa using Db hH (by simpa using hr 0 (by simp)) hS' hall e1
   |succ j=>simpa using b j (by simpa using hj)
  ·cases h
theorem se (hH:aN w S μ H){k l0:Nat}{v:Value}{g:GV}(hv:ax w S μ k v g)(hS': ∀b,S b→S' b)(hall: ∀nm t b,l0<nm.1→μ nm t=some b→S' b):
  ax w S' μ l0 v (fN H l0 g):=by
 cases g with
 |agg l=>
  obtain⟨vs,rfl,hc⟩:=hv.cells;exact dK (u9 hH hS' hall hc)
 |func f la lc=>
  simp only [fN];split
  ·rename_i ha;have:=ng (l0:=l0) hH hv hS' hall;simpa only [cH,ha,if_true]using this
  ·split
   ·rename_i hf;split
    ·rename_i cap' hc
     cases hv with
     |func _ a c _ _ h1 h2 hr1 hr2=>
      obtain⟨e1,e2⟩:=tZ hH hS' hall hc hr2;exact .func f a c la cap' h1 (by rw [e1];exact h2) (fun j hj=>(gC hf hr1 j hj).mono hS' (fun _ _=>rfl) (fun _ _ h=>h) (fun _ _ _ _ h=>h) (Nat.le_refl _)) e2
    ·exact cW _
   ·exact cW _
 |_=>exact ng hH hv hS' hall
theorem AI (hH:aN w S μ H){k l0:Nat}{v:Value}{g:GV}(hv:ax w S μ k v g)(hS': ∀b,S b→S' b)(hall: ∀nm t b,l0<nm.1→μ nm t=some b→S' b):
  ax w S' μ l0 v (clean H l0 g):=by
 cases g with
 |tuple l=>
  cases hv with
  |tuple vs _ h1 h2=>
   refine fT (by simpa using h1) fun j hj=> ?_;have hj':j<l.length:=(by simpa using hj);have e:(l.map (fN H l0)).getD j aG=fN H l0 (l.getD j aG):=(by simp [List.getD_eq_getElem?_getD,hj']);rw [e];exact se hH (h2 j hj') hS' hall
 |_=>exact se hH hv hS' hall
theorem mD (ℓ:Nat)(hH:aN w S μ H){k:Nat}{v:Value}{g:GV}(l0:Nat)(hv:ax w S μ k v g):
  ∃S',aN w S' μ (dx H l0 g).2∧Ev ℓ w S μ w S' μ∧ax w S' μ l0 v (dx H l0 g).1∧dr H (dx H l0 g).2:=by
 cases g with
 |ay nm es top lo len=>
  simp only [dx];split
  ·rename_i hl;refine⟨S,hH, .refl _ _ _ _, ?_, .refl H⟩
   cases hv with
   |ay _ _ _ _ _ cap b n e h1 h2 h3 h4 h5 h6=>exact .ay nm es top lo len cap b n e hl h2 h3 h4 h5 h6
  ·obtain⟨S',a1,a2,a3,a4⟩:=kA ℓ hH hv;exact⟨S',a1,a2, .pure _ _ a3,a4⟩
 |_=>exact⟨S,hH, .refl _ _ _ _,mY (H:=H) hv (fun _ h=>h) (fun nm es top lo len e _=>by cases e), .refl H⟩
theorem iW (ℓ l0:Nat): ∀{gs:List GV} {vs:List Value} {S:Nat→Prop} {H:ae} {k:Nat},aN w S μ H→bz w S μ k vs gs→
  ∃S',aN w S' μ (cK H l0 gs).2∧Ev ℓ w S μ w S' μ∧bz w S' μ l0 vs (cK H l0 gs).1∧dr H (cK H l0 gs).2
 | [],vs,S,H,k,hH,hc=>by cases hc;exact⟨S,hH, .refl _ _ _ _, .nil, .refl H⟩
 |g::gs,vs,S,H,k,hH,hc=>by
  cases hc with
  |cons h1 h2 h3=>
  obtain⟨S1,a1,a2,a3,a4⟩:=mD ℓ hH l0 h2;have h3':bz w S1 μ k _ gs:=h3.mono a2.sub (fun _ _=>rfl) (fun _ _ h=>h) (fun _ _ _ _ h=>h) (Nat.le_refl _);obtain⟨S2,b1,b2,b3,b4⟩:=iW ℓ l0 a1 h3';exact⟨S2,b1,a2.trans b2, .cons h1 (a3.mono b2.sub (fun _ _=>rfl) (fun _ _ h=>h) (fun _ _ _ _ h=>h) (Nat.le_refl _)) b3,a4.trans b4⟩
end
end
end Go.Gh
