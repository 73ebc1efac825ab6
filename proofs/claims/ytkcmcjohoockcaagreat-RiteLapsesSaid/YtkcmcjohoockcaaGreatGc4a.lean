/- Texts joined: the evaluator over ghost values, its soundness, the walks. Spaces struck and names made short by a program, for the size. -/
import Derived.RangeFuncLeaves
import Derived.WalkKit
import Derived.Eval
import Derived.Laws.CopyRow
namespace Go.Gh
set_option linter.unusedVariables false
set_option linter.unusedSimpArgs false
set_option linter.unnecessarySimpa false
set_option maxRecDepth 100000
set_option maxHeartbeats 8000000
inductive PV where
 |int (k:IntKind) (n:Int)
 |bool (b:Bool)
 |str (s:List UInt8)
 |slice (l:List (List PV))
 |agg (l:List PV)
 |tuple (l:List PV)
 |fn (f:FuncId)
 |qK
 |iA
 |oQ
 |rQ
 |iface (t:TypeId) (v:PV)
 |dead
 deriving Inhabited
abbrev Nm:=Nat×Nat
inductive GV where
 |pure (p:PV)
 |dN (cs:List PV)
 |aS
 |aD (nm:Nm) (off:Nat)
 |eJ (nm:Nm) (es top i off:Nat)
 |aW (nm:Nm) (es top lo len:Nat)
 |lits (l:List (List GV))
 |ij (cs:List GV)
 |agg (l:List GV)
 |tuple (l:List GV)
 |func (f:FuncId) (first cap:List GV)
 |yield (nm:Nm)
 |map (nm:Nm)
 |hZ (nm:Nm) (es i len:Nat)
 |ji (nm:Nm) (es i j off:Nat)
 deriving Inhabited
mutual
def PV.beq:PV→PV→Bool
 | .int k a, .int k' b=>decide (k=k') && a==b
 | .bool a, .bool b=>a==b
 | .str a, .str b=>a==b
 | .slice a, .slice b=>PV.kg a b
 | .agg a, .agg b=>PV.ko a b
 | .tuple a, .tuple b=>PV.ko a b
 | .fn f, .fn g=>f==g
 | .qK, .qK| .iA, .iA| .oQ, .oQ| .rQ, .rQ| .dead, .dead=>true
 | .iface t v, .iface u w=>t==u && PV.beq v w
 |_,_=>false
def PV.ko:List PV→List PV→Bool
 | [],[]=>true
 |a::r,b::s=>PV.beq a b && PV.ko r s
 |_,_=>false
def PV.kg:List (List PV)→List (List PV)→Bool
 | [],[]=>true
 |a::r,b::s=>PV.ko a b && PV.kg r s
 |_,_=>false
end
mutual
def GV.beq:GV→GV→Bool
 | .pure a, .pure b=>PV.beq a b
 | .dN a, .dN b=>PV.ko a b
 | .aS, .aS=>true
 | .aD n o, .aD m p=>n==m && o==p
 | .eJ n e t i o, .eJ m e' t' i' o'=>n==m && e==e' && t==t' && i==i' && o==o'
 | .aW n e t i o, .aW m e' t' i' o'=>n==m && e==e' && t==t' && i==i' && o==o'
 | .lits a, .lits b=>GV.kg a b
 | .ij a, .ij b=>GV.ko a b
 | .agg a, .agg b=>GV.ko a b
 | .tuple a, .tuple b=>GV.ko a b
 | .func f a c, .func g b d=>f==g && GV.ko a b && GV.ko c d
 | .yield n, .yield m=>n==m
 | .map n, .map m=>n==m
 | .hZ n e i l, .hZ m e' i' l'=>n==m && e==e' && i==i' && l==l'
 | .ji n e i j o, .ji m e' i' j' o'=>n==m && e==e' && i==i' && j==j' && o==o'
 |_,_=>false
def GV.ko:List GV→List GV→Bool
 | [],[]=>true
 |a::r,b::s=>GV.beq a b && GV.ko r s
 |_,_=>false
def GV.kg:List (List GV)→List (List GV)→Bool
 | [],[]=>true
 |a::r,b::s=>GV.ko a b && GV.kg r s
 |_,_=>false
end
mutual
theorem PV.beq_eq: ∀a b:PV,PV.beq a b=true→a=b
 | .int k a,b,h=>by cases b<;>simp_all [PV.beq]
 | .bool a,b,h=>by cases b<;>simp_all [PV.beq]
 | .str a,b,h=>by cases b<;>simp_all [PV.beq]
 | .slice a,b,h=>by cases b<;>simp [PV.beq]at h;rw [PV.o5 _ _ h]
 | .agg a,b,h=>by cases b<;>simp [PV.beq]at h;rw [PV.iC _ _ h]
 | .tuple a,b,h=>by cases b<;>simp [PV.beq]at h;rw [PV.iC _ _ h]
 | .fn f,b,h=>by cases b<;>simp_all [PV.beq]
 | .qK,b,h=>by cases b<;>simp_all [PV.beq]
 | .iA,b,h=>by cases b<;>simp_all [PV.beq]
 | .oQ,b,h=>by cases b<;>simp_all [PV.beq]
 | .rQ,b,h=>by cases b<;>simp_all [PV.beq]
 | .iface t v,b,h=>by cases b<;>simp [PV.beq]at h;rw [h.1,PV.beq_eq _ _ h.2]
 | .dead,b,h=>by cases b<;>simp_all [PV.beq]
theorem PV.iC: ∀a b:List PV,PV.ko a b=true→a=b
 | [],b,h=>by cases b<;>simp_all [PV.ko]
 |x::r,b,h=>by
  cases b with
  |nil=>simp [PV.ko]at h
  |cons y s=>simp [PV.ko]at h;rw [PV.beq_eq _ _ h.1,PV.iC _ _ h.2]
theorem PV.o5: ∀a b:List (List PV),PV.kg a b=true→a=b
 | [],b,h=>by cases b<;>simp_all [PV.kg]
 |x::r,b,h=>by
  cases b with
  |nil=>simp [PV.kg]at h
  |cons y s=>simp [PV.kg]at h;rw [PV.iC _ _ h.1,PV.o5 _ _ h.2]
end
mutual
theorem GV.beq_eq: ∀a b:GV,GV.beq a b=true→a=b
 | .pure a,b,h=>by cases b<;>simp [GV.beq]at h;rw [PV.beq_eq _ _ h]
 | .dN a,b,h=>by cases b<;>simp [GV.beq]at h;rw [PV.iC _ _ h]
 | .aS,b,h=>by cases b<;>simp_all [GV.beq]
 | .aD n o,b,h=>by cases b<;>simp_all [GV.beq]
 | .eJ n e t i o,b,h=>by cases b<;>simp_all [GV.beq]
 | .aW n e t i o,b,h=>by cases b<;>simp_all [GV.beq]
 | .lits a,b,h=>by cases b<;>simp [GV.beq]at h;rw [GV.o5 _ _ h]
 | .ij a,b,h=>by cases b<;>simp [GV.beq]at h;rw [GV.iC _ _ h]
 | .agg a,b,h=>by cases b<;>simp [GV.beq]at h;rw [GV.iC _ _ h]
 | .tuple a,b,h=>by cases b<;>simp [GV.beq]at h;rw [GV.iC _ _ h]
 | .func f a c,b,h=>by cases b<;>simp [GV.beq]at h;rw [h.1.1,GV.iC _ _ h.1.2,GV.iC _ _ h.2]
 | .yield n,b,h=>by cases b<;>simp_all [GV.beq]
 | .map n,b,h=>by cases b<;>simp_all [GV.beq]
 | .hZ n e i l,b,h=>by cases b<;>simp_all [GV.beq]
 | .ji n e i j o,b,h=>by cases b<;>simp_all [GV.beq]
theorem GV.iC: ∀a b:List GV,GV.ko a b=true→a=b
 | [],b,h=>by cases b<;>simp_all [GV.ko]
 |x::r,b,h=>by
  cases b with
  |nil=>simp [GV.ko]at h
  |cons y s=>simp [GV.ko]at h;rw [GV.beq_eq _ _ h.1,GV.iC _ _ h.2]
theorem GV.o5: ∀a b:List (List GV),GV.kg a b=true→a=b
 | [],b,h=>by cases b<;>simp_all [GV.kg]
 |x::r,b,h=>by
  cases b with
  |nil=>simp [GV.kg]at h
  |cons y s=>simp [GV.kg]at h;rw [GV.iC _ _ h.1,GV.o5 _ _ h.2]
end
mutual
@[simp] theorem PV.si: ∀a:PV,PV.beq a a=true
 | .int k a=>by simp [PV.beq]
 | .bool a=>by simp [PV.beq]
 | .str a=>by simp [PV.beq]
 | .slice a=>by simp [PV.beq,PV.lG a]
 | .agg a=>by simp [PV.beq,PV.fy a]
 | .tuple a=>by simp [PV.beq,PV.fy a]
 | .fn f=>by simp [PV.beq]
 | .qK=>rfl
 | .iA=>rfl
 | .oQ=>rfl
 | .rQ=>rfl
 | .iface t v=>by simp [PV.beq,PV.si v]
 | .dead=>rfl
@[simp] theorem PV.fy: ∀a:List PV,PV.ko a a=true
 | []=>rfl
 |x::r=>by simp [PV.ko,PV.si x,PV.fy r]
@[simp] theorem PV.lG: ∀a:List (List PV),PV.kg a a=true
 | []=>rfl
 |x::r=>by simp [PV.kg,PV.fy x,PV.lG r]
end
mutual
@[simp] theorem GV.si: ∀a:GV,GV.beq a a=true
 | .pure a=>by simp [GV.beq]
 | .dN a=>by simp [GV.beq]
 | .aS=>rfl
 | .aD n o=>by simp [GV.beq]
 | .eJ n e t i o=>by simp [GV.beq]
 | .aW n e t i o=>by simp [GV.beq]
 | .lits a=>by simp [GV.beq,GV.lG a]
 | .ij a=>by simp [GV.beq,GV.fy a]
 | .agg a=>by simp [GV.beq,GV.fy a]
 | .tuple a=>by simp [GV.beq,GV.fy a]
 | .func f a c=>by simp [GV.beq,GV.fy a,GV.fy c]
 | .yield n=>by simp [GV.beq]
 | .map n=>by simp [GV.beq]
 | .hZ n e i l=>by simp [GV.beq]
 | .ji n e i j o=>by simp [GV.beq]
@[simp] theorem GV.fy: ∀a:List GV,GV.ko a a=true
 | []=>rfl
 |x::r=>by simp [GV.ko,GV.si x,GV.fy r]
@[simp] theorem GV.lG: ∀a:List (List GV),GV.kg a a=true
 | []=>rfl
 |x::r=>by simp [GV.kg,GV.fy x,GV.lG r]
end
inductive GX where
 |normal
 |exit (id:Nat)
 |ret
 deriving DecidableEq,Inhabited
structure Bl where
 fD:List (Nat×GV)
 nt:Nat
 params:List Tmp
 assign:Code
 body:Code
 fn:FuncId
 state:LoopState
 pending:Option GX
 deriving Inhabited
inductive dM where
 |box (cells:List GV)
 |arr (es:Nat) (elems:List (List PV)) (vf:Nat) (ro:Bool)
 |map (entries:List (PV×GV))
 |loop (l:Bl)
 |rm (es:Nat) (rows:List (List (List PV))) (n:Nat)
 deriving Inhabited
abbrev Fr:=List (Nat×dM)
def Fr.get:Fr→Nat→Option dM
 | [],_=>none
 |(k,b)::r,q=>if q=k then some b else Fr.get r q
def Fr.ins (q:Nat)(x:dM):Fr→Fr
 | []=> [(q,x)]
 |(k,b)::r=>if q=k then (q,x)::r else if q<k then (q,x)::(k,b)::r else (k,b)::Fr.ins q x r
abbrev aj:=List Fr
def aj.get:aj→Nm→Option dM
 | [],_=>none
 |f::H,nm=>if nm.1=H.length then f.get nm.2 else aj.get H nm
def aj.set:aj→Nm→dM→aj
 | [],_,_=> []
 |f::H,nm,b=>if nm.1=H.length then f.ins nm.2 b::H else f::aj.set H nm b
abbrev bd:=List (Nat×GV)
def aP:GV:= .pure .dead
def ly:GV:= .pure (.tuple [])
def look:bd→Nat→GV
 | [],_=>aP
 |(k,v)::r,t=>if t=k then v else look r t
structure bP where
 s:bd
 h:aj
 nt:Nat
def bP.put (st:bP)(d:Option Tmp)(v:GV):Option bP:=
 match d with
 |none=>some st
 |some d=>if d<st.nt then some {st with s:=(d,v)::st.s}else none
def bG:List GV→Option (List PV)
 | []=>some []
 | .pure p::r=>match bG r with|some ps=>some (p::ps)|none=>none
 |_::_=>none
def dm (l:List GV):GV:=match bG l with|some ps=> .pure (.agg ps)|none=> .agg l
def mkTuple (l:List GV):GV:=match bG l with|some ps=> .pure (.tuple ps)|none=> .tuple l
def bQ:GV→Option (List GV)
 | .agg l=>some l
 | .pure (.agg l)=>some (l.map .pure)
 | .pure .dead| .pure (.tuple _)| .tuple _=>none
 |g=>some [g]
def mL:Value→GV
 | .int k n=> .pure (.int k n)
 | .bool b=> .pure (.bool b)
 | .string s=> .pure (.str s.data.toList)
 | .slice none 0 0=> .aS
 | .pointer none=> .pure .qK
 | .nilFunc=> .pure .iA
 | .map none=> .pure .oQ
 | .nilIface=> .pure .rQ
 |_=>aP
def ofConst:Value→GV
 | .agg cs=>if cs.toList.all Value.oneCell' then dm (cs.toList.map mL)else aP
 |v=>mL v
def ev (s:bd):Operand→GV
 | .tmp t=>look s t
 | .const v=>ofConst v
 | .func f=> .pure (.fn f)
 | .global _=>aP
def cK:GV→GV
 | .aS=> .pure (.slice [])
 |g=>g
def canon:GV→GV
 | .aS=> .pure (.slice [])
 | .agg l=>dm (l.map cK)
 | .tuple l=>mkTuple (l.map fun g=>match g with| .agg l=>dm (l.map cK)|g=>cK g)
 |g=>g
def bD (P:Program)(t:TypeId):Option Nat:=(P.info? t).map (·.size)
def lx (P:Program)(t:TypeId):Option Nat:=(P.info? t).map (·.bytes)
def cT (P:Program)(t:TypeId):Option GV:=match P.info? t with|some i=>(match i.zero with|some v=>some (ofConst v)|none=>none)|none=>none
def fk (P:Program)(t:TypeId):Option Bool:=
 match P.underlying t with
 |some (.struct _)|some (.array _ _)=>some true
 |some _=>some false
 |none=>none
def dY (P:Program)(t:TypeId):Option TypeId:=match P.underlying t with|some (.slice e)=>some e|_=>none
def uO (P:Program)(t:TypeId):Option (Nat×TypeId):=match P.underlying t with|some (.array n e)=>some (n,e)|_=>none
def mo (P:Program)(t:TypeId)(f:Nat):Option (Nat×TypeId):=
 match P.underlying t with
 |some (.struct fs)=>match fs[f]? with|some x=>some (x.offset,x.type)|none=>none
 |_=>none
def placesOf (P:Program):List Field→Option (List (Nat×Nat))
 | []=>some []
 |f::r=>match bD P f.type,placesOf P r with|some n,some l=>some ((f.offset,n)::l)|_,_=>none
def fV (P:Program)(t:TypeId):Option (List (Nat×Nat)):=
 match P.underlying t with
 |some (.struct fs)=>placesOf P fs.toList
 |_=>none
def js (H:aj)(nm:Nm)(es top lo len:Nat):PV:=
 match H.get nm with
 |some (.arr es' elems vf _)=>if es'=es∧vf≤top∧lo+len≤top∧top≤elems.length then .slice ((elems.drop lo).take len)else .dead
 |_=> .dead
def ig (H:aj)(nm:Nm)(es top lo len:Nat):PV:=
 match H.get nm with
 |some (.rm _ rows n)=>if es=1∧lo+len≤top∧top≤n then .slice (((rows.drop lo).take len).map fun r=> [.slice r])else .dead
 |_=>js H nm es top lo len
def fU (l0:Nat):List GV→Bool
 | []=>true
 | .pure _::r| .dN _::r| .aS::r=>fU l0 r
 | .aD nm _::r| .eJ nm _ _ _ _::r| .aW nm _ _ _ _::r| .yield nm::r| .map nm::r=>decide (nm.1≤l0) && fU l0 r
 |_::_=>false
def cL (H:aj)(l0:Nat):GV→GV
 | .aW nm es top lo len=>if nm.1≤l0 then .aW nm es top lo len else .pure (ig H nm es top lo len)
 | .aD nm off=>if nm.1≤l0 then .aD nm off else aP
 | .eJ nm es top i off=>if nm.1≤l0 then .eJ nm es top i off else aP
 | .yield nm=>if nm.1≤l0 then .yield nm else aP
 | .map nm=>if nm.1≤l0 then .map nm else aP
 | .func f first cap=>if fU l0 first && fU l0 cap then .func f first cap else aP
 | .pure p=> .pure p
 | .dN cs=> .dN cs
 | .aS=> .aS
 | .lits l=>if l.all (fU l0)then .lits l else aP
 | .ij cs=>if fU l0 cs then .ij cs else aP
 | .hZ nm es i len=>if nm.1≤l0 then .hZ nm es i len else aP
 | .ji nm es i j off=>if nm.1≤l0 then .ji nm es i j off else aP
 | .agg _| .tuple _=>aP
def sV (H:aj)(l0:Nat):GV→Option GV
 | .pure p=>some (.pure p)
 | .dN cs=>some (.dN cs)
 | .aS=>some .aS
 | .aD nm off=>if nm.1≤l0 then some (.aD nm off)else
  match H.get nm with
  |some (.box cs)=>(match bG cs with|some ps=>if off≤ps.length then some (.dN (ps.drop off))else none|none=>none)
  |_=>none
 |_=>none
def rN (H:aj)(l0:Nat):List GV→Option (List GV)
 | []=>some []
 |g::r=>match sV H l0 g,rN H l0 r with|some g,some r=>some (g::r)|_,_=>none
def ju (H:aj)(l0:Nat):GV→GV
 | .agg l=>dm (l.map (cL H l0))
 | .func f first cap=>if fU l0 first && fU l0 cap then .func f first cap else if fU l0 first then (match rN H l0 cap with|some cap=> .func f first cap|none=>aP)else aP
 |g=>cL H l0 g
def clean (H:aj)(l0:Nat):GV→GV
 | .tuple l=>mkTuple (l.map (ju H l0))
 |g=>ju H l0 g
def dI (H:aj):GV→PV×aj
 | .pure p=>(p,H)
 | .aS=>(.slice [],H)
 | .aW nm es top lo len=>
  match H.get nm with
  |some (.arr es' elems vf _)=>if es'=es∧vf≤top∧lo+len≤top∧top≤elems.length then (.slice ((elems.drop lo).take len),H.set nm (.arr es' elems vf true))else (.dead,H)
  |_=>(.dead,H)
 |_=>(.dead,H)
def bI (H:aj):List GV→List PV×aj
 | []=>([],H)
 |g::r=>let (p,H1):=dI H g;let (ps,H2):=bI H1 r;(p::ps,H2)
def ez (H:aj)(l0:Nat):GV→GV×aj
 | .aW nm es top lo len=>if nm.1≤l0 then (.aW nm es top lo len,H)else let (p,H1):=dI H (.aW nm es top lo len);(.pure p,H1)
 |g=>(cL H l0 g,H)
def cG (H:aj)(l0:Nat):List GV→List GV×aj
 | []=>([],H)
 |g::r=>let (p,H1):=ez H l0 g;let (ps,H2):=cG H1 l0 r;(p::ps,H2)
def aE {α:Type}(l:List α)(off:Nat)(xs:List α):List α:=l.take off++xs++l.drop (off+xs.length)
def jH (P:Program)(t:TypeId)(H:aj)(a:GV):Option GV:=
 match fk P t,bD P t with
 |some ag,some size=>
  match a with
  | .aD nm off=>
   match H.get nm with
   |some (.box cs)=>if ag then (if off+size≤cs.length then some (dm ((cs.drop off).take size))else none)else cs[off]?
   |_=>none
  | .eJ nm es top i off=>
   match H.get nm with
   |some (.arr es' elems vf _)=>
    if es'=es∧vf≤top∧i<top∧top≤elems.length then
     (match elems[i]? with
     |some e=>if ag then (if off+size≤e.length then some (.pure (.agg ((e.drop off).take size)))else none)else (match e[off]? with|some p=>some (.pure p)|none=>none)
     |none=>none)
    else none
   |some (.rm es' rows n)=>if ag=false∧es=1∧off=0∧i<top∧top≤n then (match rows[i]? with|some r=>some (.hZ nm es' i r.length)|none=>none)else none
   |_=>none
  | .ji nm es i j off=>
   match H.get nm with
   |some (.rm es' rows _)=>
    if es'=es then
     (match rows[i]? with
     |some r=>
      (match r[j]? with
      |some e=>if ag then (if off+size≤e.length then some (.pure (.agg ((e.drop off).take size)))else none)else (match e[off]? with|some p=>some (.pure p)|none=>none)
      |none=>none)
     |none=>none)
    else none
   |_=>none
  | .dN cs=>if ag then (if size≤cs.length then some (.pure (.agg (cs.take size)))else none)else (match cs[0]? with|some p=>some (.pure p)|none=>none)
  | .ij cs=>if ag then (if size≤cs.length then some (dm (cs.take size))else none)else cs[0]?
  |_=>none
 |_,_=>none
def oZ (P:Program)(t:TypeId)(H:aj)(a v:GV):Option aj:=
 match bD P t with
 |some size=>
  match bQ v with
  |none=>none
  |some cells=>
  if cells.length≠size then none else
  match a with
  | .aD nm off=>
   let (cs',H1):=cG H nm.1 cells
   match H1.get nm with
   |some (.box cs)=>if off+size≤cs.length then some (H1.set nm (.box (aE cs off cs')))else none
   |_=>none
  | .eJ nm es top i off=>
   let (ps,H1):=bI H cells
   match H1.get nm with
   |some (.arr es' elems _ ro)=>
    if es'=es∧ro=false∧top=elems.length∧i<top then
     (match elems[i]? with
     |some e=>if off+size≤e.length then some (H1.set nm (.arr es' (elems.set i (aE e off ps)) elems.length false))else none
     |none=>none)
    else none
   |_=>none
  | .ji nm es i j off=>
   let (ps,H1):=bI H cells
   match H1.get nm with
   |some (.rm es' rows n)=>
    if es'=es then
     (match rows[i]? with
     |some r=>
      (match r[j]? with
      |some e=>if off+size≤e.length then some (H1.set nm (.rm es' (rows.set i (r.set j (aE e off ps))) n))else none
      |none=>none)
     |none=>none)
    else none
   |_=>none
  |_=>none
 |none=>none
def fa (place : Nat → Option (Nat × Nat)) (cells : List GV) : List (Nat × GV) → Option (List GV)
  | [] => some cells
  | (i, v) :: rest =>
    match place i with
    | none => none
    | some (off, size) =>
      match bQ v with
      | none => none
      | some vs =>
      if vs.length ≠ size ∨ off + vs.length > cells.length then none else fa place (aE cells off vs) rest
def chunks {α:Type}(es:Nat):Nat→List α→List (List α)
 |0,_=> []
 |n+1,l=>l.take es::chunks es n (l.drop es)
def oC (op:BinOp)(k:IntKind)(a b:Int):Option PV:=
 match op with
 | .add=>some (.int k (k.wrap (a+b)))
 | .sub=>some (.int k (k.wrap (a-b)))
 | .mul=>some (.int k (k.wrap (a*b)))
 | .quo=>if b=0 then none else some (.int k (k.wrap (a.tdiv b)))
 | .rem=>if b=0 then none else some (.int k (a.tmod b))
 | .and=>some (.int k (k.wrap (BitVec.ofInt k.bits a &&& BitVec.ofInt k.bits b).toNat))
 | .or=>some (.int k (k.wrap (BitVec.ofInt k.bits a|||BitVec.ofInt k.bits b).toNat))
 | .xor=>some (.int k (k.wrap (BitVec.ofInt k.bits a^^^BitVec.ofInt k.bits b).toNat))
 | .andNot=>some (.int k (k.wrap (BitVec.ofInt k.bits a &&& ~~~(BitVec.ofInt k.bits b)).toNat))
 | .eql=>some (.bool (a==b))
 | .neq=>some (.bool (a !=b))
 | .lss=>some (.bool (a<b))
 | .leq=>some (.bool (a≤b))
 | .gtr=>some (.bool (a>b))
 | .geq=>some (.bool (a≥b))
 |_=>none
def zU (op:BinOp)(k:IntKind)(a b:Int):Option PV:=
 if b<0 then none else
 match op with
 | .shl=>some (.int k (k.wrap (a*2^(min b.toNat k.bits))))
 | .shr=>some (.int k (a.fdiv (2^(min b.toNat k.bits))))
 |_=>none
def aax (op:BinOp)(a b:List UInt8):Option PV:=
 match op with
 | .add=>if a.length+b.length≤4611686018427387904 then some (.str (a++b))else none
 | .eql=>some (.bool (a==b))
 | .neq=>some (.bool (!(a==b)))
 | .lss=>some (.bool (Op.bytesLess a b))
 | .leq=>some (.bool (Op.bytesLess a b||a==b))
 | .gtr=>some (.bool (!(Op.bytesLess a b||a==b)))
 | .geq=>some (.bool (!Op.bytesLess a b))
 |_=>none
inductive SK where
 |int (k:IntKind)
 |bool
 |str
def bZ:List SK→List PV→List PV→Option Bool
 | [],[],[]=>some true
 | .int k::ks, .int k1 x::a, .int k2 y::b=>if k1=k∧k2=k then (match bZ ks a b with|some q=>some (x==y && q)|none=>none)else none
 | .bool::ks, .bool x::a, .bool y::b=>(match bZ ks a b with|some q=>some (x==y && q)|none=>none)
 | .str::ks, .str x::a, .str y::b=>(match bZ ks a b with|some q=>some (x==y && q)|none=>none)
 |_,_,_=>none
section
inductive Up where
 |scopes (n:Nat)
 |box (t:Tmp)
structure Ctx where
 P:Program
 IT:FuncId→Bool
 fA:FuncId→Nat→Option (List Nat×List Nat)
 up:FuncId→Nat→Up
 own:FuncId→Nat→Bool
 Gs:FuncId→Bool
 Aw:FuncId→Bool
 fB:FuncId→Nat→Bool
 tG:FuncId→Bool
 lift:FuncId→Nat→Option Tmp
 row:FuncId→Nat→Option Nat
 eqs:TypeId→Option (List SK)
def u5 (s:bd)(x:Nat×Operand):Nat×GV:=(x.1,ev s x.2)
section
variable (K:Ctx)
def lD (H:aj)(l key:Nat)(b:dM):Option (Nm×aj):=
 if H.length≤l then none else
 match H.get (l,key)with
 |some _=>none
 |none=>some ((l,key),H.set (l,key) b)
def jx (H:aj)(key:Nat)(b:dM):Option (Nm×aj):=lD H (H.length-1) key b
def jX (H:aj)(s:bd):Up→Option Nat
 | .scopes n=>if H.length≤n then none else some (H.length-1-n)
 | .box t=>match look s t with| .aD nm _=>some nm.1|_=>none
def pZ (s:bd):Up→Option Nm
 | .box t=>match look s t with| .aD nm _=>some nm|_=>none
 |_=>none
def CX (t:TypeId)(H:aj)(x:GV):Option Int:=
 match K.P.underlying t,x with
 |some (.array n _),_=>some n
 |some (.slice _), .aW _ _ _ _ len=>some len
 |some (.slice _), .hZ _ _ _ len=>some len
 |some (.slice _), .aS=>some 0
 |some (.slice _), .lits l=>some l.length
 |some (.slice _), .pure (.slice l)=>some l.length
 |some .string, .pure (.str l)=>some l.length
 |some (.map _ _), .pure .oQ=>some 0
 |some (.map _ _), .map nm=>(match H.get nm with|some (.map es)=>some es.length|_=>none)
 |_,_=>none
def gz (op:BinOp)(t:TypeId)(x y:GV):Option PV:=
 match x,y with
 | .pure (.int k a), .pure (.int k' b)=>
  match op with
  | .shl| .shr=>zU op k a b
  |_=>if k=k' then oC op k a b else none
 | .pure (.str a), .pure (.str b)=>aax op a b
 | .pure (.bool a), .pure (.bool b)=>
  (match op,K.P.underlying t with
  | .eql,some .bool=>some (.bool (a==b))
  | .neq,some .bool=>some (.bool (!(a==b)))
  |_,_=>none)
 | .pure (.agg a), .pure (.agg b)=>
  match K.eqs t with
  |some ks=>
   (match op,bZ ks a b with
   | .eql,some q=>some (.bool q)
   | .neq,some q=>some (.bool (!q))
   |_,_=>none)
  |none=>none
 |_,_=>none
def qV:Operand→Bool
 | .const (.slice none 0 0)=>true
 |_=>false
def wG:GV→Bool
 | .aW .. =>true
 | .pure (.slice (_::_))=>true
 | .lits (_::_)=>true
 |_=>false
def iG (op:BinOp)(t:TypeId)(x:GV):Option PV:=
 match K.P.underlying t,op with
 |some (.slice _), .eql=>if wG x then some (.bool false)else none
 |some (.slice _), .neq=>if wG x then some (.bool true)else none
 |_,_=>none
def EE (op:BinOp)(t:TypeId)(s:bd)(x y:Operand):Option PV:=if qV y then iG K op t (ev s x)else gz K op t (ev s x) (ev s y)
def DE (x i:GV)(t:TypeId):Option GV:=
 match i with
 | .pure (.int _ i)=>
  if i<0 then none else
  match uO K.P t with
  |some (n,e)=>
   match fk K.P e,bD K.P e with
   |some ag,some size=>
    if (n:Int)≤i then none else
    (match x with
    | .agg cs=>if (i.toNat*size)+size≤cs.length then (if ag then some (dm ((cs.drop (i.toNat*size)).take size))else cs[i.toNat*size]?)else none
    | .pure (.agg cs)=>if (i.toNat*size)+size≤cs.length then (if ag then some (.pure (.agg ((cs.drop (i.toNat*size)).take size)))else (match cs[i.toNat*size]? with|some p=>some (.pure p)|none=>none))else none
    |_=>none)
   |_,_=>none
  |none=>match x,K.P.underlying t with
   | .pure (.str l),some .string=>(match l[i.toNat]? with|some b=>some (.pure (.int .u8 b.toNat))|none=>none)
   |_,_=>none
 |_=>none
def im (q:Nat):GV→Option GV
 | .aD nm off=>some (.aD nm (off+q))
 | .eJ nm es top j off=>some (.eJ nm es top j (off+q))
 | .dN cs=>if q≤cs.length then some (.dN (cs.drop q))else none
 | .ij cs=>if q≤cs.length then some (.ij (cs.drop q))else none
 | .ji nm es i j off=>some (.ji nm es i j (off+q))
 |_=>none
def lF (t:TypeId)(x i:GV):Option GV:=
 match i with
 | .pure (.int _ i)=>
  if i<0 then none else
  match uO K.P t with
  |some (n,e)=>
   match bD K.P e with
   |some size=>
    if (n:Int)≤i then none else
    im (i.toNat*size) x
   |none=>none
  |none=>match dY K.P t with
   |some e=>match bD K.P e with
    |some size=>
     (match x with
     | .aW nm es top lo len=>if es=size∧i<len then some (.eJ nm es top (lo+i.toNat) 0)else none
     | .pure (.slice l)=>(match l[i.toNat]? with|some cs=>if cs.length=size then some (.dN cs)else none|none=>none)
     | .lits l=>(match l[i.toNat]? with|some cs=>if cs.length=size then some (.ij cs)else none|none=>none)
     | .hZ nm es q len=>if es=size∧i<len then some (.ji nm es q i.toNat 0)else none
     |_=>none)
    |none=>none
   |none=>none
 |_=>none
def cZ (x:Option GV)(dflt:Nat):Option Nat:=
 match x with
 |none=>some dflt
 |some (.pure (.int _ i))=>if i<0 then none else some i.toNat
 |_=>none
def km (t:TypeId)(x:GV)(lo hi mx:Option GV):Option GV:=
 if mx.isSome then
  (match cZ lo 0,hi,mx,dY K.P t with
  |some a,some (.pure (.int _ b)),some (.pure (.int _ m)),some e=>
   (match bD K.P e,x with
   |some _, .aS=>if a=0∧b=0∧m=0 then some .aS else none
   |some _, .pure (.slice _)=>if a=0∧b=0∧m=0 then some .aS else none
   |some es', .aW nm es top l0 len=>
    if a=0∧b=0∧m=0 then some .aS
    else if (a:Int)<b∧b≤m∧m=len∧l0+len=top∧es'=es then some (.aW nm es top (l0+a) (b.toNat-a))else none
   |_,_=>none)
  |_,_,_,_=>none)
 else
 match x with
 | .dN cs=>
  (match lo,hi,uO K.P t with
  |none,none,some (n,e)=>
   (match bD K.P e with
   |some size=>if 0<size∧0<n∧n*size≤cs.length then some (.pure (.slice (chunks size n cs)))else none
   |none=>none)
  |_,_,_=>none)
 | .pure (.str l)=>
  (match cZ lo 0,cZ hi l.length,K.P.underlying t with
  |some a,some b,some .string=>if a≤b∧b≤l.length then some (.pure (.str ((l.take b).drop a)))else none
  |_,_,_=>none)
 | .aW nm es top l0 len=>
  (match cZ lo 0,cZ hi len,dY K.P t with
  |some a,some b,some e=>if a≤b∧(b≤len∨l0+b≤top)∧bD K.P e=some es then (if a=b∧0<a then some (.pure (.slice []))else some (.aW nm es top (l0+a) (b-a)))else none
  |_,_,_=>none)
 | .pure (.slice l)=>
  (match cZ lo 0,cZ hi l.length,dY K.P t with
  |some a,some b,some e=>
   if a≤b∧b≤l.length then
    (match bD K.P e with
    |some es=>if l.all (fun r=>r.length==es)then some (.pure (.slice ((l.take b).drop a)))else none
    |none=>none)
   else none
  |_,_,_=>none)
 | .aS=>(match cZ lo 0,cZ hi 0,dY K.P t with|some 0,some 0,some e=>if (bD K.P e).isSome then some (.pure (.slice []))else none|_,_,_=>none)
 |_=>none
def gj (H:aj):List (List GV)→List (List PV)×aj
 | []=>([],H)
 |g::r=>let (p,H1):=bI H g;let (ps,H2):=gj H1 r;(p::ps,H2)
def gn (H:aj):GV→Option (List (List PV)×aj)
 | .aS=>some ([],H)
 | .pure (.slice l)=>some (l,H)
 | .pure (.str l)=>some (l.map fun b=> [.int .u8 b.toNat],H)
 | .lits l=>some (gj H l)
 | .aW nm es top lo len=>match js H nm es top lo len with| .slice l=>some (l,H)|_=>none
 |_=>none
def tQ (P:Program)(t:TypeId):Option Nat:=match cT P t with|some z=>(match bQ z with|some zs=>some zs.length|none=>none)|none=>none
def ey (P:Program)(t:Option TypeId):Bool:=
 match t with
 |some t=>(match P.underlying t with|some (.slice _)|some .string=>true|_=>false)
 |none=>false
def pO (H:aj)(l key:Nat)(t:TypeId)(s x:GV):Option (GV×aj):=
  match dY K.P t with
  |some e=>
    match bD K.P e,lx K.P e,gn H x with
    |some size,some bytes,some (xs,H)=>
      if decide (tQ K.P e=some size) && xs.all (fun r=>r.length==size) && decide (0<size) && decide (0<bytes) && decide (bytes≤1048576)then
        match s with
        | .aS=>
          if xs.length*bytes≤1099511627776 then
            (if xs.isEmpty then some (.aS,H)else
            match lD H l key (.arr size xs 0 false)with
            |some (nm,H)=>some (.aW nm size xs.length 0 xs.length,H)
            |none=>none)
          else none
        | .aW nm es top lo len=>
          (match H.get nm with
          |some (.arr es' elems vf ro)=>
            if es'=size∧es=size∧top=elems.length∧lo=0∧len=top∧vf≤top∧ro=false∧(len+xs.length)*bytes≤1099511627776 then
              (if xs.isEmpty then some (.aW nm es top lo len,H)
               else some (.aW nm es (top+xs.length) 0 (top+xs.length),H.set nm (.arr es' (elems++xs) vf false)))
            else if es'=size∧es=size∧top=elems.length∧vf≤top∧ro=false∧lo+len+xs.length≤top then
              (if xs.isEmpty then some (.aW nm es top lo len,H)else some (.aW nm es top lo (len+xs.length),H.set nm (.arr es' (aE elems (lo+len) xs) top false)))
            else none
          |_=>none)
        |_=>none
      else none
    |_,_,_=>none
  |none=>none
def leads (nm:Nm):List GV→Bool
 | []=>false
 | .aW m _ _ _ _::r=>decide (m=nm)||leads nm r
 |_::r=>leads nm r
def zz (H:aj)(bn:Nm)(key es:Nat)(r:List (List PV)):Option (Nat×aj):=
 if H.length≤bn.1 then none else
 match H.get (bn.1,key)with
 |none=>some (0,H.set (bn.1,key) (.rm es [r] 0))
 |some (.rm es' rows n)=>
  (match H.get bn with
  |some (.box cs)=>if es'=es∧leads (bn.1,key) cs=true then some (rows.length,H.set (bn.1,key) (.rm es (rows++[r]) n))else none
  |_=>none)
 |_=>none
def zB (H:aj)(bytes:Nat)(s:GV)(nm:Nm)(es i len:Nat):Option (GV×aj):=
 match H.get nm with
 |some (.rm es' rows n)=>
  if es'=es∧i=n∧n<rows.length∧(rows.getD n []).length=len∧(n+1)*bytes≤1099511627776 then
   match s with
   | .aS=>if n=0 then some (.aW nm 1 1 0 1,H.set nm (.rm es rows 1))else none
   | .aW nm' es1 top lo ln=>if nm'=nm∧es1=1∧top=n∧lo=0∧ln=n then some (.aW nm 1 (n+1) 0 (n+1),H.set nm (.rm es rows (n+1)))else none
   |_=>none
  else none
 |_=>none
def C6 (H:aj)(bn:Nm)(key size bytes:Nat)(s x:GV):Option (GV×aj):=
 match s,gn H x with
 | .aS,some (xs,H)=>
  if xs.all (fun r=>r.length==size) && !xs.isEmpty && decide (xs.length*bytes≤1099511627776)then
   (match zz H bn key size xs with|some (i,H)=>some (.hZ (bn.1,key) size i xs.length,H)|none=>none)
  else none
 |_,_=>none
def Da:GV→Option (Nm×Nat×Nat×Nat)
 | .lits [[.hZ nm es i len]]=>some (nm,es,i,len)
 |_=>none
def oL (H:aj)(bn:Nm)(key:Nat)(t:TypeId)(s x:GV):Option (GV×aj):=
 match dY K.P t with
 |some e=>
  match bD K.P e,lx K.P e with
  |some size,some bytes=>
   if decide (tQ K.P e=some size) && decide (0<size) && decide (0<bytes) && decide (bytes≤1048576)then
    match Da x with
    |some (nm,es,i,len)=>if size=1 then zB H bytes s nm es i len else none
    |none=>C6 H bn key size bytes s x
   else none
  |_,_=>none
 |none=>none
def lq (H:aj)(l0:Nat):GV→Option (GV×aj)
 | .agg l=>let (l',H1):=cG H l0 l;some (dm l',H1)
 | .tuple _| .lits _=>none
 |g=>let (g',H1):=ez H l0 g;some (g',H1)
def jq:List PV→List PV→Option Bool
 | [],[]=>some true
 | .int k x::a, .int k' y::b=>if k=k' then (match jq a b with|some q=>some (x==y && q)|none=>none)else none
 | .bool x::a, .bool y::b=>(match jq a b with|some q=>some (x==y && q)|none=>none)
 | .str x::a, .str y::b=>(match jq a b with|some q=>some (x==y && q)|none=>none)
 |_,_=>none
def nS:PV→PV→Option Bool
 | .int k a, .int k' b=>if k=k' then some (a==b)else none
 | .str a, .str b=>some (a==b)
 | .bool a, .bool b=>some (a==b)
 | .agg a, .agg b=>jq a b
 |_,_=>none
def cN (k:PV):List (PV×GV)→Nat→Option (Option (Nat×GV))
 | [],_=>some none
 |(k',v)::r,i=>match nS k k' with|some true=>some (some (i,v))|some false=>cN k r (i+1)|none=>none
def xx (P:Program)(t:TypeId):Option (TypeId×TypeId):=match P.underlying t with|some (.map k e)=>some (k,e)|_=>none
def zt (P:Program)(t:TypeId)(k:PV):Bool:=
 match P.underlying t,k with
 |some (.int k), .int k' _=>decide (k'=k)
 |some .string, .str _=>true
 |some .bool, .bool _=>true
 |_,_=>false
def iS:List SK→List PV→Bool
 | [],[]=>true
 | .int k::ks, .int k' _::a=>decide (k'=k) && iS ks a
 | .bool::ks, .bool _::a=>iS ks a
 | .str::ks, .str _::a=>iS ks a
 |_,_=>false
def jr (t:TypeId)(k:PV):Bool:=
 zt K.P t k||(match K.eqs t,k,K.P.underlying t with|some ks, .agg l,some _=>iS ks l|_,_,_=>false)
def mapOf (H:aj):GV→Option (List (PV×GV))
 | .pure .oQ=>some []
 | .map nm=>(match H.get nm with|some (.map es)=>some es|_=>none)
 |_=>none
def rK (t:TypeId)(H:aj)(x k:GV)(ok:Bool):Option GV:=
 match xx K.P t,k,mapOf H x with
 |some (kt,e), .pure k,some es=>
  if jr K kt k=false then none else
  match cN k es 0 with
  |some (some (_,v))=>some (if ok then mkTuple [v, .pure (.bool true)]else v)
  |some none=>(match cT K.P e with|some z=>some (if ok then mkTuple [z, .pure (.bool false)]else z)|none=>none)
  |none=>none
 |_,_,_=>none
def jM (t:TypeId)(H:aj)(m k v:GV):Option aj:=
 match xx K.P t,m,k with
 |some (kt,_), .map nm, .pure k=>
  match lq H nm.1 v with
  |some (v',H1)=>
   match H1.get nm with
   |some (.map es)=>
    if jr K kt k=false then none else
    match cN k es 0 with
    |some (some (i,_))=>some (H1.set nm (.map (es.set i (k,v'))))
    |some none=>some (H1.set nm (.map (es++[(k,v')])))
    |none=>none
   |_=>none
  |none=>none
 |_,_,_=>none
def te (t:TypeId)(H:aj)(x:GV):Option aj:=
 match dY K.P t with
 |some e=>
  match bD K.P e,cT K.P e,x with
  |some size,some z, .aW nm es top lo len=>
   (match bQ z,H.get nm with
   |some zs,some (.arr es' elems vf ro)=>
    (match bG (zs.map cK)with
    |some ps=>if es'=size∧es=size∧ps.length=size∧top=elems.length∧vf≤top∧ro=false∧lo+len≤top∧0<len then some (H.set nm (.arr es' (aE elems lo (List.replicate len ps)) top false))else none
    |none=>none)
   |_,_=>none)
  |_,_,_=>none
 |none=>none
def iz (mx:Bool):List GV→Option GV
 | []=>none
 | [.pure (.int k a)]=>some (.pure (.int k a))
 | .pure (.int k a):: .pure (.int k' b)::r=>if k=k' then iz mx (.pure (.int k (if mx then (if a<b then b else a)else (if b<a then b else a)))::r)else none
 |_=>none
termination_by l=>l.length
def sR (f:FuncId)(first cap:List GV):GV:=if first.isEmpty && cap.isEmpty then .pure (.fn f)else .func f first cap
def eP (fn:FuncId)(o:Oper)(s:bd)(H:aj):Option (GV×aj):=
 match o.op with
 | .move x| .assign x=>some (ev s x,H)
 | .pick c a b=>match ev s c with| .pure (.bool t)=>some (if t then ev s a else ev s b,H)|_=>none
 | .alloc t=>
  match o.dst,cT K.P t with
  |some d,some z=>(match bQ z with|some cs=>(match jx H d (.box cs)with|some (nm,H)=>some (.aD nm 0,H)|none=>none)|none=>none)
  |_,_=>none
 | .box _ x=>
  match o.dst,bQ (ev s x)with
  |some d,some cs=>(match jx H d (.box cs)with|some (nm,H)=>some (.aD nm 0,H)|none=>none)
  |_,_=>none
 | .build t parts=>
  match cT K.P t with
  |some z=>
   match bQ z with
   |some zs=>
    let ps:=parts.toList.map (u5 s)
    let r:=match uO K.P t with
     |some (_,e)=>(match bD K.P e with|some size=>fa (fun i=>some (i*size,size)) zs ps|none=>none)
     |none=>(match fV K.P t with|some l=>fa (fun i=>l[i]?) zs ps|none=>none)
    (match r with|some cs=>some (dm cs,H)|none=>none)
   |none=>none
  |none=>none
 | .buildSlice t len parts=>
  match dY K.P t with
  |some e=>
   match bD K.P e,cT K.P e with
   |some size,some z=>
    match bQ z with
    |some zs=>
     if zs.length=size∧0<size∧len*size≤16777216 then
      match fa (fun i=>some (i*size,size)) (List.replicate len zs).flatten (parts.toList.map (u5 s))with
      |some cs=>
       if len=0 then some (.aS,H)else
       let rows:=chunks size len cs
       (match bG (cs.map cK)with
       |some ps=>
        (match o.dst with
        |some d=>if K.own fn d then (match jx H d (.arr size (chunks size len ps) 0 false)with|some (nm,H)=>some (.aW nm size len 0 len,H)|none=>none)else some (.pure (.slice (chunks size len ps)),H)
        |none=>none)
       |none=>
        (match o.dst with
        |some d=>if K.own fn d then (match jx (bI H cs).2 d (.arr size (chunks size len (bI H cs).1) 0 false)with|some (nm,H)=>some (.aW nm size len 0 len,H)|none=>none)else some (.lits rows,H)
        |none=>some (.lits rows,H)))
      |none=>none
     else none
    |none=>none
   |_,_=>none
  |none=>none
 | .load t a=>match jH K.P t H (ev s a)with|some v=>some (v,H)|none=>none
 | .store t a x=>match oZ K.P t H (ev s a) (ev s x)with|some H=>some (aP,H)|none=>none
 | .nilCheck x=>
  match ev s x with
  | .aD nm off=>some (.aD nm off,H)
  | .eJ nm es top i off=>some (.eJ nm es top i off,H)
  | .dN cs=>some (.dN cs,H)
  | .ij cs=>some (.ij cs,H)
  | .func f first cap=>some (.func f first cap,H)
  | .pure (.fn f)=>some (.pure (.fn f),H)
  | .yield nm=>some (.yield nm,H)
  |_=>none
 | .binOp op t x y _=>match EE K op t s x y with|some p=>some (.pure p,H)|none=>none
 | .unOp op _ x=>
  match op,ev s x with
  | .not, .pure (.bool b)=>some (.pure (.bool (!b)),H)
  | .neg, .pure (.int k n)=>some (.pure (.int k (k.wrap (-n))),H)
  |_,_=>none
 | .convert src dst x=>
  match K.P.underlying src,K.P.underlying dst,ev s x with
  |some _,some (.int k), .pure (.int _ n)=>some (.pure (.int k (k.wrap n)),H)
  |some _,some .string, .pure (.str l)=>some (.pure (.str l),H)
  |_,_,_=>none
 | .makeFunc (.func f) first cap=>some (sR f (first.toList.map (ev s)) (cap.toList.map (ev s)),H)
 | .makeMap _ none=>match o.dst with|some d=>(match jx H d (.map [])with|some (nm,H)=>some (.map nm,H)|none=>none)|none=>none
 | .makeSlice t l c=>
  match dY K.P t with
  |some e=>
   match bD K.P e,lx K.P e,cT K.P e,ev s l,ev s c,o.dst with
   |some size,some bytes,some z, .pure (.int _ l), .pure (.int _ c),some d=>
    match bQ z with
    |some zs=>
     (match bG (zs.map cK)with
     |some ps=>
      if ps.length=size∧0<size∧0<bytes∧0≤l∧l≤c∧c*bytes≤1099511627776 then
       (match jx H d (.arr size (List.replicate l.toNat ps) 0 false)with|some (nm,H)=>some (.aW nm size l.toNat 0 l.toNat,H)|none=>none)
      else none
     |none=>none)
    |none=>none
   |_,_,_,_,_,_=>none
  |none=>none
 | .slice t x lo hi mx=>match km K t (ev s x) (lo.map (ev s)) (hi.map (ev s)) (mx.map (ev s))with|some v=>some (v,H)|none=>none
 | .fieldAddr st x f=>
  match mo K.P st f with
  |some (off,ft)=>
   match bD K.P ft with
   |some size=>
    if size=0 then none else
    (match im off (ev s x)with|some v=>some (v,H)|none=>none)
   |none=>none
  |none=>none
 | .field t x f=>
  match mo K.P t f with
  |some (off,ft)=>
   match fk K.P ft,bD K.P ft,ev s x with
   |some ag,some size, .agg cs=>if off+size≤cs.length then (if ag then some (dm ((cs.drop off).take size),H)else (match cs[off]? with|some v=>some (v,H)|none=>none))else none
   |some ag,some size, .pure (.agg cs)=>if off+size≤cs.length then (if ag then some (.pure (.agg ((cs.drop off).take size)),H)else (match cs[off]? with|some v=>some (.pure v,H)|none=>none))else none
   |_,_,_=>none
  |none=>none
 | .indexAddr t x i=>match lF K t (ev s x) (ev s i)with|some v=>some (v,H)|none=>none
 | .index t x i=>match DE K (ev s x) (ev s i) t with|some v=>some (v,H)|none=>none
 | .lookup t x k ok=>match rK K t H (ev s x) (ev s k) ok with|some v=>some (v,H)|none=>none
 | .mapUpdate t m k v=>match jM K t H (ev s m) (ev s k) (ev s v)with|some H=>some (aP,H)|none=>none
 | .insert t m k v=>match jM K t H (ev s m) (ev s k) (ev s v)with|some H=>some (aP,H)|none=>none
 | .extract t ix=>
  match ev s t with
  | .tuple l=>(match l[ix]? with|some v=>some (v,H)|none=>none)
  | .pure (.tuple l)=>(match l[ix]? with|some v=>some (.pure v,H)|none=>none)
  |_=>none
 | .call c=>
  match c.callee with
  | .builtin .len=>(match c.argTypes[0]?,c.args[0]? with|some t,some x=>(match CX K t H (ev s x)with|some n=>some (.pure (.int .i64 n),H)|none=>none)|_,_=>none)
  | .builtin .append=>(match c.argTypes[0]?,c.args[0]?,c.args[1]?,o.dst with|some t,some x,some y,some d=>if ey K.P c.argTypes[1]? then (match K.row fn d with|none=>(match jX H s (K.up fn d)with|some l=>pO K H l d t (ev s x) (ev s y)|none=>none)|some key=>(match pZ s (K.up fn d)with|some bn=>oL K H bn key t (ev s x) (ev s y)|none=>none))else none|_,_,_,_=>none)
  | .builtin .clear=>(match c.argTypes[0]?,c.args[0]? with|some t,some x=>(match te K t H (ev s x)with|some H=>some (.pure (.tuple []),H)|none=>none)|_,_=>none)
  | .builtin .min=>(match iz false (c.args.toList.map (ev s))with|some v=>some (v,H)|none=>none)
  | .builtin .max=>(match iz true (c.args.toList.map (ev s))with|some v=>some (v,H)|none=>none)
  |_=>none
 |_=>none
def gU (o:Oper):Option (Operand×List Operand):=
 match o.op with
 | .call {callee:= .value f,args, ..}=>some (f,args.toList)
 |_=>none
abbrev Rec:=FuncId→Code→bP→Option (GX×bP)
def slotsOf:Nat→List GV→bd
 |_,[]=> []
 |i,v::r=>(i,v)::slotsOf (i+1) r
def fC (fn:Func)(st:bP):Option (List GV):=
 fn.results.toList.mapM fun
  | .tmp t=>some (look st.s t)
  | .cell a t=>jH K.P t st.h (look st.s a)
def cV (L:Nat):GV→List Nat
 | .aD nm _| .aW nm _ _ _ _| .eJ nm _ _ _ _| .map nm=>if nm.1=L then [nm.2]else []
 |_=> []
def dE (L:Nat):GV→List Nat
 | .agg l=>l.flatMap (cV L)
 | .func _ first cap=>first.flatMap (cV L)++cap.flatMap (cV L)
 |g=>cV L g
def refs (L:Nat):GV→List Nat
 | .tuple l=>l.flatMap (dE L)
 |g=>dE L g
def df (fr:Fr)(L:Nat):GV→List Nat
 | .aW nm _ _ _ _=>if nm.1=L then (match fr.get nm.2 with|some (.rm ..)=> [nm.2]|_=> [])else []
 |_=> []
def dc (fr:Fr)(L k:Nat):List Nat:=match fr.get k with|some (.box cs)=>cs.flatMap (df fr L)|_=> []
def b8 (fr:Fr)(L:Nat)(ks:List Nat):List Nat:=ks++ks.flatMap (dc fr L)
def aq (c k:Nat):Nat:=k*4096+(c+1)
def gJ (L c:Nat):GV→GV
 | .aD nm off=>if nm.1=L then .aD (L-1,aq c nm.2) off else .aD nm off
 | .aW nm es top lo len=>if nm.1=L then .aW (L-1,aq c nm.2) es top lo len else .aW nm es top lo len
 | .eJ nm es top i off=>if nm.1=L then .eJ (L-1,aq c nm.2) es top i off else .eJ nm es top i off
 | .map nm=>if nm.1=L then .map (L-1,aq c nm.2)else .map nm
 | .yield nm=>if nm.1=L then aP else .yield nm
 | .pure p=> .pure p
 | .dN cs=> .dN cs
 | .aS=> .aS
 |_=>aP
def jj (L c:Nat):GV→GV
 | .agg l=>dm (l.map (gJ L c))
 | .func f first cap=> .func f (first.map (gJ L c)) (cap.map (gJ L c))
 |g=>gJ L c g
def sK (L c:Nat):GV→GV
 | .tuple l=>mkTuple (l.map (jj L c))
 |g=>jj L c g
def aay (fr:Fr)(k:Nat):Bool:=match fr.get k with|some (.rm ..)=>true|_=>false
def ry (c:Nat)(fr:Fr)(H:aj)(ks:List Nat)(l0:Nat):GV→GV
 | .aW nm es top lo len=>
  if nm.1=H.length∧nm.2∉ks then .pure (ig (fr::H) nm es top lo len)
  else if nm.1=H.length∧aay fr nm.2=true then .aW (H.length-1,aq c nm.2) es top lo len
  else cL [] l0 (.aW nm es top lo len)
 |g=>cL [] l0 g
def bV (cl:GV→GV)(H:aj)(l0:Nat):dM→Option dM
 | .box cs=>some (.box (cs.map cl))
 | .arr es elems vf ro=>some (.arr es elems vf ro)
 | .map es=>some (.map (es.map fun e=>(e.1,ju H l0 e.2)))
 | .rm es rows n=>some (.rm es rows n)
 |_=>none
def cA (cl:GV→GV)(f:Fr)(H:aj)(c:Nat):List Nat→aj→Option aj
 | [],H'=>some H'
 |k::r,H'=>
  match f.get k with
  |some b=>
   match bV cl [] (H.length-1) b,aj.get H' (H.length-1,aq c k)with
   |some b',none=>cA cl f H c r (aj.set H' (H.length-1,aq c k) b')
   |_,_=>none
  |none=>none
def dedup:List Nat→List Nat
 | []=> []
 |k::r=>if r.contains k then dedup r else k::dedup r
def fX (f:FuncId)(c:Nat)(r:GV):aj→Option (GV×aj)
 | []=>none
 |fr::H=>
  if K.IT f then
   match cA (ry c fr H (dedup (b8 fr H.length (refs H.length r))) (H.length-1)) fr H c (dedup (b8 fr H.length (refs H.length r))) H with
   |some H'=>some (sK H.length c r,H')
   |none=>none
  else some (canon (clean (fr::H) (H.length-1) r),H)
def bM (rec:Rec)(f:FuncId)(args:List GV)(c:Nat)(H:aj):Option (GV×aj):=
 match K.P.funcs[f]? with
 |none=>none
 |some fn=>
  match fn.body with
  |none=>none
  |some code=>
   if fn.name== "runtime.NumGoroutine" ||decide (fn.ntmps<args.length)||decide (H.length=0)then none else
   match rec f code ⟨slotsOf 0 (args.map canon),[]::H,fn.ntmps⟩with
   |some (.exit _,_)=>none
   |some (_,st)=>
    (match fC K fn st with
    |some rs=>(match rs with
     | [r]=>fX K f c r st.h
     |rs=>fX K f c (mkTuple rs) st.h)
    |none=>none)
   |none=>none
def dH (H:aj):GV→GV×aj
 | .aW nm es top lo len=>let (p,H1):=dI H (.aW nm es top lo len);(.pure p,H1)
 |g=>(g,H)
def fF (H:aj):List GV→List GV×aj
 | []=>([],H)
 |g::r=>let (p,H1):=dH H g;let (ps,H2):=fF H1 r;(p::ps,H2)
def dt (H:aj):GV→GV×aj
 | .agg l=>let (l',H1):=fF H l;(dm l',H1)
 |g=>dH H g
def bm (H:aj):List GV→List GV×aj
 | []=>([],H)
 |g::r=>let (p,H1):=dt H g;let (ps,H2):=bm H1 r;(p::ps,H2)
mutual
def iK:PV→Bool
 | .slice l=>l.isEmpty
 | .agg l=>ki l
 | .tuple l=>ki l
 | .iface _ v=>iK v
 |_=>true
def ki:List PV→Bool
 | []=>true
 |p::r=>iK p && ki r
end
def AL:GV→Bool
 | .pure p=>iK p
 | .aS=>true
 |_=>false
def ot:List GV→Bool
 | []=>true
 |g::r=>AL g && ot r
def mb:List GV→Option (Option Nm)
 | []=>some none
 |g::r=>
  match mb r with
  |none=>none
  |some q=>
   match g with
   | .pure _| .aS=>some q
   | .func _ a c=>if (bG a).isSome && (bG c).isSome then some q else none
   | .aD nm _=>(match q with|none=>some (some nm)|some nm'=>if nm=nm' then some q else none)
   |_=>none
def fY (H:aj):aj:=H.map fun _=> []
def eQ:List (List PV)→Bool
 | []=>true
 |r::l=>ki r && eQ l
def nR (L:Nat):GV→Bool
 | .pure p=>iK p
 | .aS=>true
 | .aW nm _ _ _ _=>decide (nm.1=L)
 |_=>false
def xX (L:Nat):List GV→Bool
 | []=>true
 |g::r=>nR L g && xX L r
def ou (L:Nat):GV→Bool
 | .agg l=>xX L l
 |g=>nR L g
def qu (L:Nat):List GV→Bool
 | []=>true
 |g::r=>ou L g && qu L r
def tJ (L:Nat):GV→Bool
 | .tuple l=>qu L l
 |g=>ou L g
def kG (H0:aj)(L:Nat):List Nat→aj→Option aj
 | [],H=>some H
 |k::r,H=>
  match H0.get (L,k),H.get (L,k)with
  |some (.arr es rows vf false),none=>if eQ rows then kG H0 L r (H.set (L,k) (.arr es rows vf false))else none
  |_,_=>none
def kF (H0:aj)(v:GV)(H:aj):Option (GV×aj):=
 if tJ (H.length-1) v then
  match kG H0 (H.length-1) (dedup (refs (H.length-1) v)) H with
  |some H'=>some (v,H')
  |none=>none
 else none
def iu (rec:Rec)(f:FuncId)(args:List GV)(c:Nat)(H:aj):Option (GV×aj):=
 match mb args with
 |none=>none
 |some none=>
  (match bM K rec f args c (fY H)with
  |some (v,H0)=>kF H0 v H
  |none=>none)
 |some (some nm)=>
  match H.get nm with
  |some (.box cs)=>
   if ot cs=false then none else
   (match bM K rec f args c ((fY H).set nm (.box cs))with
   |some (v,H0)=>
    (match H0.get nm with
    |some (.box cs')=>if ot cs' then kF H0 v (H.set nm (.box cs'))else none
    |_=>none)
   |none=>none)
  |_=>none
def jv:List GV→Bool
 | [.aS]=>true
 | [.pure (.slice [])]=>true
 |_=>false
def aI (rec:Rec)(f:FuncId)(args:List GV)(c:Nat)(H:aj):Option (GV×aj):=
 if K.tG f && jv args then some (.aS,H)
 else if K.Aw f then iu K rec f ((bm H args).1.map canon) c H
 else if K.Gs f then bM K rec f (bm H args).1 c (bm H args).2 else bM K rec f args c H
def jO:bd→Nat→List Tmp→List GV→Option bd
 |s,_,[],[]=>some s
 |s,nt,t::ts,v::vs=>if t<nt then jO ((t,v)::s) nt ts vs else none
 |_,_,_,_=>none
def ground (rec:Rec)(nm:Nm)(args:List GV)(H:aj):Option (GV×aj):=
 match H.get nm with
 |some (.loop l)=>
  if l.state= .ready then
   match jO l.fD l.nt l.params (args.map canon)with
   |some s=>
    match rec l.fn l.assign ⟨s,[]::H,l.nt⟩with
    |some (.normal,st)=>
     match st.h with
     |fr::H1=>
      (match aj.get H1 nm with
      |some (.loop l1)=>
       if l1.state≠ .ready then none else
       match rec l.fn l.body ⟨st.s,fr::aj.set H1 nm (.loop {l1 with state:= .busy}),l.nt⟩with
       |some (e,st')=>
        (match st'.h with
        |_::H2=>
         (match aj.get H2 nm with
         |some (.loop l2)=>
          (match e with
          | .normal=>some (.pure (.bool true),aj.set H2 nm (.loop {l2 with state:= .ready,pending:=none}))
          |e=>some (.pure (.bool false),aj.set H2 nm (.loop {l2 with state:= .done,pending:=some e})))
         |_=>none)
        | []=>none)
       |none=>none
      |_=>none)
     | []=>none
    |_=>none
   |none=>none
  else none
 |_=>none
def oS (rec:Rec)(f:GV)(args:List GV)(c:Nat)(H:aj):Option (GV×aj):=
 match f with
 | .pure (.fn f)=>aI K rec f args c H
 | .func f first cap=>aI K rec f (first++args++cap) c H
 |_=>none
def ff (rec:Rec)(f:GV)(args:List GV)(c:Nat)(H:aj):Option (GV×aj):=
 match f with
 | .yield nm=>ground rec nm args H
 |f=>oS K rec f args c H
def dR (ops:List Oper)(s:bd)(o:Oper):Option Bool:=
 match o.guard with
 |none=>some true
 |some (j,want)=>
  match ops[j]? with
  |some oj=>(match oj.dst with
   |some d=>(match look s d with| .pure (.bool b)=>some (b==want)| .pure (.tuple [])=>some false|_=>none)
   |none=>none)
  |none=>none
def Fr.del (q:Nat):Fr→Fr
 | []=> []
 |(k,b)::r=>if q=k then Fr.del q r else (k,b)::Fr.del q r
def gb:List Nat→Fr→Fr
 | [],f=>f
 |q::r,f=>gb r (f.del q)
mutual
def eY (nm:Nm):GV→Bool
 | .aD n _| .eJ n _ _ _ _| .aW n _ _ _ _| .yield n| .map n| .hZ n _ _ _| .ji n _ _ _ _=>decide (n≠nm)
 | .lits l=>u4 nm l
 | .ij l=>gG nm l
 | .agg l=>gG nm l
 | .tuple l=>gG nm l
 | .func _ a c=>gG nm a && gG nm c
 | .pure _| .dN _| .aS=>true
def gG (nm:Nm):List GV→Bool
 | []=>true
 |g::r=>eY nm g && gG nm r
def u4 (nm:Nm):List (List GV)→Bool
 | []=>true
 |g::r=>gG nm g && u4 nm r
end
def zI (nm:Nm):List (PV×GV)→Bool
 | []=>true
 |e::r=>eY nm e.2 && zI nm r
def gE (nm:Nm):dM→Bool
 | .box cs=>gG nm cs
 | .arr .. =>true
 | .rm .. =>true
 | .map es=>zI nm es
 | .loop _=>false
def iE (nm:Nm):Fr→Bool
 | []=>true
 |x::r=>gE nm x.2 && iE nm r
def jo (nm:Nm):bd→Bool
 | []=>true
 |x::r=>eY nm x.2 && jo nm r
def cR (j k:Nat):Nat:=(j+1)*1000000000000+k
def nV (L l j:Nat):GV→Option GV
 | .aW nm es top lo len=>if nm.1=L then some (.aW (l,cR j nm.2) es top lo len)else some (.aW nm es top lo len)
 | .pure p=>some (.pure p)
 | .aS=>some .aS
 |_=>none
def v8 (L l j:Nat):List GV→Option (List GV)
 | []=>some []
 |g::r=>match nV L l j g,v8 L l j r with|some g,some r=>some (g::r)|_,_=>none
def v9 (L l j:Nat):GV→Option GV
 | .agg cs=>(match v8 L l j cs with|some cs=>some (.agg cs)|none=>none)
 |g=>nV L l j g
def lY (H:aj)(l j:Nat):List Nat→Bool
 | []=>true
 |k::r=>(H.get (l,cR j k)).isNone && lY H l j r
def qN (H:aj)(L:Nat)(f0:Fr):List Nat→Bool
 | []=>true
 |k::r=>(H.get (L,k)).isNone && iE (L,k) f0 && qN H L f0 r
def qO (f0:Fr)(l j:Nat):List Nat→aj→Option aj
 | [],H=>some H
 |k::r,H=>match f0.get k with|some (.arr es elems vf ro)=>qO f0 l j r (H.set (l,cR j k) (.arr es elems vf ro))|_=>none
def rT (H0:aj)(b:GV)(x:GV×aj):Option (GV×aj):=
 match b,x.2 with
 | .aD nm _,f0::Hr=>
  let names:=dedup (refs Hr.length x.1)
  let j:=if lY x.2 nm.1 0 names then 0 else 1
  if decide (nm.1<Hr.length) && decide (H0.length=Hr.length+1) && qN H0 Hr.length f0 names && lY x.2 nm.1 j names then
   (match v9 Hr.length nm.1 j x.1,qO f0 nm.1 j names (gb names f0::Hr)with
   |some v,some H=>some (v,H)
   |_,_=>none)
  else none
 |_,_=>none
def rU (H0:aj)(b:GV)(key:Nat)(x:GV×aj):Option (GV×aj):=
 match b,x.1,x.2 with
 | .aD nm _, .aW nm2 es top lo len,f0::Hr=>
  if decide (nm2.1=Hr.length) && decide (nm.1<Hr.length) && decide (H0.length=Hr.length+1) && qN H0 Hr.length f0 [nm2.2]then
   match f0.get nm2.2 with
   |some (.arr es' elems vf false)=>
    if es'=es∧vf≤top∧top=elems.length∧lo=0∧len=top∧0<top then
     (match zz (gb [nm2.2] f0::Hr) nm key es elems with|some (i,H)=>some (.hZ (nm.1,key) es i top,H)|none=>none)
    else none
   |_=>none
  else none
 |_,_,_=>none
def cM (rec:Rec)(fn:FuncId)(o:Oper)(s:bd)(H:aj):Option (GV×aj):=
 match gU o with
 |some (f,args)=>
  (match K.lift fn (o.dst.getD 0)with
  |none=>ff K rec (ev s f) (args.map (ev s)) (o.dst.getD 0) H
  |some t=>(match ff K rec (ev s f) (args.map (ev s)) (o.dst.getD 0) H with|some x=>(match K.row fn (o.dst.getD 0)with|none=>rT H (look s t) x|some key=>rU H (look s t) key x)|none=>none))
 |none=>eP K fn o s H
def qP (rec:Rec)(fn:FuncId)(all:List Oper):List Oper→bP→Option bP
 | [],st=>some st
 |o::r,st=>
  match dR all st.s o with
  |some false=>(match st.put o.dst ly with|some st=>qP rec fn all r st|none=>none)
  |some true=>
   (match cM K rec fn o st.s st.h with
   |some (v,H)=>(match bP.put {st with h:=H} o.dst v with|some st=>qP rec fn all r st|none=>none)
   |none=>none)
  |none=>none
def ba:Code→Nat
 | .region id _ _=>id+1
 | .seq a b=>if ba a=0 then ba b else ba a
 | .cond _ a b=>if ba a=0 then ba b else ba a
 | .block _ a=>ba a
 | .loop a=>ba a+100000
 | .scope a=>ba a
 | .rangeFunc _ _ a b=>if ba a=0 then ba b else ba a
 |_=>0
def bw (s:bd):List Nat→bd
 | []=> []
 |t::r=>(t,look s t)::bw s r
def bX (H:aj)(l0:Nat):bd→bd
 | []=> []
 |(t,v)::r=>(t,clean H l0 v)::bX H l0 r
def j8 (ks:Option (List Nat))(s:bd):bd:=match ks with|some l=>bw s l|none=>s
def kn (ks:Option (List Nat))(st:bP):Option bP:=
 match st.h with
 |fr::H=>
  if H.length=0 then none else
  some {s:=bX (fr::H) (H.length-1) (j8 ks st.s),h:=H,nt:=st.nt}
 | []=>none
def gF (k:Nat):Bool:=decide (1000000000000≤k)
def gN (L:Nat)(s:bd)(fr:Fr):Fr→List Nat
 | []=> []
 |x::r=>if gF x.1 && jo (L,x.1) s && iE (L,x.1) fr then x.1::gN L s fr r else gN L s fr r
def qE (st:bP):Option bP:=
 match st.h with
 |fr::H=>if H.length=0 then none else some {st with h:=gb (gN H.length st.s fr fr) fr::H}
 | []=>none
def v7 (fn:FuncId)(c:Code)(st:bP):Option bP:=
 if K.fB fn (ba c)then
  match kn ((K.fA fn (ba c)).map (·.1)) st with
  |some st=>qE st
  |none=>none
 else kn none st
def cJ (o:Oper):Bool:=
 match o.op,o.dst,o.guard with
 | .alloc _,some _,none=>true
 |_,_,_=>false
def cb (fn:FuncId)(o:Oper):Bool:=
 match o.op with
 | .move _| .assign _| .pick .. | .build .. | .load .. | .nilCheck _| .binOp .. | .unOp .. | .convert .. | .makeFunc .. | .slice .. | .fieldAddr .. | .field .. | .indexAddr .. | .index .. | .lookup .. | .extract .. =>true
 | .buildSlice .. =>(match o.dst with|some d=> !K.own fn d|none=>true)
 | .call {callee:= .builtin .len, ..}| .call {callee:= .builtin .min, ..}| .call {callee:= .builtin .max, ..}=>true
 |_=>false
def Gp (o:Oper):Bool:=
 match o.op with
 | .load .. | .lookup .. =>true
 | .call {callee:= .builtin .len, ..}=>true
 |_=>false
def tmpsOf (l:List Operand):List Nat:=l.filterMap fun| .tmp t=>some t|_=>none
def jI (fn:FuncId)(o:Oper):List Nat:=
 tmpsOf o.op.operands.toList++(match o.dst with|some d=>(match K.up fn d with| .box t=> [t]|_=> [])|none=> [])++(match K.lift fn (o.dst.getD 0)with|some t=> [t]|none=> [])
def mJ (all:List Oper)(o:Oper):List Nat:=
 match o.guard with|some (j,_)=>(match all[j]? with|some oj=>oj.dst.toList|none=> [])|none=> []
def qQ:List Nat→Bool
 | []=>true
 |x::r=> !r.contains x && qQ r
def yr (fn:FuncId)(all:List Oper)(pre:Array Nat)(oj:Oper)(j:Nat)(oi:Oper)(i:Nat):Bool:=
 (match oi.dst with
 |none=>true
 |some d=>
  (!((jI K fn oj).contains d||(mJ all oj).contains d)||i==j||(decide (i<j) && (pre.getD j 0).testBit i)||(decide (j<i) && (pre.getD i 0).testBit j)) &&
  (!cJ oi||(!(mJ all oj).contains d && (!(jI K fn oj).contains d||(!cb K fn oj && !cJ oj))))) &&
 (!cJ oi||cb K fn oj||cJ oj||decide (j≤i)||(pre.getD j 0).testBit i)
def zL (fn:FuncId)(all:List Oper)(pre:Array Nat):Bool:=
 qQ (all.filterMap (·.dst)) &&
 all.zipIdx.all fun(oj,j)=>oj.after.all (fun e=> !Region.binds .any e||decide (e.on<j)) && all.zipIdx.all fun(oi,i)=>yr K fn all pre oj j oi i
def sameAt (fn:FuncId)(o:Oper)(s:bd)(v:GV)(H:aj):Bool:=match eP K fn o s H with|some (v',_)=>GV.beq v' v|none=>false
structure Dm where
 i:Nat
 o:Oper
 s:bd
 v:GV
def ik (rec:Rec)(fn:FuncId)(all:List Oper)(pre:Array Nat):Nat→List Oper→List (Nat×aj)→List Dm→aj→bP→Option bP
 |_,[],_,_,_,st=>some st
 |i,o::r,wl,rl,hb,st=>
  match dR all st.s o with
  |some false=>(match st.put o.dst ly with|some st=>ik rec fn all pre (i+1) r wl rl hb st|none=>none)
  |some true=>
   if cb K fn o then
    (match eP K fn o st.s hb with
    |some (v,_)=>
     (match st.put o.dst v with
     |some st'=>
      if Gp o then
       (if wl.all (fun x=>(pre.getD i 0).testBit x.1||sameAt K fn o st.s v x.2)then ik rec fn all pre (i+1) r wl (⟨i,o,st.s,v⟩::rl) hb st' else none)
      else ik rec fn all pre (i+1) r wl rl hb st'
     |none=>none)
    |none=>none)
   else
    (match cM K rec fn o st.s st.h with
    |some (v,H)=>
     (match bP.put {st with h:=H} o.dst v with
     |some st'=>
      if cJ o then ik rec fn all pre (i+1) r wl rl hb st'
      else if wl.all (fun x=>(pre.getD i 0).testBit x.1) && rl.all (fun q=>(pre.getD i 0).testBit q.i||sameAt K fn q.o q.s q.v H)then
       ik rec fn all pre (i+1) r ((i,hb)::wl) rl H st'
      else none
     |none=>none)
    |none=>none)
  |none=>none
def cX (rec:Rec)(fn:FuncId)(c:Code)(st:bP):Option (GX×bP):=
 match c with
 | .skip| .label _=>some (.normal,st)
 | .region _ ops false=>(match qP K rec fn ops.toList ops.toList st with|some st=>some (.normal,st)|none=>none)
 | .region _ ops true=>
  if zL K fn ops.toList (Region.before ops)then
   (match ik K rec fn ops.toList (Region.before ops) 0 ops.toList [] [] st.h st with|some st=>some (.normal,st)|none=>none)
  else none
 | .seq a b=>(match rec fn a st with|some (.normal,st)=>rec fn b st|r=>r)
 | .cond c x y=>(match ev st.s c with| .pure (.bool b)=>if b then rec fn x st else rec fn y st|_=>none)
 | .block id c=>(match rec fn c st with|some (.exit id',st)=>if id'=id then some (.normal,st)else some (.exit id',st)|r=>r)
 | .loop c=>
  let an:=K.fA fn (ba c)
  (match rec fn c {st with s:=j8 (an.map (·.1)) st.s,h:=[]::st.h}with
  |some (.normal,st)=>(match v7 K fn c st with|some st=>rec fn (.loop c) st|none=>none)
  |some (e,st)=>(match kn (an.map (·.2)) st with|some st=>some (e,st)|none=>none)
  |none=>none)
 | .scope c=>rec fn c st
 | .exit id=>some (.exit id,st)
 | .ret=>some (.ret,st)
 | .rangeFunc f ps assign body=>
  let key:=10000000+ba body
  (match jx st.h key (.loop {fD:=st.s,nt:=st.nt,params:=ps.toList,assign:=assign,body:=body,fn:=fn,state:= .ready,pending:=none})with
  |some (nm,H)=>
   (match oS K rec (ev st.s f) [.yield nm] 0 H with
   |some (_,H)=>
    (match H.get nm with
    |some (.loop l)=>
     if l.state= .busy then none else
     (match l.pending with
     |none=>some (.normal,{st with h:=H.set nm (.loop {l with state:= .exhausted})})
     |some e=>some (e,{st with h:=H.set nm (.loop {l with state:= .exhausted})}))
    |_=>none)
   |none=>none)
  |none=>none)
 |_=>none
def dB:Nat→Rec
 |0=>fun _ _ _=>none
 |n+1=>cX K (dB n)
end
end
section
abbrev Mu:=Nm→Nat→Option Nat
def pH (i:Nat):Nat:=2199023255552+i
section
variable (w:World) (S:Nat→Prop)
inductive b7:Value→PV→Prop
 |int (k:IntKind) (n:Int):b7 (.int k n) (.int k n)
 |bool (b:Bool):b7 (.bool b) (.bool b)
 |str (s:ByteArray):b7 (.string s) (.str s.data.toList)
 |fM (a:Option Addr) (cap:Nat):b7 (.slice a 0 cap) (.slice [])
 |slice (b o cap es:Nat) (l:List (List PV)) (f:Nat→Nat→Value) (hS:S b) (he:0<es) (hes: ∀r∈l,r.length=es)
   (hf: ∀i j,i<l.length→j<es→w.cell? ⟨b,o+(i*es+j),none⟩=some (f i j)) (h1: ∀i j,i<l.length→j<es→(f i j).oneCell'=true)
   (hr: ∀i j,i<l.length→j<es→b7 (f i j) ((l.getD i []).getD j .dead)) (hc:l.length≤cap):b7 (.slice (some ⟨b,o,none⟩) l.length cap) (.slice l)
 |agg (vs:Array Value) (l:List PV) (h:vs.size=l.length) (h1: ∀j,j<l.length→(vs.getD j undef).oneCell'=true) (hr: ∀j,j<l.length→b7 (vs.getD j undef) (l.getD j .dead)):b7 (.agg vs) (.agg l)
 |tuple (vs:Array Value) (l:List PV) (h:vs.size=l.length) (hr: ∀j,j<l.length→b7 (vs.getD j undef) (l.getD j .dead)):b7 (.tuple vs) (.tuple l)
 |fn (f:FuncId):b7 (.func (.func f) #[] #[]) (.fn f)
 |qK:b7 (.pointer none) .qK
 |iA:b7 .nilFunc .iA
 |oQ:b7 (.map none) .oQ
 |rQ:b7 .nilIface .rQ
 |iface (t:TypeId) (v:Value) (p:PV) (h:b7 v p):b7 (.iface t v) (.iface t p)
 |dead (v:Value):b7 v .dead
inductive aK (μ:Mu) (ℓ:Nat):Value→GV→Prop
 |pure (v:Value) (p:PV) (h:b7 w S v p):aK μ ℓ v (.pure p)
 |dN (b o:Nat) (cs:List PV) (f:Nat→Value) (hS:cs≠[]→S b) (hf: ∀j,j<cs.length→w.cell? ⟨b,o+j,none⟩=some (f j)) (h1: ∀j,j<cs.length→(f j).oneCell'=true)
   (hr: ∀j,j<cs.length→b7 w S (f j) (cs.getD j .dead)):aK μ ℓ (.pointer (some ⟨b,o,none⟩)) (.dN cs)
 |ij (b o:Nat) (cs:List GV) (f:Nat→Value) (hS:cs≠[]→S b) (hf: ∀j,j<cs.length→w.cell? ⟨b,o+j,none⟩=some (f j)) (h1: ∀j,j<cs.length→(f j).oneCell'=true)
   (hr: ∀j,j<cs.length→aK μ ℓ (f j) (cs.getD j aP)):aK μ ℓ (.pointer (some ⟨b,o,none⟩)) (.ij cs)
 |aS (a:Option Addr):aK μ ℓ (.slice a 0 0) .aS
 |lits (b o cap es:Nat) (l:List (List GV)) (f:Nat→Nat→Value) (hS:S b) (he:0<es) (hes: ∀r∈l,r.length=es)
   (hf: ∀i j,i<l.length→j<es→w.cell? ⟨b,o+(i*es+j),none⟩=some (f i j)) (h1: ∀i j,i<l.length→j<es→(f i j).oneCell'=true)
   (hr: ∀i j,i<l.length→j<es→aK μ ℓ (f i j) ((l.getD i []).getD j aP)):aK μ ℓ (.slice (some ⟨b,o,none⟩) l.length cap) (.lits l)
 |aD (nm:Nm) (off b:Nat) (hl:nm.1≤ℓ) (hm:μ nm 0=some b):aK μ ℓ (.pointer (some ⟨b,off,none⟩)) (.aD nm off)
 |eJ (nm:Nm) (es top i off b:Nat) (hl:nm.1≤ℓ) (hm:μ nm top=some b):aK μ ℓ (.pointer (some ⟨b,i*es+off,none⟩)) (.eJ nm es top i off)
 |aW (nm:Nm) (es top lo len cap b n:Nat) (e:TypeId) (hl:nm.1≤ℓ) (hm:μ nm top=some b) (hc:top≤lo+cap) (ht:lo+len≤top)
   (hsh:w.shape? b=some (e,n)) (hn:(lo+cap)*es≤n):aK μ ℓ (.slice (some ⟨b,lo*es,none⟩) len cap) (.aW nm es top lo len)
 |agg (vs:Array Value) (l:List GV) (h:vs.size=l.length) (h1: ∀j,j<l.length→(vs.getD j undef).oneCell'=true) (hr: ∀j,j<l.length→aK μ ℓ (vs.getD j undef) (l.getD j aP)):aK μ ℓ (.agg vs) (.agg l)
 |tuple (vs:Array Value) (l:List GV) (h:vs.size=l.length) (hr: ∀j,j<l.length→aK μ ℓ (vs.getD j undef) (l.getD j aP)):aK μ ℓ (.tuple vs) (.tuple l)
 |func (f:FuncId) (a c:Array Value) (la lc:List GV) (h1:a.size=la.length) (h2:c.size=lc.length)
   (hr1: ∀j,j<la.length→aK μ ℓ (a.getD j undef) (la.getD j aP)) (hr2: ∀j,j<lc.length→aK μ ℓ (c.getD j undef) (lc.getD j aP)):
   aK μ ℓ (.func (.func f) a c) (.func f la lc)
 |yield (nm:Nm) (b:Nat) (hl:nm.1≤ℓ) (hm:μ nm 0=some b):aK μ ℓ (.func (.yield b) #[] #[]) (.yield nm)
 |map (nm:Nm) (b:Nat) (hl:nm.1≤ℓ) (hm:μ nm 0=some b):aK μ ℓ (.map (some b)) (.map nm)
 |hZ (nm:Nm) (es i len cap b:Nat) (hl:nm.1≤ℓ) (hm:μ nm (pH i)=some b) (hc:len≤cap):aK μ ℓ (.slice (some ⟨b,0,none⟩) len cap) (.hZ nm es i len)
 |ji (nm:Nm) (es i j off b:Nat) (hl:nm.1≤ℓ) (hm:μ nm (pH i)=some b):aK μ ℓ (.pointer (some ⟨b,j*es+off,none⟩)) (.ji nm es i j off)
inductive bT (μ:Mu) (ℓ:Nat):List Value→List GV→Prop
 |nil:bT μ ℓ [] []
 |cons {v:Value} {g:GV} {vs:List Value} {gs:List GV} (h1:v.oneCell'=true) (h:aK w S μ ℓ v g) (t:bT μ ℓ vs gs):bT μ ℓ (v::vs) (g::gs)
def nE:GX→Code
 | .exit id=> .exit id
 |_=> .ret
def oJ (b es:Nat)(l:List (List PV)):Prop:=
 (∃c e,w.heap[b]? =some (.cells c e (0,0)))∧ ¬S b∧ ∀i j,i<l.length→j<es→ ∃u,w.cell? ⟨b,i*es+j,none⟩=some u∧u.oneCell'=true∧b7 w S u ((l.getD i []).getD j .dead)
structure du (μ:Mu)(nm:Nm)(es:Nat)(rows:List (List (List PV)))(n:Nat):Prop where
 pos:0<es
 le:n≤rows.length
 FW:n<pH 0
 wid: ∀r∈rows,∀x∈r,x.length=es
 row: ∀i,i<rows.length→ ∃b,μ nm (pH i)=some b∧oJ w S b es (rows.getD i [])
 inj: ∀i j b,μ nm (pH i)=some b→μ nm (pH j)=some b→i=j
 lK: ∀i b,μ nm (pH i)=some b→i<rows.length
 top: ∀t b,t<pH 0→μ nm t=some b→t≤n∧(∃c e,w.heap[b]? =some (.cells c e (0,0)))∧ ¬S b∧(∀i,μ nm (pH i)≠some b)∧
  ∀i,i<t→ ∃bi cap,w.cell? ⟨b,i,none⟩=some (.slice (some ⟨bi,0,none⟩) (rows.getD i []).length cap)∧μ nm (pH i)=some bi∧(rows.getD i []).length≤cap
def gS (μ:Mu)(nm:Nm):dM→Prop
 | .box cs=> ∃b c e,μ nm 0=some b∧ ¬S b∧w.heap[b]? =some (.cells c e (0,0))∧bT w S μ nm.1 c.toList cs
 | .arr es elems vf ro=>0<es∧(∀r∈elems,r.length=es)∧vf≤elems.length∧(∃b,μ nm elems.length=some b)∧
   (∀top b,μ nm top=some b→top≤elems.length∧(∃c e,w.heap[b]? =some (.cells c e (0,0)))∧(ro=false→ ¬S b)∧
    (vf≤top→(ro=true→S b)∧ ∀i j,i<top→j<es→ ∃u,w.cell? ⟨b,i*es+j,none⟩=some u∧u.oneCell'=true∧b7 w S u ((elems.getD i []).getD j .dead)))
 | .map es=> ∃b ms clock,μ nm 0=some b∧ ¬S b∧w.heap[b]? =some (.map ms clock)∧ms.size=es.length∧
   ∀j,(h:j<es.length)→ ∃m,ms[j]? =some m∧b7 w S m.key es[j].1∧aK w S μ nm.1 m.val es[j].2
 | .loop l=> ∃b r,μ nm 0=some b∧ ¬S b∧w.heap[b]? =some (.loop r)∧r.state=l.state∧r.pending=l.pending.map nE∧l.pending≠some .normal∧
   r.params=l.params.toArray∧r.assign=l.assign∧r.body=l.body∧r.tmps.size=l.nt∧ ∀t,aK w S μ nm.1 (r.tmps.getD t undef) (look l.fD t)
 | .rm es rows n=>du w S μ nm es rows n
structure bf (μ:Mu)(H:aj):Prop where
 jh: ∀nm x,H.get nm=some x→ ∀t b,μ nm t=some b→gS w S μ nm x
 lK: ∀nm t b,μ nm t=some b→ ∃x,H.get nm=some x
 iM: ∀nm nm' t t' b,μ nm t=some b→μ nm' t'=some b→nm=nm'
 lt: ∀nm t b,μ nm t=some b→b<w.heap.size
 slt: ∀b,S b→b<w.heap.size
end
structure Ev (ℓ:Nat)(w:World)(S:Nat→Prop)(μ:Mu)(w':World)(S':Nat→Prop)(μ':Mu):Prop where
 os:w'.os=w.os
 tape:w'.tape=w.tape
 out:w'.output=w.output
 size:w.heap.size≤w'.heap.size
 sub: ∀b,S b→S' b
 same: ∀b,b<w.heap.size→(S b∨ ∀nm t,μ nm t≠some b)→w'.heap[b]? =w.heap[b]?
 EF: ∀b x,w.shape? b=some x→w'.shape? b=some x
 lp: ∀(b:Nat) (r:Loop),w.heap[b]? =some (Obj.loop r)→ ∃r':Loop,w'.heap[b]? =some (Obj.loop r')
 mu: ∀nm t b,nm.1≤ℓ→μ nm t=some b→μ' nm t=some b
 own: ∀nm t b,μ' nm t=some b→b<w.heap.size→ ∃nm' t',μ nm' t'=some b
 xB: ∀b,S' b→b<w.heap.size→S b∨ ∃nm t,μ nm t=some b
theorem Ev.refl (ℓ:Nat)(w:World)(S:Nat→Prop)(μ:Mu):Ev ℓ w S μ w S μ:=
 ⟨rfl,rfl,rfl,Nat.le_refl _,fun _ h=>h,fun _ _ _=>rfl,fun _ _ h=>h,fun _ r h=>⟨r,h⟩,fun _ _ _ _ h=>h,fun nm t _ h _=>⟨nm,t,h⟩,fun _ h _=> .inl h⟩
theorem Ev.trans {ℓ:Nat}{w1 w2 w3:World}{S1 S2 S3:Nat→Prop}{μ1 μ2 μ3:Mu}(h:Ev ℓ w1 S1 μ1 w2 S2 μ2)(k:Ev ℓ w2 S2 μ2 w3 S3 μ3):
  Ev ℓ w1 S1 μ1 w3 S3 μ3 where
 os:=k.os.trans h.os
 tape:=k.tape.trans h.tape
 out:=k.out.trans h.out
 size:=Nat.le_trans h.size k.size
 sub:=fun b hb=>k.sub b (h.sub b hb)
 same:=fun b hb ho=>by
  have h1:=h.same b hb ho;rw [←h1];refine k.same b (Nat.lt_of_lt_of_le hb h.size) ?_;rcases ho with ho|ho
  ·exact .inl (h.sub b ho)
  ·refine .inr fun nm t hm=> ?_;obtain⟨nm',t',hm'⟩:=h.own nm t b hm hb;exact ho nm' t' hm'
 EF:=fun b x hx=>k.EF b x (h.EF b x hx)
 lp:=fun b r hr=>let ⟨r',h'⟩:=h.lp b r hr;k.lp b r' h'
 mu:=fun nm t b hl hm=>k.mu nm t b hl (h.mu nm t b hl hm)
 own:=fun nm t b hm hb=>by
  obtain⟨nm',t',hm'⟩:=k.own nm t b hm (Nat.lt_of_lt_of_le hb h.size);exact h.own nm' t' b hm' hb
 xB:=fun b hb hl=>by
  rcases k.xB b hb (Nat.lt_of_lt_of_le hl h.size)with h'|⟨nm,t,h'⟩
  ·exact h.xB b h' hl
  ·exact .inr (h.own nm t b h' hl)
theorem Ev.level {ℓ ℓ':Nat}{w1 w2:World}{S1 S2:Nat→Prop}{μ1 μ2:Mu}(h:Ev ℓ w1 S1 μ1 w2 S2 μ2)(hl:ℓ'≤ℓ):Ev ℓ' w1 S1 μ1 w2 S2 μ2:=
 {h with mu:=fun nm t b hb hm=>h.mu nm t b (Nat.le_trans hb hl) hm}
theorem dQ {w w':World}{b:Nat}(h:w'.heap[b]? =w.heap[b]?)(o:Nat):w'.cell? ⟨b,o,none⟩=w.cell? ⟨b,o,none⟩:=by
 unfold World.cell?;simp only [h]
theorem b7.mono {w w':World}{S S':Nat→Prop}(hS: ∀b,S b→S' b)(hw: ∀b,S b→w'.heap[b]? =w.heap[b]?){v:Value}{p:PV}(h:b7 w S v p):
  b7 w' S' v p:=by
 induction h with
 |int k n=>exact .int k n
 |bool b=>exact .bool b
 |str s=>exact .str s
 |fM a cap=>exact .fM a cap
 |slice b o cap es l f hb he hes hf h1 _ hc ih=>exact .slice b o cap es l f (hS b hb) he hes (fun i j hi hj=>by rw [dQ (hw b hb)];exact hf i j hi hj) h1 ih hc
 |agg vs l h h1 _ ih=>exact .agg vs l h h1 ih
 |tuple vs l h _ ih=>exact .tuple vs l h ih
 |fn f=>exact .fn f
 |qK=>exact .qK
 |iA=>exact .iA
 |oQ=>exact .oQ
 |rQ=>exact .rQ
 |iface t v p _ ih=>exact .iface t v p ih
 |dead v=>exact .dead v
theorem aK.mono {w w':World} {S S':Nat→Prop} {μ μ':Mu} {ℓ ℓ':Nat} (hS: ∀b,S b→S' b) (hw: ∀b,S b→w'.heap[b]? =w.heap[b]?)
  (hsh: ∀b x,w.shape? b=some x→w'.shape? b=some x) (hm: ∀nm t b,nm.1≤ℓ→μ nm t=some b→μ' nm t=some b) (hl:ℓ≤ℓ')
  {v:Value} {g:GV} (h:aK w S μ ℓ v g):aK w' S' μ' ℓ' v g:=by
 induction h with
 |pure v p h=>exact .pure v p (h.mono hS hw)
 |dN b o cs f hb hf h1 hr=>
  refine .dN b o cs f (fun h=>hS b (hb h)) (fun j hj=> ?_) h1 (fun j hj=>(hr j hj).mono hS hw);rw [dQ (hw b (hb (by intro h;subst h;simp at hj)))];exact hf j hj
 |ij b o cs f hb hf h1 _ ih=>
  refine .ij b o cs f (fun h=>hS b (hb h)) (fun j hj=> ?_) h1 ih;rw [dQ (hw b (hb (by intro h;subst h;simp at hj)))];exact hf j hj
 |aS a=>exact .aS a
 |lits b o cap es l f hb he hes hf h1 _ ih=>exact .lits b o cap es l f (hS b hb) he hes (fun i j hi hj=>by rw [dQ (hw b hb)];exact hf i j hi hj) h1 ih
 |aD nm off b h1 h2=>exact .aD nm off b (Nat.le_trans h1 hl) (hm _ _ _ h1 h2)
 |eJ nm es top i off b h1 h2=>exact .eJ nm es top i off b (Nat.le_trans h1 hl) (hm _ _ _ h1 h2)
 |aW nm es top lo len cap b n e h1 h2 hc ht hs hn=>exact .aW nm es top lo len cap b n e (Nat.le_trans h1 hl) (hm _ _ _ h1 h2) hc ht (hsh _ _ hs) hn
 |agg vs l h h1 _ ih=>exact .agg vs l h h1 ih
 |tuple vs l h _ ih=>exact .tuple vs l h ih
 |func f a c la lc h1 h2 _ _ ih1 ih2=>exact .func f a c la lc h1 h2 ih1 ih2
 |yield nm b h1 h2=>exact .yield nm b (Nat.le_trans h1 hl) (hm _ _ _ h1 h2)
 |map nm b h1 h2=>exact .map nm b (Nat.le_trans h1 hl) (hm _ _ _ h1 h2)
 |hZ nm es i len cap b h1 h2 hc=>exact .hZ nm es i len cap b (Nat.le_trans h1 hl) (hm _ _ _ h1 h2) hc
 |ji nm es i j off b h1 h2=>exact .ji nm es i j off b (Nat.le_trans h1 hl) (hm _ _ _ h1 h2)
section
variable {ℓ:Nat} {w w':World} {S S':Nat→Prop} {μ μ':Mu}
theorem Ev.val (h:Ev ℓ w S μ w' S' μ')(hlt: ∀b,S b→b<w.heap.size){k:Nat}(hk:k≤ℓ){v:Value}{g:GV}(hv:aK w S μ k v g):aK w' S' μ' k v g:=
 hv.mono h.sub (fun b hb=>h.same b (hlt b hb) (.inl hb)) h.EF (fun nm t b hn hm=>h.mu nm t b (Nat.le_trans hn hk) hm) (Nat.le_refl _)
end
theorem aK.up {w:World}{S:Nat→Prop}{μ:Mu}{ℓ ℓ':Nat}(hl:ℓ≤ℓ'){v:Value}{g:GV}(h:aK w S μ ℓ v g):aK w S μ ℓ' v g:=
 h.mono (fun _ h=>h) (fun _ _=>rfl) (fun _ _ h=>h) (fun _ _ _ _ h=>h) hl
theorem bT.mono {w w':World} {S S':Nat→Prop} {μ μ':Mu} {ℓ ℓ':Nat} (hS: ∀b,S b→S' b) (hw: ∀b,S b→w'.heap[b]? =w.heap[b]?)
  (hsh: ∀b x,w.shape? b=some x→w'.shape? b=some x) (hm: ∀nm t b,nm.1≤ℓ→μ nm t=some b→μ' nm t=some b) (hl:ℓ≤ℓ')
  {vs:List Value} {gs:List GV} (h:bT w S μ ℓ vs gs):bT w' S' μ' ℓ' vs gs:=by
 induction h with
 |nil=>exact .nil
 |cons h1 h _ ih=>exact .cons h1 (h.mono hS hw hsh hm hl) ih
theorem oJ.mono {w w':World} {S S':Nat→Prop} {b es:Nat} {l:List (List PV)} (hS: ∀b,S b→S' b) (hw: ∀b,S b→w'.heap[b]? =w.heap[b]?)
  (hb:w'.heap[b]? =w.heap[b]?) (hs:S' b→S b) (h:oJ w S b es l):oJ w' S' b es l:=by
 obtain⟨⟨c,e,h1⟩,h2,h3⟩:=h;refine⟨⟨c,e,by rw [hb];exact h1⟩,fun h=>h2 (hs h),fun i j hi hj=> ?_⟩;obtain⟨u,u1,u2,u3⟩:=h3 i j hi hj;exact⟨u,by rw [dQ hb];exact u1,u2,u3.mono hS hw⟩
theorem du.mono {w w':World} {S S':Nat→Prop} {μ μ':Mu} {nm nm':Nm} {es n:Nat} {rows:List (List (List PV))} (hS: ∀b,S b→S' b) (hw: ∀b,S b→w'.heap[b]? =w.heap[b]?)
  (ho: ∀t,μ' nm' t=μ nm t) (hb: ∀t b,μ nm t=some b→w'.heap[b]? =w.heap[b]?) (hs: ∀t b,μ nm t=some b→S' b→S b) (h:du w S μ nm es rows n):du w' S' μ' nm' es rows n where
 pos:=h.pos
 le:=h.le
 FW:=h.FW
 wid:=h.wid
 row:=fun i hi=>by
  obtain⟨b,h1,h2⟩:=h.row i hi;exact⟨b,by rw [ho];exact h1,h2.mono hS hw (hb _ _ h1) (hs _ _ h1)⟩
 inj:=fun i j b h1 h2=>by rw [ho]at h1 h2;exact h.inj i j b h1 h2
 lK:=fun i b h1=>by rw [ho]at h1;exact h.lK i b h1
 top:=fun t b ht h1=>by
  rw [ho]at h1;obtain⟨g1,⟨c,e,g2⟩,g3,g4,g5⟩:=h.top t b ht h1;refine⟨g1,⟨c,e,by rw [hb _ _ h1];exact g2⟩,fun h=>g3 (hs _ _ h1 h),fun i=>by rw [ho];exact g4 i,fun i hi=> ?_⟩;obtain⟨bi,cap,k1,k2,k3⟩:=g5 i hi;exact⟨bi,cap,by rw [dQ (hb _ _ h1)];exact k1,by rw [ho];exact k2,k3⟩
theorem gS.mono {w w':World} {S S':Nat→Prop} {μ μ':Mu} {nm:Nm} (hS: ∀b,S b→S' b) (hw: ∀b,S b→w'.heap[b]? =w.heap[b]?)
  (hsh: ∀b x,w.shape? b=some x→w'.shape? b=some x) (hm: ∀n t b,n.1≤nm.1→μ n t=some b→μ' n t=some b) (ho: ∀t,μ' nm t=μ nm t)
  (hb: ∀t b,μ nm t=some b→w'.heap[b]? =w.heap[b]?) (hs: ∀t b,μ nm t=some b→S' b→S b) {x:dM} (h:gS w S μ nm x):gS w' S' μ' nm x:=by
 cases x with
 |box cs=>
  obtain⟨b,c,e,h1,h2,h3,h4⟩:=h;exact⟨b,c,e,by rw [ho];exact h1,fun h=>h2 (hs _ _ h1 h),by rw [hb _ _ h1];exact h3,h4.mono hS hw hsh hm (Nat.le_refl _)⟩
 |arr es elems vf ro=>
  obtain⟨h0,h1,h2,⟨b0,h3⟩,h4⟩:=h;refine⟨h0,h1,h2,⟨b0,by rw [ho];exact h3⟩,fun top b hb'=> ?_⟩;rw [ho]at hb';obtain⟨g1,⟨c,e,g2⟩,g3,g4⟩:=h4 top b hb';refine⟨g1,⟨c,e,by rw [hb _ _ hb'];exact g2⟩,fun hr h=>g3 hr (hs _ _ hb' h),fun hv=> ?_⟩;obtain⟨k1,k2⟩:=g4 hv;refine⟨fun hr=>hS _ (k1 hr),fun i j hi hj=> ?_⟩;obtain⟨u,u1,u2,u3⟩:=k2 i j hi hj;exact⟨u,by rw [dQ (hb _ _ hb')];exact u1,u2,u3.mono hS hw⟩
 |map es=>
  obtain⟨b,ms,clock,h1,h2,h3,h4,h5⟩:=h;refine⟨b,ms,clock,by rw [ho];exact h1,fun h=>h2 (hs _ _ h1 h),by rw [hb _ _ h1];exact h3,h4,fun j hj=> ?_⟩;obtain⟨m,m1,m2,m3⟩:=h5 j hj;exact⟨m,m1,m2.mono hS hw,m3.mono hS hw hsh hm (Nat.le_refl _)⟩
 |loop l=>
  obtain⟨b,r,h1,h2,h3,q1,q2,q3,q5,q6,q7,q8,q9⟩:=h;exact⟨b,r,by rw [ho];exact h1,fun h=>h2 (hs _ _ h1 h),by rw [hb _ _ h1];exact h3,q1,q2,q3,q5,q6,q7,q8,fun t=>(q9 t).mono hS hw hsh hm (Nat.le_refl _)⟩
 |rm es rows n=>exact du.mono hS hw ho hb hs h
theorem Fr.bp (q : Nat) (x : dM) : ∀ f : Fr, (f.ins q x).get q = some x
  | [] => by simp [Fr.ins, Fr.get]
  | (k, b) :: r => by
    unfold Fr.ins
    split
    · simp [Fr.get]
    · split
      · simp [Fr.get]
      · rename_i h _; simp [Fr.get, h, Fr.bp q x r]
theorem Fr.ax {q p : Nat} (x : dM) (h : p ≠ q) : ∀ f : Fr, (f.ins q x).get p = f.get p
  | [] => by simp [Fr.ins, Fr.get, h]
  | (k, b) :: r => by
    unfold Fr.ins
    split
    · rename_i hk; subst hk; simp [Fr.get, h]
    · split
      · simp [Fr.get, h]
      · simp only [Fr.get]; rw [Fr.ax x h r]
theorem aj.bS: ∀{H:aj} {nm:Nm} {b:dM},H.get nm=some b→nm.1<H.length
 | [],nm,b,h=>by simp [aj.get]at h
 |f::H,nm,b,h=>by
  unfold aj.get at h;split at h
  ·rename_i e;simp [e]
  ·have:=aj.bS h;simp;omega
theorem aj.length_set: ∀(H:aj) (nm:Nm) (b:dM),(H.set nm b).length=H.length
 | [],_,_=>rfl
 |f::H,nm,b=>by
  unfold aj.set;split
  ·rfl
  ·simp [aj.length_set H nm b]
theorem aj.dg: ∀{H:aj} {nm:Nm} (b:dM),nm.1<H.length→(H.set nm b).get nm=some b
 | [],nm,b,h=>by simp at h
 |f::H,nm,b,h=>by
  unfold aj.set;split
  ·rename_i e;simp [aj.get,e,Fr.bp]
  ·rename_i e;simp only [aj.get,aj.length_set,e,if_false];exact aj.dg b (by simp at h;omega)
theorem aj.aL: ∀{H:aj} {nm nm':Nm} (b:dM),nm'≠nm→(H.set nm b).get nm'=H.get nm'
 | [],_,_,_,_=>rfl
 |f::H,nm,nm',b,h=>by
  unfold aj.set;split
  ·rename_i e;simp only [aj.get];split
   ·rename_i e';refine Fr.ax b ?_ f;intro h2;exact h (Prod.ext (by omega) h2)
   ·rfl
  ·simp only [aj.get,aj.length_set];split
   ·rfl
   ·exact aj.aL b h
theorem aj.Bj {H:aj}(nm:Nm):aj.get ([]::H) nm=H.get nm:=by
 show (if nm.1=H.length then Fr.get [] nm.2 else H.get nm)=H.get nm
 split
 ·rename_i e;simp only [Fr.get]
  cases h:aj.get H nm with
  |none=>rfl
  |some b=>have:=aj.bS h;omega
 ·rfl
end
section
theorem aK.pv {w:World}{S:Nat→Prop}{μ:Mu}{ℓ:Nat}{v:Value}{p:PV}(h:aK w S μ ℓ v (.pure p)):b7 w S v p:=by
 cases h with|pure _ _ h=>exact h
section crel
variable {w:World} {S:Nat→Prop} {μ:Mu} {ℓ:Nat}
theorem bT.length {vs:List Value}{gs:List GV}(h:bT w S μ ℓ vs gs):vs.length=gs.length:=by
 induction h with
 |nil=>rfl
 |cons _ _ _ ih=>simp [ih]
theorem bT.append {vs us:List Value}{gs ks:List GV}(h:bT w S μ ℓ vs gs)(k:bT w S μ ℓ us ks):bT w S μ ℓ (vs++us) (gs++ks):=by
 induction h with
 |nil=>exact k
 |cons h1 h2 _ ih=>exact .cons h1 h2 ih
theorem bT.take {vs:List Value}{gs:List GV}(h:bT w S μ ℓ vs gs): ∀n:Nat,bT w S μ ℓ (vs.take n) (gs.take n):=by
 induction h with
 |nil=>intro n;simp;exact .nil
 |cons h1 h2 _ ih=>intro n;cases n with
  |zero=>simp;exact .nil
  |succ n=>simp only [List.take_succ_cons];exact .cons h1 h2 (ih n)
theorem bT.drop {vs:List Value}{gs:List GV}(h:bT w S μ ℓ vs gs): ∀n:Nat,bT w S μ ℓ (vs.drop n) (gs.drop n):=by
 induction h with
 |nil=>intro n;simp;exact .nil
 |cons h1 h2 h3 ih=>intro n;cases n with
  |zero=>simp only [List.drop_zero];exact .cons h1 h2 h3
  |succ n=>simp only [List.drop_succ_cons];exact ih n
theorem bT.get {vs:List Value}{gs:List GV}(h:bT w S μ ℓ vs gs): ∀(j:Nat) (g:GV),gs[j]? =some g→ ∃v,vs[j]? =some v∧v.oneCell'=true∧aK w S μ ℓ v g:=by
 induction h with
 |nil=>intro j g hg;simp at hg
 | @cons v _ _ _ h1 h2 _ ih=>intro j g hg;cases j with
  |zero=>simp at hg;subst hg;exact⟨v,rfl,h1,h2⟩
  |succ j=>simpa using ih j g (by simpa using hg)
theorem bT.qJ: ∀(vs:List Value) (gs:List GV),vs.length=gs.length→(∀j,j<gs.length→(vs.getD j undef).oneCell'=true∧aK w S μ ℓ (vs.getD j undef) (gs.getD j aP))→
  bT w S μ ℓ vs gs
 | [],[],_,_=> .nil
 |v::vs,g::gs,h,k=> .cons (k 0 (by simp)).1 (k 0 (by simp)).2 (bT.qJ vs gs (by simpa using h) fun j hj=>by simpa using k (j+1) (by simpa using hj))
 | [],_::_,h,_=>by simp at h
 |_::_,[],h,_=>by simp at h
theorem bT.getD {vs:List Value}{gs:List GV}(h:bT w S μ ℓ vs gs)(j:Nat)(hj:j<gs.length):(vs.getD j undef).oneCell'=true∧aK w S μ ℓ (vs.getD j undef) (gs.getD j aP):=by
 obtain⟨v,h1,h2,h3⟩:=h.get j gs[j] (by simp [hj]);simp only [List.getD_eq_getElem?_getD,h1,List.getElem?_eq_getElem hj,Option.getD_some];exact⟨h2,h3⟩
theorem bT.aE {vs us:List Value}{gs ks:List GV}(h:bT w S μ ℓ vs gs)(k:bT w S μ ℓ us ks)(off:Nat):
  bT w S μ ℓ (aE vs off us) (aE gs off ks):=by
 unfold Gh.aE;rw [k.length];exact((h.take off).append k).append (h.drop _)
theorem bT.one {vs:List Value}{gs:List GV}(h:bT w S μ ℓ vs gs): ∀v∈vs,v.oneCell'=true:=by
 induction h with
 |nil=>simp
 |cons h1 _ _ ih=>intro v hv;rcases List.mem_cons.1 hv with rfl|hv;exact h1;exact ih v hv
theorem bT.replicate {vs:List Value}{gs:List GV}(h:bT w S μ ℓ vs gs): ∀n:Nat,bT w S μ ℓ (List.replicate n vs).flatten (List.replicate n gs).flatten
 |0=> .nil
 |n+1=>by simp only [List.replicate_succ,List.flatten_cons];exact h.append (bT.replicate h n)
theorem bT.qf: ∀(vs:List Value) (ps:List PV),bT w S μ ℓ vs (ps.map .pure)→vs.length=ps.length∧ ∀j,j<ps.length→(vs.getD j undef).oneCell'=true∧b7 w S (vs.getD j undef) (ps.getD j .dead):=by
 intro vs ps h;refine⟨by simpa using h.length,fun j hj=> ?_⟩;obtain⟨h1,h2⟩:=h.getD j (by simpa using hj);refine⟨h1, ?_⟩;have e:(ps.map GV.pure).getD j aP= .pure (ps.getD j .dead):=(by simp [List.getD_eq_getElem?_getD,hj]);rw [e]at h2;exact h2.pv
theorem bT.BF (vs:List Value)(ps:List PV)(h:vs.length=ps.length)(k: ∀j,j<ps.length→(vs.getD j undef).oneCell'=true∧b7 w S (vs.getD j undef) (ps.getD j .dead)):
  bT w S μ ℓ vs (ps.map .pure):=
 .qJ _ _ (by simpa using h) fun j hj=>by
  have hj':j<ps.length:=(by simpa using hj);have e:(ps.map GV.pure).getD j aP= .pure (ps.getD j .dead):=(by simp [List.getD_eq_getElem?_getD,hj']);rw [e];exact⟨(k j hj').1, .pure _ _ (k j hj').2⟩
end crel
theorem fJ: ∀{l:List GV} {ps:List PV},bG l=some ps→l=ps.map .pure
 | [],ps,h=>by simp [bG]at h;subst h;rfl
 |g::r,ps,h=>by
  cases g with
  |pure p=>
   simp only [bG]at h
   cases hr:bG r with
   |none=>rw [hr]at h;simp at h
   |some qs=>rw [hr]at h;simp at h;subst h;simp [fJ hr]
  |_=>simp [bG]at h
theorem o6: ∀l:List PV,bG (l.map .pure)=some l
 | []=>rfl
 |x::r=>by simp [bG,o6 r]
theorem pN (l:List PV):dm (l.map .pure)= .pure (.agg l):=by simp only [dm,o6]
theorem fT (vs:Array Value)(j:Nat):vs.getD j undef=vs.toList.getD j undef:=by
 simp [Array.getD_eq_getD_getElem?,List.getD_eq_getElem?_getD]
section vals
variable {w:World} {S:Nat→Prop} {μ:Mu} {ℓ:Nat}
theorem dX (v:Value):aK w S μ ℓ v aP:= .pure v .dead (.dead v)
theorem aK.IU {vs:List Value}{gs:List GV}(h:bT w S μ ℓ vs gs):aK w S μ ℓ (.agg vs.toArray) (.agg gs):=
 .agg _ _ (by simpa using h.length) (fun j hj=>by rw [fT];exact(h.getD j hj).1) (fun j hj=>by rw [fT];exact(h.getD j hj).2)
theorem yy {vs:List Value}{gs:List GV}(h:bT w S μ ℓ vs gs):aK w S μ ℓ (.agg vs.toArray) (dm gs):=by
 unfold dm;split
 ·rename_i ps hp;rw [fJ hp]at h;obtain⟨h1,h2⟩:=bT.qf _ _ h;exact .pure _ _ (.agg _ _ (by simpa using h1) (fun j hj=>by rw [fT];exact(h2 j hj).1) (fun j hj=>by rw [fT];exact(h2 j hj).2))
 ·exact .IU h
theorem fN {vs:Array Value}{gs:List GV}(h:bT w S μ ℓ vs.toList gs):aK w S μ ℓ (.agg vs) (dm gs):=by
 have:=yy h;simpa using this
theorem je {vs:Array Value}{gs:List GV}(hs:vs.size=gs.length)(h: ∀j,j<gs.length→aK w S μ ℓ (vs.getD j undef) (gs.getD j aP)):
  aK w S μ ℓ (.tuple vs) (mkTuple gs):=by
 unfold mkTuple;split
 ·rename_i ps hp;have e:=fJ hp;subst e;refine .pure _ _ (.tuple _ _ (by simpa using hs) fun j hj=> ?_);have h2:=h j (by simpa using hj);have e:(ps.map GV.pure).getD j aP= .pure (ps.getD j .dead):=(by simp [List.getD_eq_getElem?_getD,hj]);rw [e]at h2;exact h2.pv
 ·exact .tuple _ _ hs h
theorem fQ {v:Value}{g:GV}{cs:List GV}(h:aK w S μ ℓ v g)(hc:bQ g=some cs):bT w S μ ℓ v.cells.toList cs:=by
 have one: ∀{v:Value} {g:GV},v.oneCell'=true→v.cells= #[v]→aK w S μ ℓ v g→some [g]=some cs→bT w S μ ℓ v.cells.toList cs:=by
  intro v g h1 h2 h3 h4;simp at h4;subst h4;rw [h2];exact .cons h1 h3 .nil
 cases h with
 |pure _ p hp=>
  cases hp with
  |agg vs l h1 h2 h3=>
   simp only [bQ,Option.some.injEq]at hc;subst hc;exact .BF _ _ (by simpa [Value.cells]using h1) fun j hj=>by
    have a:=h2 j hj;have b:=h3 j hj;rw [fT]at a b;exact⟨a,b⟩
  |tuple vs l h1 h2=>simp [bQ]at hc
  |dead v=>simp [bQ]at hc
  |int k n=>exact one rfl rfl (.pure _ _ (.int k n)) hc
  |bool b=>exact one rfl rfl (.pure _ _ (.bool b)) hc
  |str s=>exact one rfl rfl (.pure _ _ (.str s)) hc
  |fM a cap=>exact one rfl rfl (.pure _ _ (.fM a cap)) hc
  |slice b o cap es l f hS he hes hf h1 hr hcp=>exact one rfl rfl (.pure _ _ (.slice b o cap es l f hS he hes hf h1 hr hcp)) hc
  |fn f=>exact one rfl rfl (.pure _ _ (.fn f)) hc
  |qK=>exact one rfl rfl (.pure _ _ .qK) hc
  |iA=>exact one rfl rfl (.pure _ _ .iA) hc
  |oQ=>exact one rfl rfl (.pure _ _ .oQ) hc
  |rQ=>exact one rfl rfl (.pure _ _ .rQ) hc
  |iface t v p h=>exact one rfl rfl (.pure _ _ (.iface t v p h)) hc
 |agg vs l h1 h2 h3=>
  simp only [bQ,Option.some.injEq]at hc;subst hc;exact .qJ _ _ (by simpa [Value.cells]using h1) fun j hj=>by
   have a:=h2 j hj;have b:=h3 j hj;rw [fT]at a b;exact⟨a,b⟩
 |tuple vs l h1 h2=>simp [bQ]at hc
 |dN b o cs f hS hf h1 hr=>exact one rfl rfl (.dN b o cs f hS hf h1 hr) hc
 |ij b o cs f hS hf h1 hr=>exact one rfl rfl (.ij b o cs f hS hf h1 hr) hc
 |aS a=>exact one rfl rfl (.aS a) hc
 |lits b o cap es l f hS he hes hf h1 hr=>exact one rfl rfl (.lits b o cap es l f hS he hes hf h1 hr) hc
 |aD nm off b h1 h2=>exact one rfl rfl (.aD nm off b h1 h2) hc
 |eJ nm es top i off b h1 h2=>exact one rfl rfl (.eJ nm es top i off b h1 h2) hc
 |aW nm es top lo len cap b n e h1 h2 h3 h4 h5 h6=>exact one rfl rfl (.aW nm es top lo len cap b n e h1 h2 h3 h4 h5 h6) hc
 |hZ nm es i len cap b h1 h2 h3=>exact one rfl rfl (.hZ nm es i len cap b h1 h2 h3) hc
 |ji nm es i j off b h1 h2=>exact one rfl rfl (.ji nm es i j off b h1 h2) hc
 |func f a c la lc h1 h2 h3 h4=>exact one rfl rfl (.func f a c la lc h1 h2 h3 h4) hc
 |yield nm b h1 h2=>exact one rfl rfl (.yield nm b h1 h2) hc
 |map nm b h1 h2=>exact one rfl rfl (.map nm b h1 h2) hc
theorem sj (v:Value):aK w S μ ℓ v (mL v):=by
 unfold mL;split
 ·exact .pure _ _ (.int _ _)
 ·exact .pure _ _ (.bool _)
 ·exact .pure _ _ (.str _)
 ·exact .aS _
 ·exact .pure _ _ .qK
 ·exact .pure _ _ .iA
 ·exact .pure _ _ .oQ
 ·exact .pure _ _ .rQ
 ·exact dX _
theorem fI (v:Value):aK w S μ ℓ v (ofConst v):=by
 unfold ofConst;split
 ·rename_i cs;split
  ·rename_i h;refine fN (.qJ _ _ (by simp) fun j hj=> ?_);have hj':j<cs.toList.length:=(by simpa using hj);have e1:cs.toList.getD j undef=cs.toList[j]:=(by rw [List.getD_eq_getElem?_getD,List.getElem?_eq_getElem hj'];rfl);have e2:(cs.toList.map mL).getD j aP=mL cs.toList[j]:=(by rw [List.getD_eq_getElem?_getD,List.getElem?_map,List.getElem?_eq_getElem hj'];rfl);rw [e1,e2];exact⟨List.all_eq_true.1 h _ (List.getElem_mem hj'),sj _⟩
  ·exact dX _
 ·exact sj _
theorem lh {a:Act}{s:bd}(hs: ∀t,aK w S μ ℓ (a.tmps.getD t undef) (look s t))(x:Operand):aK w S μ ℓ (a.eval x) (ev s x):=by
 cases x with
 |tmp t=>exact hs t
 |const v=>exact fI v
 |func f=>exact .pure _ _ (.fn f)
 |global g=>exact dX _
end vals
section runs
variable {P:Program} (w:World)
theorem aM {t:TypeId}{d:TypeDesc}(h:P.underlying t=some d):(underlying t).run P w= .ok d w:=run_underlying h w
theorem dF {t:TypeId}{n:Nat}(h:bD P t=some n):(sizeOf t).run P w= .ok n w:=by
 unfold bD at h
 cases hi:P.info? t with
 |none=>simp [hi]at h
 |some i=>simp [hi]at h;simp [sizeOf,typeInfo,hi,h]
theorem zT {t:TypeId}{n:Nat}(h:lx P t=some n): ∃i,(typeInfo t).run P w= .ok i w∧i.bytes=n:=by
 unfold lx at h
 cases hi:P.info? t with
 |none=>simp [hi]at h
 |some i=>simp [hi]at h;exact⟨i,by simp [typeInfo,hi],h⟩
theorem EP {t:TypeId}{b:Bool}(h:fk P t=some b):(isAgg t).run P w= .ok b w:=by
 unfold fk at h
 cases hu:P.underlying t with
 |none=>simp [hu]at h
 |some d=>
  simp only [isAgg,Sem.run_bind,aM w hu,Result.andThen_ok];cases d<;>simp [hu]at h<;>subst h<;>rfl
theorem oI {t:TypeId}{g:GV}(h:cT P t=some g): ∃v,(zeroValue t).run P w= .ok v w∧g=ofConst v:=by
 unfold cT at h
 cases hi:P.info? t with
 |none=>simp [hi]at h
 |some i=>
  cases hz:i.zero with
  |none=>simp [hi,hz]at h
  |some v=>simp [hi,hz]at h;exact⟨v,by simp [zeroValue,typeInfo,hi,hz],h.symm⟩
def nI (w:World)(b o:Nat)(vs:List Value):Prop:= ∀j v,vs[j]? =some v→w.cell? ⟨b,o+j,none⟩=some v
theorem dV (b o n:Nat):(⟨b,o,none⟩:Addr).add n=⟨b,o+n,none⟩:=by unfold Addr.add;split<;>simp_all
theorem um {b o:Nat}{vs:List Value}(h:nI w b o vs):(loadCells ⟨b,o,none⟩ vs.length).run P w= .ok vs.toArray w:=
 run_loadCells_list w _ vs fun j v hv=>by rw [dV];exact h j v hv
theorem xH {t:TypeId}{b o:Nat}{vs:List Value}(ha:fk P t=some true)(hs:bD P t=some vs.length)(h:nI w b o vs):
  (loadVar t ⟨b,o,none⟩).run P w= .ok (.agg vs.toArray) w:=by
 simp [loadVar,EP w ha,dF w hs,um w h]
theorem qe {t:TypeId}{b o:Nat}{v:Value}(ha:fk P t=some false)(h:w.cell? ⟨b,o,none⟩=some v):
  (loadVar t ⟨b,o,none⟩).run P w= .ok v w:=by
 simp [loadVar,EP w ha,h]
theorem qS {t:TypeId} {b o:Nat} {v:Value} {c:Array Value} {e:TypeId} (hs:bD P t=some v.cells.size) (hg:w.heap[b]? =some (.cells c e (0,0)))
  (hl:o+v.cells.size≤c.size) (h1: ∀u∈v.cells.toList,u.oneCell'=true):
  (storeVar t ⟨b,o,none⟩ v).run P w= .ok () (w.setRow b (aE c.toList o v.cells.toList).toArray):=by
 have:=run_storeCells_at (P:=P) b o e v.cells.toList 0 c w hg (by simpa using hl) h1;simp only [storeVar,Sem.run_bind,dF w hs,Result.andThen_ok,ne_eq,not_true_eq_false,if_false];simpa [aE,Nat.add_zero]using this
end runs
end
section
section
variable {w w':World} {S S':Nat→Prop} {μ μ':Mu} {H:aj}
theorem bf.C0 (ℓ:Nat) {nm:Nm} {x:dM} (hH:bf w S μ H) (hl:nm.1<H.length)
  (ho:w'.os=w.os) (ht:w'.tape=w.tape) (hout:w'.output=w.output) (hsz:w.heap.size≤w'.heap.size)
  (hsub: ∀b,S b→S' b) (hsn: ∀b,S' b→S b∨w.heap.size≤b∨ ∃t,μ nm t=some b) (hsl: ∀b,S' b→b<w'.heap.size)
  (hh: ∀k,k<w.heap.size→(S k∨ ∀t,μ nm t≠some k)→w'.heap[k]? =w.heap[k]?)
  (hsh: ∀b y,w.shape? b=some y→w'.shape? b=some y)
  (hlp: ∀(b:Nat) (r:Loop),w.heap[b]? =some (Obj.loop r)→ ∃r':Loop,w'.heap[b]? =some (Obj.loop r'))
  (hmo: ∀n t,n≠nm→μ' n t=μ n t) (hmu: ∀t b,μ nm t=some b→μ' nm t=some b)
  (hmn: ∀t b,μ' nm t=some b→(∃t',μ nm t'=some b)∨w.heap.size≤b) (hml: ∀t b,μ' nm t=some b→b<w'.heap.size)
  (hx:gS w' S' μ' nm x):bf w' S' μ' (H.set nm x)∧Ev ℓ w S μ w' S' μ':=by
 have hw: ∀b,S b→w'.heap[b]? =w.heap[b]? :=fun b hb=>hh b (hH.slt b hb) (.inl hb);have hmm: ∀n t b,μ n t=some b→μ' n t=some b:=fun n t b h=>by
  by_cases e:n=nm
  ·subst e;exact hmu t b h
  ·rw [hmo n t e];exact h
 constructor
 ·constructor
  ·intro n b hb t0 b0 hb0;by_cases e:n=nm
   ·subst e;rw [aj.dg _ hl]at hb;cases hb;exact hx
   ·rw [aj.aL _ e]at hb;rw [hmo n t0 e]at hb0;refine(hH.jh n b hb t0 b0 hb0).mono hsub hw hsh (fun n t b _ h=>hmm n t b h) (fun t=>hmo n t e) (fun t b' hb'=> ?_) (fun t b' hb' hs=> ?_)
    ·exact hh b' (hH.lt _ _ _ hb') (.inr fun t' h'=>e (hH.iM _ _ _ _ _ hb' h'))
    ·rcases hsn b' hs with h|h|⟨t',h⟩
     ·exact h
     ·have:=hH.lt _ _ _ hb';omega
     ·exact absurd (hH.iM _ _ _ _ _ hb' h) e
  ·intro n t b hb;by_cases e:n=nm
   ·subst e;exact⟨x,aj.dg _ hl⟩
   ·rw [hmo n t e]at hb;obtain⟨y,hy⟩:=hH.lK n t b hb;exact⟨y,by rw [aj.aL _ e];exact hy⟩
  ·intro n n' t t' b h h';have key: ∀n n' t t' b,n=nm→n'≠nm→μ' n t=some b→μ' n' t'=some b→False:=by
    intro n n' t t' b e e' h h';subst e;rw [hmo n' t' e']at h';rcases hmn t b h with ⟨t2,h2⟩|h2
    ·exact e' (hH.iM _ _ _ _ _ h' h2)
    ·have:=hH.lt _ _ _ h';omega
   by_cases e:n=nm
   ·by_cases e':n'=nm
    ·rw [e,e']
    ·exact(key n n' t t' b e e' h h').elim
   ·by_cases e':n'=nm
    ·exact(key n' n t' t b e' e h' h).elim
    ·rw [hmo n t e]at h;rw [hmo n' t' e']at h';exact hH.iM _ _ _ _ _ h h'
  ·intro n t b h;by_cases e:n=nm
   ·subst e;exact hml t b h
   ·rw [hmo n t e]at h;exact Nat.lt_of_lt_of_le (hH.lt _ _ _ h) hsz
  ·exact hsl
 ·refine⟨ho,ht,hout,hsz,hsub,fun b hb h=> ?_,hsh,hlp,fun n t b _ h=>hmm n t b h,fun n t b h hb=> ?_,fun b h hb=> ?_⟩
  ·rcases h with h|h
   ·exact hw b h
   ·exact hh b hb (.inr fun t=>h nm t)
  ·by_cases e:n=nm
   ·subst e;rcases hmn t b h with ⟨t',h'⟩|h'
    ·exact⟨_,t',h'⟩
    ·omega
   ·rw [hmo n t e]at h;exact⟨n,t,h⟩
  ·rcases hsn b h with h|h|⟨t,h⟩
   ·exact .inl h
   ·omega
   ·exact .inr ⟨nm,t,h⟩
def Mu.mh (μ:Mu)(nm:Nm)(top b:Nat):Mu:=fun n t=>if n=nm∧t=top then some b else μ n t
theorem Mu.bJ (μ:Mu)(nm:Nm)(top b:Nat):μ.mh nm top b nm top=some b:=by simp [Mu.mh]
theorem Mu.dr (μ:Mu){nm n:Nm}(top b t:Nat)(h:n≠nm):μ.mh nm top b n t=μ n t:=by simp [Mu.mh,h]
theorem Mu.cI (μ:Mu)(nm:Nm){top t:Nat}(b:Nat)(h:t≠top):μ.mh nm top b nm t=μ nm t:=by simp [Mu.mh,h]
theorem cg (w:World)(o:Obj):(w.alloc o).heap.size=w.heap.size+1:=by show (w.heap.push o).size=_;simp
theorem bU (w:World)(o:Obj)(k:Nat)(h:k<w.heap.size):(w.alloc o).heap[k]? =w.heap[k]? :=by
 show (w.heap.push o)[k]? =_
 rw [Array.getElem?_push,if_neg (by omega)]
theorem cY (w:World)(o:Obj):(w.alloc o).heap[w.heap.size]? =some o:=by
 show (w.heap.push o)[w.heap.size]? =_
 simp
theorem gQ (w:World)(o:Obj)(b:Nat)(y:TypeId×Nat)(h:w.shape? b=some y):(w.alloc o).shape? b=some y:=by
 have hb:b<w.heap.size:=by
  rcases Nat.lt_or_ge b w.heap.size with h'|h'
  ·exact h'
  ·simp [World.shape?,Array.getElem?_eq_none h']at h
 unfold World.shape? at h⊢;rw [bU w o b hb];exact h
theorem oK (w:World)(o:Obj)(b:Nat)(r:Loop)(h:w.heap[b]? =some (Obj.loop r)): ∃r':Loop,(w.alloc o).heap[b]? =some (Obj.loop r'):=by
 have hb:b<w.heap.size:=by
  rcases Nat.lt_or_ge b w.heap.size with h'|h'
  ·exact h'
  ·simp [Array.getElem?_eq_none h']at h
 exact⟨r,by rw [bU w o b hb];exact h⟩
theorem bf.new (ℓ:Nat) (hH:bf w S μ H) {nm:Nm} (hg:H.get nm=none) (hl:nm.1<H.length) (o:Obj) (top:Nat) (x:dM)
  (hx:gS (w.alloc o) S (μ.mh nm top w.heap.size) nm x):
  bf (w.alloc o) S (μ.mh nm top w.heap.size) (H.set nm x)∧Ev ℓ w S μ (w.alloc o) S (μ.mh nm top w.heap.size):=by
 have hno: ∀t b,μ nm t≠some b:=fun t b h=>by obtain⟨y,hy⟩:=hH.lK _ _ _ h;rw [hg]at hy;cases hy
 refine hH.C0 ℓ hl rfl rfl rfl (by rw [cg];omega) (fun _ h=>h) (fun b h=> .inl h) (fun b h=>by have:=hH.slt b h;rw [cg];omega)
  (fun k hk _=>bU w o k hk) (gQ w o) (oK w o) (fun n t h=>Mu.dr μ _ _ _ h) (fun t b h=>absurd h (hno t b)) (fun t b h=> ?_) (fun t b h=> ?_) hx
 ·by_cases e:t=top
  ·subst e;rw [Mu.bJ]at h;cases h;exact .inr (Nat.le_refl _)
  ·rw [Mu.cI μ nm _ e]at h;exact absurd h (hno t b)
 ·by_cases e:t=top
  ·subst e;rw [Mu.bJ]at h;cases h;rw [cg];omega
  ·rw [Mu.cI μ nm _ e]at h;exact absurd h (hno t b)
theorem bf.lit (ℓ:Nat)(hH:bf w S μ H)(o:Obj):
  bf (w.alloc o) (fun b=>S b∨b=w.heap.size) μ H∧Ev ℓ w S μ (w.alloc o) (fun b=>S b∨b=w.heap.size) μ:=by
 have hw: ∀b,S b→(w.alloc o).heap[b]? =w.heap[b]? :=fun b hb=>bU w o b (hH.slt b hb);constructor
 ·refine⟨fun n b hb t0 b0 hb0=> ?_,hH.lK,hH.iM,fun n t b h=> ?_,fun b h=> ?_⟩
  ·refine(hH.jh n b hb t0 b0 hb0).mono (fun b h=> .inl h) hw (gQ w o) (fun _ _ _ _ h=>h) (fun _=>rfl) (fun t b' h'=>bU w o b' (hH.lt _ _ _ h')) (fun t b' h' hs=> ?_);rcases hs with hs|hs
   ·exact hs
   ·have:=hH.lt _ _ _ h';omega
  ·have:=hH.lt n t b h;rw [cg];omega
  ·rcases h with h|h
   ·have:=hH.slt b h;rw [cg];omega
   ·subst h;rw [cg];omega
 ·exact⟨rfl,rfl,rfl,by rw [cg];omega,fun b h=> .inl h,fun b hb _=>bU w o b hb,gQ w o,oK w o,fun _ _ _ _ h=>h,fun n t b h _=>⟨n,t,h⟩,
   fun b h hb=>by rcases h with h|h;exact .inl h;omega⟩
theorem nz (w:World) (g:Nat) (c c':Array Value) (e:TypeId) (fr:Nat×Nat) (hg:w.heap[g]? =some (.cells c e fr)) (hs:c'.size=c.size) (b:Nat) (y:TypeId×Nat)
  (h:w.shape? b=some y):(w.setRow g c').shape? b=some y:=by
 unfold World.shape? at h⊢;by_cases e':b=g
 ·subst e';rw [setRow_heap w b c c' e fr hg];rw [hg]at h;simpa [hs]using h
 ·rw [setRow_other w g b c' e'];exact h
theorem GF (w:World) (g:Nat) (c c':Array Value) (e:TypeId) (fr:Nat×Nat) (hg:w.heap[g]? =some (.cells c e fr)) (b:Nat) (r:Loop)
  (h:w.heap[b]? =some (Obj.loop r)): ∃r':Loop,(w.setRow g c').heap[b]? =some (Obj.loop r'):=by
 by_cases e':b=g
 ·subst e';rw [hg]at h;cases h
 ·exact⟨r,by rw [setRow_other w g b c' e'];exact h⟩
theorem bf.row (ℓ:Nat) (hH:bf w S μ H) {nm:Nm} {x:dM} (hl:nm.1<H.length) {t b:Nat} (hm:μ nm t=some b) (hS: ¬S b) {c c':Array Value} {e:TypeId} {fr:Nat×Nat}
  (hg:w.heap[b]? =some (.cells c e fr)) (hs:c'.size=c.size) (top:Nat) (hx:gS (w.setRow b c') S (μ.mh nm top b) nm x)
  (hold: ∀b',μ nm top=some b'→b'=b):
  bf (w.setRow b c') S (μ.mh nm top b) (H.set nm x)∧Ev ℓ w S μ (w.setRow b c') S (μ.mh nm top b):=by
 refine hH.C0 ℓ hl rfl rfl rfl (by simp) (fun _ h=>h) (fun b h=> .inl h) (fun b h=>by simpa using hH.slt b h) (fun k hk ho=> ?_) (nz w b c c' e fr hg hs)
  (GF w b c c' e fr hg) (fun n t h=>Mu.dr μ _ _ _ h) (fun t' b' h=> ?_) (fun t' b' h=> ?_) (fun t' b' h=> ?_) hx
 ·refine setRow_other w b k c' fun e'=> ?_;subst e';rcases ho with ho|ho
  ·exact hS ho
  ·exact ho t hm
 ·by_cases e':t'=top
  ·subst e';rw [Mu.bJ,hold b' h]
  ·rw [Mu.cI μ nm _ e'];exact h
 ·by_cases e':t'=top
  ·subst e';rw [Mu.bJ]at h;cases h;exact .inl ⟨t,hm⟩
  ·rw [Mu.cI μ nm _ e']at h;exact .inl ⟨t',h⟩
 ·by_cases e':t'=top
  ·subst e';rw [Mu.bJ]at h;cases h;simpa using hH.lt _ _ _ hm
  ·rw [Mu.cI μ nm _ e']at h;simpa using hH.lt _ _ _ h
theorem bf.freeze (ℓ:Nat)(hH:bf w S μ H){nm:Nm}{es:Nat}{elems:List (List PV)}{vf:Nat}{ro:Bool}(hg:H.get nm=some (.arr es elems vf ro)){t0 b0:Nat}(hb0:μ nm t0=some b0):
  bf w (fun b=>S b∨ ∃t,μ nm t=some b) μ (H.set nm (.arr es elems vf true))∧Ev ℓ w S μ w (fun b=>S b∨ ∃t,μ nm t=some b) μ:=by
 refine hH.C0 ℓ (aj.bS hg) rfl rfl rfl (Nat.le_refl _) (fun b h=> .inl h) (fun b h=>h.imp id .inr) (fun b h=> ?_) (fun _ _ _=>rfl) (fun _ _ h=>h) (fun b r h=>⟨r,h⟩)
  (fun _ _ _=>rfl) (fun _ _ h=>h) (fun t b h=> .inl ⟨t,h⟩) (fun t b h=>hH.lt _ _ _ h) ?_
 ·rcases h with h|⟨t,h⟩
  ·exact hH.slt b h
  ·exact hH.lt _ _ _ h
 ·obtain⟨h0,h1,h2,h3,h4⟩:=hH.jh _ _ hg _ _ hb0;refine⟨h0,h1,h2,h3,fun top b hb=> ?_⟩;obtain⟨g1,g2,g3,g4⟩:=h4 top b hb;refine⟨g1,g2,fun h=>by simp at h,fun hv=>⟨fun _=> .inr ⟨top,hb⟩,fun i j hi hj=> ?_⟩⟩;obtain⟨u,u1,u2,u3⟩:=(g4 hv).2 i j hi hj;exact⟨u,u1,u2,u3.mono (fun b h=> .inl h) (fun _ _=>rfl)⟩
theorem BI (hH:bf w S μ H) {ℓ:Nat} {v:Value} {nm:Nm} {es top lo len:Nat} (hv:aK w S μ ℓ v (.aW nm es top lo len)) (hS': ∀b,S b→S' b)
  (hall: ∀t b,μ nm t=some b→S' b):b7 w S' v (js H nm es top lo len):=by
 unfold js;split
 ·rename_i es' elems vf ro hg;split
  ·rename_i hc;obtain⟨rfl,hvf,hlen,htop⟩:=hc
   cases hv with
   |aW _ _ _ _ _ cap b n e h1 h2 h3 h4 h5 h6=>
   obtain⟨h0,k1,k2,k3,k4⟩:=hH.jh _ _ hg _ _ h2;obtain⟨g1,g2,g3,g4⟩:=k4 top b h2;obtain⟨_,g5⟩:=g4 hvf;by_cases hz:len=0
   ·subst hz;simp;exact .fM _ _
   ·have hlen2:((elems.drop lo).take len).length=len:=(by simp;omega);have hget: ∀i,i<len→(((elems.drop lo).take len).getD i [])=elems.getD (lo+i) []:=fun i hi=>by
     simp [List.getD_eq_getElem?_getD,List.getElem?_take,hi,List.getElem?_drop]
    have:=b7.slice (w:=w) (S:=S') b (lo*es') cap es' ((elems.drop lo).take len) (fun i j=>(w.cell? ⟨b,(lo+i)*es'+j,none⟩).getD undef) (hall _ _ h2) h0
     (fun r hr=>k1 r (List.mem_of_mem_drop (List.mem_of_mem_take hr)))
     (fun i j hi hj=>by
      rw [hlen2]at hi;obtain⟨u,u1,u2,u3⟩:=g5 (lo+i) j (by omega) hj;have e:lo*es'+(i*es'+j)=(lo+i)*es'+j:=(by rw [Nat.add_mul];omega);rw [e,u1];rfl)
     (fun i j hi hj=>by
      rw [hlen2]at hi;obtain⟨u,u1,u2,u3⟩:=g5 (lo+i) j (by omega) hj;simp only [u1,Option.getD_some];exact u2)
     (fun i j hi hj=>by
      rw [hlen2]at hi;obtain⟨u,u1,u2,u3⟩:=g5 (lo+i) j (by omega) hj;simp only [u1,Option.getD_some,hget i hi];exact u3.mono hS' (fun _ _=>rfl))
     (by rw [hlen2];omega)
    rw [hlen2]at this;exact this
  ·exact .dead _
 ·exact .dead _
theorem IV {b es:Nat}{r:List (List PV)}{cap:Nat}(hr:oJ w S b es r)(hpos:0<es)(hw: ∀x∈r,x.length=es)(hc:r.length≤cap)(hS': ∀b,S b→S' b)(hb:S' b):
  b7 w S' (.slice (some ⟨b,0,none⟩) r.length cap) (.slice r):=by
 obtain⟨_,_,h3⟩:=hr;refine b7.slice (w:=w) (S:=S') b 0 cap es r (fun i j=>(w.cell? ⟨b,i*es+j,none⟩).getD undef) hb hpos hw (fun i j hi hj=> ?_) (fun i j hi hj=> ?_) (fun i j hi hj=> ?_) hc
 ·obtain⟨u,u1,u2,u3⟩:=h3 i j hi hj;rw [Nat.zero_add,u1];rfl
 ·obtain⟨u,u1,u2,u3⟩:=h3 i j hi hj;simp only [u1,Option.getD_some];exact u2
 ·obtain⟨u,u1,u2,u3⟩:=h3 i j hi hj;simp only [u1,Option.getD_some];exact u3.mono hS' (fun _ _=>rfl)
theorem yf (hH:bf w S μ H) {ℓ:Nat} {v:Value} {nm:Nm} {es top lo len:Nat} (hv:aK w S μ ℓ v (.aW nm es top lo len)) (hS': ∀b,S b→S' b)
  (hall: ∀t b,μ nm t=some b→S' b):b7 w S' v (ig H nm es top lo len):=by
 unfold ig;split
 ·rename_i es' rows n hg;split
  ·rename_i hc;obtain⟨rfl,hlen,htop⟩:=hc
   cases hv with
   |aW _ _ _ _ _ cap b n e h1 h2 h3 h4 h5 h6=>
   have m:du w S μ nm es' rows _:=hH.jh _ _ hg _ _ h2;have hml:=m.le;obtain⟨g1,g2,g3,g4,g5⟩:=m.top top b (by have:=m.FW;omega) h2;by_cases hz:len=0
   ·subst hz;simp;exact .fM _ _
   ·have hlen2:(((rows.drop lo).take len).map fun r=> [PV.slice r]).length=len:=(by simp;omega);have hget: ∀i,i<len→((((rows.drop lo).take len).map fun r=> [PV.slice r]).getD i [])=[.slice (rows.getD (lo+i) [])]:=fun i hi=>by
     have:lo+i<rows.length:=(by omega);simp [List.getD_eq_getElem?_getD,List.getElem?_take,hi,List.getElem?_drop,this]
    have:=b7.slice (w:=w) (S:=S') b (lo*1) cap 1 (((rows.drop lo).take len).map fun r=> [PV.slice r]) (fun i j=>(w.cell? ⟨b,lo+i,none⟩).getD undef) (hall _ _ h2) (by omega)
     (fun r hr=>by obtain⟨x,_,rfl⟩:=List.mem_map.1 hr;rfl)
     (fun i j hi hj=>by
      rw [hlen2]at hi;obtain⟨bi,cp,u1,u2,u3⟩:=g5 (lo+i) (by omega);obtain rfl:j=0:=(by omega);have e:lo*1+(i*1+0)=lo+i:=(by omega);rw [e,u1];rfl)
     (fun i j hi hj=>by
      rw [hlen2]at hi;obtain⟨bi,cp,u1,u2,u3⟩:=g5 (lo+i) (by omega);simp only [u1,Option.getD_some];rfl)
     (fun i j hi hj=>by
      rw [hlen2]at hi;obtain⟨bi,cp,u1,u2,u3⟩:=g5 (lo+i) (by omega);obtain rfl:j=0:=(by omega);rw [hget i hi];simp only [u1,Option.getD_some,List.getD_cons_zero];obtain⟨b',k1,k2⟩:=m.row (lo+i) (by omega);rw [u2]at k1;cases k1;refine IV k2 m.pos (fun x hx=> ?_) u3 hS' (hall _ _ u2);have hlt:lo+i<rows.length:=(by omega);rw [List.getD_eq_getElem?_getD,List.getElem?_eq_getElem hlt]at hx;exact m.wid _ (List.getElem_mem hlt) x hx)
     (by rw [hlen2];omega)
    rw [hlen2]at this;exact this
  ·exact .dead _
 ·exact BI hH hv hS' hall
theorem mM {nm:Nm}{es top lo len:Nat}:(dI H (.aW nm es top lo len))=
  match H.get nm with
  |some (.arr es' elems vf _)=>if es'=es∧vf≤top∧lo+len≤top∧top≤elems.length then (.slice ((elems.drop lo).take len),H.set nm (.arr es' elems vf true))else (.dead,H)
  |_=>(.dead,H):=rfl
def fe (H H1:aj):Prop:=H1.length=H.length∧(∀nm cs,H.get nm=some (.box cs)→H1.get nm=some (.box cs))∧(∀nm,(H.get nm).isSome→(H1.get nm).isSome)
theorem fe.refl (H:aj):fe H H:=⟨rfl,fun _ _ h=>h,fun _ h=>h⟩
theorem fe.trans {H1 H2 H3:aj}(h:fe H1 H2)(k:fe H2 H3):fe H1 H3:=
 ⟨k.1.trans h.1,fun nm cs hg=>k.2.1 nm cs (h.2.1 nm cs hg),fun nm hg=>k.2.2 nm (h.2.2 nm hg)⟩
theorem nC (ℓ:Nat)(hH:bf w S μ H){k:Nat}{v:Value}{g:GV}(hv:aK w S μ k v g):
  ∃S',bf w S' μ (dI H g).2∧Ev ℓ w S μ w S' μ∧b7 w S' v (dI H g).1∧fe H (dI H g).2:=by
 have triv: ∀p,b7 w S v p→ ∃S',bf w S' μ H∧Ev ℓ w S μ w S' μ∧b7 w S' v p∧fe H H:=fun p hp=>⟨S,hH, .refl _ _ _ _,hp, .refl H⟩
 cases g with
 |pure p=>exact triv p hv.pv
 |aS=>cases hv with|aS a=>exact triv _ (.fM a 0)
 |aW nm es top lo len=>
  rw [mM];have hs:=BI (S':=fun b=>S b∨ ∃t,μ nm t=some b) hH hv (fun b h=> .inl h) (fun t b h=> .inr ⟨t,h⟩);unfold js at hs;split
  ·rename_i es' elems vf ro hg;rw [hg]at hs;simp only at hs;split
   ·rename_i hc;rw [if_pos hc]at hs;obtain⟨tb,bb,hbb⟩: ∃t b,μ nm t=some b:=(by cases hv with|aW _ _ _ _ _ cap b n e h1 h2 h3 h4 h5 h6=>exact⟨_,_,h2⟩);obtain⟨h1,h2⟩:=hH.freeze ℓ hg hbb;refine⟨_,h1,h2,hs,aj.length_set _ _ _,fun n cs hn=> ?_,fun n hn=> ?_⟩
    ·rw [aj.aL];exact hn;intro e;subst e;rw [hg]at hn;cases hn
    ·by_cases e:n=nm
     ·subst e;rw [aj.dg _ (aj.bS hg)];rfl
     ·rw [aj.aL _ e];exact hn
   ·exact triv _ (.dead v)
  ·exact triv _ (.dead v)
 |_=>exact triv _ (.dead v)
theorem iP (ℓ:Nat): ∀{gs:List GV} {vs:List Value} {S:Nat→Prop} {H:aj} {k:Nat},bf w S μ H→bT w S μ k vs gs→
  ∃S',bf w S' μ (bI H gs).2∧Ev ℓ w S μ w S' μ∧bT w S' μ k vs ((bI H gs).1.map .pure)∧fe H (bI H gs).2
 | [],vs,S,H,k,hH,hc=>by cases hc;exact⟨S,hH, .refl _ _ _ _, .nil, .refl H⟩
 |g::gs,vs,S,H,k,hH,hc=>by
  cases hc with
  |cons h1 h2 h3=>
  obtain⟨S1,a1,a2,a3,a4⟩:=nC ℓ hH h2;have h3':bT w S1 μ k _ gs:=h3.mono a2.sub (fun _ _=>rfl) (fun _ _ h=>h) (fun _ _ _ _ h=>h) (Nat.le_refl _);obtain⟨S2,b1,b2,b3,b4⟩:=iP ℓ a1 h3';refine⟨S2,b1,a2.trans b2, ?_,a4.trans b4⟩;exact .cons h1 (.pure _ _ (a3.mono b2.sub (fun _ _=>rfl))) b3
theorem jN {l0:Nat}{k:Nat}: ∀{gs:List GV} {f:Nat→Value},fU l0 gs=true→(∀j,j<gs.length→aK w S μ k (f j) (gs.getD j aP))→
  ∀j,j<gs.length→aK w S μ l0 (f j) (gs.getD j aP)
 | [],f,_,h=>by simp
 |g::gs,f,ha,h=>by
  have hrec:fU l0 gs=true→ ∀j,j<gs.length→aK w S μ l0 (f (j+1)) (gs.getD j aP):=fun ha'=>
   jN (f:=fun j=>f (j+1)) ha' (fun j hj=>by simpa using h (j+1) (by simpa using hj))
  have h0:aK w S μ k (f 0) g:=(by simpa using h 0 (by simp));have main:aK w S μ l0 (f 0) g∧fU l0 gs=true:=by
   generalize f 0=v at h0
   cases h0 with
   |pure _ p hp=>exact⟨.pure _ _ hp,by simpa [fU]using ha⟩
   |dN b o cs f' hS hf h1 hr=>exact⟨.dN b o cs f' hS hf h1 hr,by simpa [fU]using ha⟩
   |aS a=>exact⟨.aS a,by simpa [fU]using ha⟩
   |aD nm off b h1 h2=>simp [fU]at ha;exact⟨.aD nm off b ha.1 h2,ha.2⟩
   |eJ nm es top i off b h1 h2=>simp [fU]at ha;exact⟨.eJ nm es top i off b ha.1 h2,ha.2⟩
   |aW nm es top lo len cap b n e h1 h2 h3 h4 h5 h6=>simp [fU]at ha;exact⟨.aW nm es top lo len cap b n e ha.1 h2 h3 h4 h5 h6,ha.2⟩
   |yield nm b h1 h2=>simp [fU]at ha;exact⟨.yield nm b ha.1 h2,ha.2⟩
   |map nm b h1 h2=>simp [fU]at ha;exact⟨.map nm b ha.1 h2,ha.2⟩
   |_=>simp [fU]at ha
  intro j hj
  cases j with
  |zero=>simpa using main.1
  |succ j=>simpa using hrec main.2 j (by simpa using hj)
theorem qI {k l0:Nat} {v:Value} {g:GV} (hv:aK w S μ k v g) (hS': ∀b,S b→S' b)
  (hall: ∀nm es top lo len,g= .aW nm es top lo len→ ¬nm.1≤l0→b7 w S' v (ig H nm es top lo len)):
  aK w S' μ l0 v (cL H l0 g):=by
 have up: ∀{v g},aK w S μ l0 v g→aK w S' μ l0 v g:=fun h=>h.mono hS' (fun _ _=>rfl) (fun _ _ h=>h) (fun _ _ _ _ h=>h) (Nat.le_refl _)
 cases hv with
 |pure _ p hp=>exact up (.pure _ _ hp)
 |dN b o cs f hS hf h1 hr=>exact up (.dN b o cs f hS hf h1 hr)
 |ij b o cs f hS hf h1 hr=>
  simp only [cL];split
  ·rename_i ha;exact up (.ij b o cs f hS hf h1 (jN ha hr))
  ·exact dX _
 |aS a=>exact up (.aS a)
 |lits b o cap es l f hS he hes hf h1 hr=>
  simp only [cL];split
  ·rename_i ha;refine up (.lits b o cap es l f hS he hes hf h1 fun i j hi hj=> ?_);have hi':l[i]∈l:=List.getElem_mem hi;have e:l.getD i []=l[i]:=(by simp [List.getD_eq_getElem?_getD,hi]);have hl:(l[i]).length=es:=hes _ hi';rw [e];refine jN (k:=k) (f:=f i) (List.all_eq_true.1 ha _ hi') (fun j hj=> ?_) j (by omega);have:=hr i j hi (by omega)
   rwa [e]at this
  ·exact dX _
 |aD nm off b h1 h2=>simp only [cL];split;exact up (.aD nm off b ‹_› h2);exact dX _
 |eJ nm es top i off b h1 h2=>simp only [cL];split;exact up (.eJ nm es top i off b ‹_› h2);exact dX _
 |aW nm es top lo len cap b n e h1 h2 h3 h4 h5 h6=>
  simp only [cL];split
  ·exact up (.aW nm es top lo len cap b n e ‹_› h2 h3 h4 h5 h6)
  ·rename_i hl;exact .pure _ _ (hall nm es top lo len rfl hl)
 |agg vs l h h1 hr=>exact dX _
 |tuple vs l h hr=>exact dX _
 |func f a c la lc h1 h2 hr1 hr2=>
  simp only [cL];split
  ·rename_i ha;simp only [Bool.and_eq_true]at ha;exact up (.func f a c la lc h1 h2 (jN ha.1 hr1) (jN ha.2 hr2))
  ·exact dX _
 |yield nm b h1 h2=>simp only [cL];split;exact up (.yield nm b ‹_› h2);exact dX _
 |map nm b h1 h2=>simp only [cL];split;exact up (.map nm b ‹_› h2);exact dX _
 |hZ nm es i len cap b h1 h2 h3=>simp only [cL];split;exact up (.hZ nm es i len cap b ‹_› h2 h3);exact dX _
 |ji nm es i j off b h1 h2=>simp only [cL];split;exact up (.ji nm es i j off b ‹_› h2);exact dX _
theorem qW (hH:bf w S μ H){k l0:Nat}{v:Value}{g:GV}(hv:aK w S μ k v g)(hS': ∀b,S b→S' b)(hall: ∀nm t b,l0<nm.1→μ nm t=some b→S' b):
  aK w S' μ l0 v (cL H l0 g):=
 qI hv hS' fun nm es top lo len e hl=>by subst e;exact yf hH hv hS' (fun t b h=>hall nm t b (by omega) h)
theorem zV (hH:bf w S μ H) {k l0:Nat} (hS': ∀b,S b→S' b) (hall: ∀nm t b,l0<nm.1→μ nm t=some b→S' b) {vs:List Value} {gs:List GV}
  (h:bT w S μ k vs gs):bT w S' μ l0 vs (gs.map (cL H l0)):=by
 induction h with
 |nil=>exact .nil
 |cons h1 h2 _ ih=>exact .cons h1 (qW hH h2 hS' hall) ih
theorem aK.cells {k:Nat}{v:Value}{l:List GV}(h:aK w S μ k v (.agg l)): ∃vs:Array Value,v= .agg vs∧bT w S μ k vs.toList l:=by
 cases h with
 |agg vs _ h1 h2 h3=>
  exact⟨vs,rfl, .qJ _ _ (by simpa using h1) fun j hj=>by
   have a:=h2 j hj;have b:=h3 j hj;rw [fT]at a b;exact⟨a,b⟩⟩
theorem IW (hH:bf w S μ H) {k l0:Nat} {v:Value} {g g':GV} (hv:aK w S μ k v g) (hS': ∀b,S b→S' b) (hall: ∀nm t b,l0<nm.1→μ nm t=some b→S' b)
  (h:sV H l0 g=some g'):aK w S' μ l0 v g':=by
 have up: ∀{v g},aK w S μ l0 v g→aK w S' μ l0 v g:=fun h=>h.mono hS' (fun _ _=>rfl) (fun _ _ h=>h) (fun _ _ _ _ h=>h) (Nat.le_refl _)
 cases hv with
 |pure _ p hp=>simp only [sV,Option.some.injEq]at h;subst h;exact up (.pure _ _ hp)
 |dN b o cs f hS hf h1 hr=>simp only [sV,Option.some.injEq]at h;subst h;exact up (.dN b o cs f hS hf h1 hr)
 |aS a=>simp only [sV,Option.some.injEq]at h;subst h;exact up (.aS a)
 |aD nm off b h1 h2=>
  simp only [sV]at h;split at h
  ·simp only [Option.some.injEq]at h;subst h;exact up (.aD nm off b ‹_› h2)
  ·rename_i hl;split at h
   ·rename_i cs hg;split at h
    ·rename_i ps hps;split at h
     ·rename_i ho;simp only [Option.some.injEq]at h;subst h;obtain⟨b',c,e,q1,_,q3,q4⟩:=hH.jh nm _ hg 0 b h2;rw [h2]at q1;cases q1;rw [fJ hps]at q4;obtain⟨z1,z2⟩:=bT.qf _ _ q4;refine .dN b off (ps.drop off) (fun j=>c.toList.getD (off+j) undef) (fun _=>hall nm 0 b (by omega) h2) (fun j hj=> ?_) (fun j hj=> ?_) (fun j hj=> ?_)
      ·have hj':off+j<c.toList.length:=(by rw [z1];simp at hj;omega);have this:c.toList[off+j]? =some (c.toList.getD (off+j) undef):=(by rw [List.getD_eq_getElem?_getD,List.getElem?_eq_getElem hj'];rfl);simp only [World.cell?,q3];simpa using this
      ·exact(z2 (off+j) (by simp at hj;omega)).1
      ·have:=(z2 (off+j) (by simp at hj;omega)).2;have e:(ps.drop off).getD j .dead=ps.getD (off+j) .dead:=(by simp [List.getD_eq_getElem?_getD,List.getElem?_drop]);rw [e];exact this.mono hS' (fun _ _=>rfl)
     ·cases h
    ·cases h
   ·cases h
 |_=>simp [sV]at h
theorem yD (hH:bf w S μ H){k l0:Nat}(hS': ∀b,S b→S' b)(hall: ∀nm t b,l0<nm.1→μ nm t=some b→S' b):
  ∀{gs gs':List GV} {f:Nat→Value},rN H l0 gs=some gs'→(∀j,j<gs.length→aK w S μ k (f j) (gs.getD j aP))→gs'.length=gs.length∧ ∀j,j<gs'.length→aK w S' μ l0 (f j) (gs'.getD j aP)
 | [],gs',f,h,_=>by
  simp only [rN,Option.some.injEq]at h;subst h;exact⟨rfl,fun j hj=>absurd hj (Nat.not_lt_zero _)⟩
 |g::gs,gs',f,h,hr=>by
  simp only [rN]at h;split at h
  ·rename_i g1 r1 e1 e2;simp only [Option.some.injEq]at h;subst h;obtain⟨a,b⟩:=yD hH hS' hall (f:=fun j=>f (j+1)) e2 (fun j hj=>by simpa using hr (j+1) (by simpa using hj));refine⟨by simp [a],fun j hj=> ?_⟩
   cases j with
   |zero=>simpa using IW hH (by simpa using hr 0 (by simp)) hS' hall e1
   |succ j=>simpa using b j (by simpa using hj)
  ·cases h
theorem wI (hH:bf w S μ H){k l0:Nat}{v:Value}{g:GV}(hv:aK w S μ k v g)(hS': ∀b,S b→S' b)(hall: ∀nm t b,l0<nm.1→μ nm t=some b→S' b):
  aK w S' μ l0 v (ju H l0 g):=by
 cases g with
 |agg l=>
  obtain⟨vs,rfl,hc⟩:=hv.cells;exact fN (zV hH hS' hall hc)
 |func f la lc=>
  simp only [ju];split
  ·rename_i ha;have:=qW (l0:=l0) hH hv hS' hall;simpa only [cL,ha,if_true]using this
  ·split
   ·rename_i hf;split
    ·rename_i cap' hc
     cases hv with
     |func _ a c _ _ h1 h2 hr1 hr2=>
      obtain⟨e1,e2⟩:=yD hH hS' hall hc hr2;exact .func f a c la cap' h1 (by rw [e1];exact h2) (fun j hj=>(jN hf hr1 j hj).mono hS' (fun _ _=>rfl) (fun _ _ h=>h) (fun _ _ _ _ h=>h) (Nat.le_refl _)) e2
    ·exact dX _
   ·exact dX _
 |_=>exact qW hH hv hS' hall
theorem Gc (hH:bf w S μ H){k l0:Nat}{v:Value}{g:GV}(hv:aK w S μ k v g)(hS': ∀b,S b→S' b)(hall: ∀nm t b,l0<nm.1→μ nm t=some b→S' b):
  aK w S' μ l0 v (clean H l0 g):=by
 cases g with
 |tuple l=>
  cases hv with
  |tuple vs _ h1 h2=>
   refine je (by simpa using h1) fun j hj=> ?_;have hj':j<l.length:=(by simpa using hj);have e:(l.map (ju H l0)).getD j aP=ju H l0 (l.getD j aP):=(by simp [List.getD_eq_getElem?_getD,hj']);rw [e];exact wI hH (h2 j hj') hS' hall
 |_=>exact wI hH hv hS' hall
theorem pY (ℓ:Nat)(hH:bf w S μ H){k:Nat}{v:Value}{g:GV}(l0:Nat)(hv:aK w S μ k v g):
  ∃S',bf w S' μ (ez H l0 g).2∧Ev ℓ w S μ w S' μ∧aK w S' μ l0 v (ez H l0 g).1∧fe H (ez H l0 g).2:=by
 cases g with
 |aW nm es top lo len=>
  simp only [ez];split
  ·rename_i hl;refine⟨S,hH, .refl _ _ _ _, ?_, .refl H⟩
   cases hv with
   |aW _ _ _ _ _ cap b n e h1 h2 h3 h4 h5 h6=>exact .aW nm es top lo len cap b n e hl h2 h3 h4 h5 h6
  ·obtain⟨S',a1,a2,a3,a4⟩:=nC ℓ hH hv;exact⟨S',a1,a2, .pure _ _ a3,a4⟩
 |_=>exact⟨S,hH, .refl _ _ _ _,qI (H:=H) hv (fun _ h=>h) (fun nm es top lo len e _=>by cases e), .refl H⟩
theorem lu (ℓ l0:Nat): ∀{gs:List GV} {vs:List Value} {S:Nat→Prop} {H:aj} {k:Nat},bf w S μ H→bT w S μ k vs gs→
  ∃S',bf w S' μ (cG H l0 gs).2∧Ev ℓ w S μ w S' μ∧bT w S' μ l0 vs (cG H l0 gs).1∧fe H (cG H l0 gs).2
 | [],vs,S,H,k,hH,hc=>by cases hc;exact⟨S,hH, .refl _ _ _ _, .nil, .refl H⟩
 |g::gs,vs,S,H,k,hH,hc=>by
  cases hc with
  |cons h1 h2 h3=>
  obtain⟨S1,a1,a2,a3,a4⟩:=pY ℓ hH l0 h2;have h3':bT w S1 μ k _ gs:=h3.mono a2.sub (fun _ _=>rfl) (fun _ _ h=>h) (fun _ _ _ _ h=>h) (Nat.le_refl _);obtain⟨S2,b1,b2,b3,b4⟩:=lu ℓ l0 a1 h3';exact⟨S2,b1,a2.trans b2, .cons h1 (a3.mono b2.sub (fun _ _=>rfl) (fun _ _ h=>h) (fun _ _ _ _ h=>h) (Nat.le_refl _)) b3,a4.trans b4⟩
end
end
end Go.Gh
