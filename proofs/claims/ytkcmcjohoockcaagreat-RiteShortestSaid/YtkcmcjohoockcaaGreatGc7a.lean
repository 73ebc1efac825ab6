/- Texts joined: the evaluator over ghost values, its soundness, the walks. Spaces struck and names made short by a program, for the size. -/
import Derived.RangeFuncLeaves
import Derived.WalkKit
import Derived.Eval
import Derived.Laws.CopyRow
namespace Go.Gh
set_option linter.unusedVariables false
set_option linter.unusedSimpArgs false
set_option linter.unnecessarySimpa false
set_option maxRecDepth 100000
set_option maxHeartbeats 8000000
inductive PV where
 |int (k:IntKind) (n:Int)
 |bool (b:Bool)
 |str (s:List UInt8)
 |slice (l:List (List PV))
 |agg (l:List PV)
 |tuple (l:List PV)
 |fn (f:FuncId)
 |qF
 |gf
 |oM
 |rS
 |iface (t:TypeId) (v:PV)
 |dead
 deriving Inhabited
abbrev Nm:=Nat×Nat
inductive GV where
 |pure (p:PV)
 |b7 (cs:List PV)
 |aV
 |ay (nm:Nm) (off:Nat)
 |eC (nm:Nm) (es top i off:Nat)
 |a8 (nm:Nm) (es top lo len:Nat)
 |lits (l:List (List GV))
 |iA (cs:List GV)
 |agg (l:List GV)
 |tuple (l:List GV)
 |func (f:FuncId) (first cap:List GV)
 |yield (nm:Nm)
 |map (nm:Nm)
 |gR (nm:Nm) (es i len:Nat)
 |je (nm:Nm) (es i j off:Nat)
 deriving Inhabited
mutual
def PV.beq:PV→PV→Bool
 | .int k a, .int k' b=>decide (k=k') && a==b
 | .bool a, .bool b=>a==b
 | .str a, .str b=>a==b
 | .slice a, .slice b=>PV.ke a b
 | .agg a, .agg b=>PV.kr a b
 | .tuple a, .tuple b=>PV.kr a b
 | .fn f, .fn g=>f==g
 | .qF, .qF| .gf, .gf| .oM, .oM| .rS, .rS| .dead, .dead=>true
 | .iface t v, .iface u w=>t==u && PV.beq v w
 |_,_=>false
def PV.kr:List PV→List PV→Bool
 | [],[]=>true
 |a::r,b::s=>PV.beq a b && PV.kr r s
 |_,_=>false
def PV.ke:List (List PV)→List (List PV)→Bool
 | [],[]=>true
 |a::r,b::s=>PV.kr a b && PV.ke r s
 |_,_=>false
end
mutual
def GV.beq:GV→GV→Bool
 | .pure a, .pure b=>PV.beq a b
 | .b7 a, .b7 b=>PV.kr a b
 | .aV, .aV=>true
 | .ay n o, .ay m p=>n==m && o==p
 | .eC n e t i o, .eC m e' t' i' o'=>n==m && e==e' && t==t' && i==i' && o==o'
 | .a8 n e t i o, .a8 m e' t' i' o'=>n==m && e==e' && t==t' && i==i' && o==o'
 | .lits a, .lits b=>GV.ke a b
 | .iA a, .iA b=>GV.kr a b
 | .agg a, .agg b=>GV.kr a b
 | .tuple a, .tuple b=>GV.kr a b
 | .func f a c, .func g b d=>f==g && GV.kr a b && GV.kr c d
 | .yield n, .yield m=>n==m
 | .map n, .map m=>n==m
 | .gR n e i l, .gR m e' i' l'=>n==m && e==e' && i==i' && l==l'
 | .je n e i j o, .je m e' i' j' o'=>n==m && e==e' && i==i' && j==j' && o==o'
 |_,_=>false
def GV.kr:List GV→List GV→Bool
 | [],[]=>true
 |a::r,b::s=>GV.beq a b && GV.kr r s
 |_,_=>false
def GV.ke:List (List GV)→List (List GV)→Bool
 | [],[]=>true
 |a::r,b::s=>GV.kr a b && GV.ke r s
 |_,_=>false
end
mutual
theorem PV.beq_eq: ∀a b:PV,PV.beq a b=true→a=b
 | .int k a,b,h=>by cases b<;>simp_all [PV.beq]
 | .bool a,b,h=>by cases b<;>simp_all [PV.beq]
 | .str a,b,h=>by cases b<;>simp_all [PV.beq]
 | .slice a,b,h=>by cases b<;>simp [PV.beq]at h;rw [PV.oN _ _ h]
 | .agg a,b,h=>by cases b<;>simp [PV.beq]at h;rw [PV.iu _ _ h]
 | .tuple a,b,h=>by cases b<;>simp [PV.beq]at h;rw [PV.iu _ _ h]
 | .fn f,b,h=>by cases b<;>simp_all [PV.beq]
 | .qF,b,h=>by cases b<;>simp_all [PV.beq]
 | .gf,b,h=>by cases b<;>simp_all [PV.beq]
 | .oM,b,h=>by cases b<;>simp_all [PV.beq]
 | .rS,b,h=>by cases b<;>simp_all [PV.beq]
 | .iface t v,b,h=>by cases b<;>simp [PV.beq]at h;rw [h.1,PV.beq_eq _ _ h.2]
 | .dead,b,h=>by cases b<;>simp_all [PV.beq]
theorem PV.iu: ∀a b:List PV,PV.kr a b=true→a=b
 | [],b,h=>by cases b<;>simp_all [PV.kr]
 |x::r,b,h=>by
  cases b with
  |nil=>simp [PV.kr]at h
  |cons y s=>simp [PV.kr]at h;rw [PV.beq_eq _ _ h.1,PV.iu _ _ h.2]
theorem PV.oN: ∀a b:List (List PV),PV.ke a b=true→a=b
 | [],b,h=>by cases b<;>simp_all [PV.ke]
 |x::r,b,h=>by
  cases b with
  |nil=>simp [PV.ke]at h
  |cons y s=>simp [PV.ke]at h;rw [PV.iu _ _ h.1,PV.oN _ _ h.2]
end
mutual
theorem GV.beq_eq: ∀a b:GV,GV.beq a b=true→a=b
 | .pure a,b,h=>by cases b<;>simp [GV.beq]at h;rw [PV.beq_eq _ _ h]
 | .b7 a,b,h=>by cases b<;>simp [GV.beq]at h;rw [PV.iu _ _ h]
 | .aV,b,h=>by cases b<;>simp_all [GV.beq]
 | .ay n o,b,h=>by cases b<;>simp_all [GV.beq]
 | .eC n e t i o,b,h=>by cases b<;>simp_all [GV.beq]
 | .a8 n e t i o,b,h=>by cases b<;>simp_all [GV.beq]
 | .lits a,b,h=>by cases b<;>simp [GV.beq]at h;rw [GV.oN _ _ h]
 | .iA a,b,h=>by cases b<;>simp [GV.beq]at h;rw [GV.iu _ _ h]
 | .agg a,b,h=>by cases b<;>simp [GV.beq]at h;rw [GV.iu _ _ h]
 | .tuple a,b,h=>by cases b<;>simp [GV.beq]at h;rw [GV.iu _ _ h]
 | .func f a c,b,h=>by cases b<;>simp [GV.beq]at h;rw [h.1.1,GV.iu _ _ h.1.2,GV.iu _ _ h.2]
 | .yield n,b,h=>by cases b<;>simp_all [GV.beq]
 | .map n,b,h=>by cases b<;>simp_all [GV.beq]
 | .gR n e i l,b,h=>by cases b<;>simp_all [GV.beq]
 | .je n e i j o,b,h=>by cases b<;>simp_all [GV.beq]
theorem GV.iu: ∀a b:List GV,GV.kr a b=true→a=b
 | [],b,h=>by cases b<;>simp_all [GV.kr]
 |x::r,b,h=>by
  cases b with
  |nil=>simp [GV.kr]at h
  |cons y s=>simp [GV.kr]at h;rw [GV.beq_eq _ _ h.1,GV.iu _ _ h.2]
theorem GV.oN: ∀a b:List (List GV),GV.ke a b=true→a=b
 | [],b,h=>by cases b<;>simp_all [GV.ke]
 |x::r,b,h=>by
  cases b with
  |nil=>simp [GV.ke]at h
  |cons y s=>simp [GV.ke]at h;rw [GV.iu _ _ h.1,GV.oN _ _ h.2]
end
mutual
@[simp] theorem PV.rT: ∀a:PV,PV.beq a a=true
 | .int k a=>by simp [PV.beq]
 | .bool a=>by simp [PV.beq]
 | .str a=>by simp [PV.beq]
 | .slice a=>by simp [PV.beq,PV.lx a]
 | .agg a=>by simp [PV.beq,PV.fb a]
 | .tuple a=>by simp [PV.beq,PV.fb a]
 | .fn f=>by simp [PV.beq]
 | .qF=>rfl
 | .gf=>rfl
 | .oM=>rfl
 | .rS=>rfl
 | .iface t v=>by simp [PV.beq,PV.rT v]
 | .dead=>rfl
@[simp] theorem PV.fb: ∀a:List PV,PV.kr a a=true
 | []=>rfl
 |x::r=>by simp [PV.kr,PV.rT x,PV.fb r]
@[simp] theorem PV.lx: ∀a:List (List PV),PV.ke a a=true
 | []=>rfl
 |x::r=>by simp [PV.ke,PV.fb x,PV.lx r]
end
mutual
@[simp] theorem GV.rT: ∀a:GV,GV.beq a a=true
 | .pure a=>by simp [GV.beq]
 | .b7 a=>by simp [GV.beq]
 | .aV=>rfl
 | .ay n o=>by simp [GV.beq]
 | .eC n e t i o=>by simp [GV.beq]
 | .a8 n e t i o=>by simp [GV.beq]
 | .lits a=>by simp [GV.beq,GV.lx a]
 | .iA a=>by simp [GV.beq,GV.fb a]
 | .agg a=>by simp [GV.beq,GV.fb a]
 | .tuple a=>by simp [GV.beq,GV.fb a]
 | .func f a c=>by simp [GV.beq,GV.fb a,GV.fb c]
 | .yield n=>by simp [GV.beq]
 | .map n=>by simp [GV.beq]
 | .gR n e i l=>by simp [GV.beq]
 | .je n e i j o=>by simp [GV.beq]
@[simp] theorem GV.fb: ∀a:List GV,GV.kr a a=true
 | []=>rfl
 |x::r=>by simp [GV.kr,GV.rT x,GV.fb r]
@[simp] theorem GV.lx: ∀a:List (List GV),GV.ke a a=true
 | []=>rfl
 |x::r=>by simp [GV.ke,GV.fb x,GV.lx r]
end
inductive GX where
 |normal
 |exit (id:Nat)
 |ret
 deriving DecidableEq,Inhabited
structure fK where
 ez:List (Nat×GV)
 nt:Nat
 params:List Tmp
 assign:Code
 body:Code
 fn:FuncId
 state:LoopState
 pending:Option GX
 deriving Inhabited
inductive dH where
 |box (cells:List GV)
 |arr (es:Nat) (elems:List (List PV)) (vf:Nat) (ro:Bool)
 |map (entries:List (PV×GV))
 |loop (l:fK)
 |qY (es:Nat) (rows:List (List (List PV))) (n:Nat)
 deriving Inhabited
abbrev Fr:=List (Nat×dH)
def Fr.get:Fr→Nat→Option dH
 | [],_=>none
 |(k,b)::r,q=>if q=k then some b else Fr.get r q
def Fr.ins (q:Nat)(x:dH):Fr→Fr
 | []=> [(q,x)]
 |(k,b)::r=>if q=k then (q,x)::r else if q<k then (q,x)::(k,b)::r else (k,b)::Fr.ins q x r
abbrev aj:=List Fr
def aj.get:aj→Nm→Option dH
 | [],_=>none
 |f::H,nm=>if nm.1=H.length then f.get nm.2 else aj.get H nm
def aj.set:aj→Nm→dH→aj
 | [],_,_=> []
 |f::H,nm,b=>if nm.1=H.length then f.ins nm.2 b::H else f::aj.set H nm b
abbrev aZ:=List (Nat×GV)
def aP:GV:= .pure .dead
def ly:GV:= .pure (.tuple [])
def look:aZ→Nat→GV
 | [],_=>aP
 |(k,v)::r,t=>if t=k then v else look r t
structure bN where
 s:aZ
 h:aj
 nt:Nat
def bN.put (st:bN)(d:Option Tmp)(v:GV):Option bN:=
 match d with
 |none=>some st
 |some d=>if d<st.nt then some {st with s:=(d,v)::st.s}else none
def bm:List GV→Option (List PV)
 | []=>some []
 | .pure p::r=>match bm r with|some ps=>some (p::ps)|none=>none
 |_::_=>none
def cZ (l:List GV):GV:=match bm l with|some ps=> .pure (.agg ps)|none=> .agg l
def mkTuple (l:List GV):GV:=match bm l with|some ps=> .pure (.tuple ps)|none=> .tuple l
def bC:GV→Option (List GV)
 | .agg l=>some l
 | .pure (.agg l)=>some (l.map .pure)
 | .pure .dead| .pure (.tuple _)| .tuple _=>none
 |g=>some [g]
def mJ:Value→GV
 | .int k n=> .pure (.int k n)
 | .bool b=> .pure (.bool b)
 | .string s=> .pure (.str s.data.toList)
 | .slice none 0 0=> .aV
 | .pointer none=> .pure .qF
 | .nilFunc=> .pure .gf
 | .map none=> .pure .oM
 | .nilIface=> .pure .rS
 |_=>aP
def ofConst:Value→GV
 | .agg cs=>if cs.toList.all Value.oneCell' then cZ (cs.toList.map mJ)else aP
 |v=>mJ v
def ev (s:aZ):Operand→GV
 | .tmp t=>look s t
 | .const v=>ofConst v
 | .func f=> .pure (.fn f)
 | .global _=>aP
def cj:GV→GV
 | .aV=> .pure (.slice [])
 |g=>g
def canon:GV→GV
 | .aV=> .pure (.slice [])
 | .agg l=>cZ (l.map cj)
 | .tuple l=>mkTuple (l.map fun g=>match g with| .agg l=>cZ (l.map cj)|g=>cj g)
 |g=>g
def bp (P:Program)(t:TypeId):Option Nat:=(P.info? t).map (·.size)
def jH (P:Program)(t:TypeId):Option Nat:=(P.info? t).map (·.bytes)
def cw (P:Program)(t:TypeId):Option GV:=match P.info? t with|some i=>(match i.zero with|some v=>some (ofConst v)|none=>none)|none=>none
def eI (P:Program)(t:TypeId):Option Bool:=
 match P.underlying t with
 |some (.struct _)|some (.array _ _)=>some true
 |some _=>some false
 |none=>none
def dr (P:Program)(t:TypeId):Option TypeId:=match P.underlying t with|some (.slice e)=>some e|_=>none
def ur (P:Program)(t:TypeId):Option (Nat×TypeId):=match P.underlying t with|some (.array n e)=>some (n,e)|_=>none
def ma (P:Program)(t:TypeId)(f:Nat):Option (Nat×TypeId):=
 match P.underlying t with
 |some (.struct fs)=>match fs[f]? with|some x=>some (x.offset,x.type)|none=>none
 |_=>none
def placesOf (P:Program):List Field→Option (List (Nat×Nat))
 | []=>some []
 |f::r=>match bp P f.type,placesOf P r with|some n,some l=>some ((f.offset,n)::l)|_,_=>none
def fG (P:Program)(t:TypeId):Option (List (Nat×Nat)):=
 match P.underlying t with
 |some (.struct fs)=>placesOf P fs.toList
 |_=>none
def jU (H:aj)(nm:Nm)(es top lo len:Nat):PV:=
 match H.get nm with
 |some (.arr es' elems vf _)=>if es'=es∧vf≤top∧lo+len≤top∧top≤elems.length then .slice ((elems.drop lo).take len)else .dead
 |_=> .dead
def hJ (H:aj)(nm:Nm)(es top lo len:Nat):PV:=
 match H.get nm with
 |some (.qY _ rows n)=>if es=1∧lo+len≤top∧top≤n then .slice (((rows.drop lo).take len).map fun r=> [.slice r])else .dead
 |_=>jU H nm es top lo len
def dE (l0:Nat):List GV→Bool
 | []=>true
 | .pure _::r| .b7 _::r| .aV::r=>dE l0 r
 | .ay nm _::r| .eC nm _ _ _ _::r| .a8 nm _ _ _ _::r| .yield nm::r| .map nm::r=>decide (nm.1≤l0) && dE l0 r
 |_::_=>false
def cI (H:aj)(l0:Nat):GV→GV
 | .a8 nm es top lo len=>if nm.1≤l0 then .a8 nm es top lo len else .pure (hJ H nm es top lo len)
 | .ay nm off=>if nm.1≤l0 then .ay nm off else aP
 | .eC nm es top i off=>if nm.1≤l0 then .eC nm es top i off else aP
 | .yield nm=>if nm.1≤l0 then .yield nm else aP
 | .map nm=>if nm.1≤l0 then .map nm else aP
 | .func f first cap=>if dE l0 first && dE l0 cap then .func f first cap else aP
 | .pure p=> .pure p
 | .b7 cs=> .b7 cs
 | .aV=> .aV
 | .lits l=>if l.all (dE l0)then .lits l else aP
 | .iA cs=>if dE l0 cs then .iA cs else aP
 | .gR nm es i len=>if nm.1≤l0 then .gR nm es i len else aP
 | .je nm es i j off=>if nm.1≤l0 then .je nm es i j off else aP
 | .agg _| .tuple _=>aP
def rU (H:aj)(l0:Nat):GV→Option GV
 | .pure p=>some (.pure p)
 | .b7 cs=>some (.b7 cs)
 | .aV=>some .aV
 | .ay nm off=>if nm.1≤l0 then some (.ay nm off)else
  match H.get nm with
  |some (.box cs)=>(match bm cs with|some ps=>if off≤ps.length then some (.b7 (ps.drop off))else none|none=>none)
  |_=>none
 |_=>none
def pV (H:aj)(l0:Nat):List GV→Option (List GV)
 | []=>some []
 |g::r=>match rU H l0 g,pV H l0 r with|some g,some r=>some (g::r)|_,_=>none
def iB (H:aj)(l0:Nat):GV→GV
 | .agg l=>cZ (l.map (cI H l0))
 | .func f first cap=>if dE l0 first && dE l0 cap then .func f first cap else if dE l0 first then (match pV H l0 cap with|some cap=> .func f first cap|none=>aP)else aP
 |g=>cI H l0 g
def clean (H:aj)(l0:Nat):GV→GV
 | .tuple l=>mkTuple (l.map (iB H l0))
 |g=>iB H l0 g
def dC (H:aj):GV→PV×aj
 | .pure p=>(p,H)
 | .aV=>(.slice [],H)
 | .a8 nm es top lo len=>
  match H.get nm with
  |some (.arr es' elems vf _)=>if es'=es∧vf≤top∧lo+len≤top∧top≤elems.length then (.slice ((elems.drop lo).take len),H.set nm (.arr es' elems vf true))else (.dead,H)
  |_=>(.dead,H)
 |_=>(.dead,H)
def bO (H:aj):List GV→List PV×aj
 | []=>([],H)
 |g::r=>let (p,H1):=dC H g;let (ps,H2):=bO H1 r;(p::ps,H2)
def eZ (H:aj)(l0:Nat):GV→GV×aj
 | .a8 nm es top lo len=>if nm.1≤l0 then (.a8 nm es top lo len,H)else let (p,H1):=dC H (.a8 nm es top lo len);(.pure p,H1)
 |g=>(cI H l0 g,H)
def da (H:aj)(l0:Nat):List GV→List GV×aj
 | []=>([],H)
 |g::r=>let (p,H1):=eZ H l0 g;let (ps,H2):=da H1 l0 r;(p::ps,H2)
def aD {α:Type}(l:List α)(off:Nat)(xs:List α):List α:=l.take off++xs++l.drop (off+xs.length)
def kx (P:Program)(t:TypeId)(H:aj)(a:GV):Option GV:=
 match eI P t,bp P t with
 |some ag,some size=>
  match a with
  | .ay nm off=>
   match H.get nm with
   |some (.box cs)=>if ag then (if off+size≤cs.length then some (cZ ((cs.drop off).take size))else none)else cs[off]?
   |_=>none
  | .eC nm es top i off=>
   match H.get nm with
   |some (.arr es' elems vf _)=>
    if es'=es∧vf≤top∧i<top∧top≤elems.length then
     (match elems[i]? with
     |some e=>if ag then (if off+size≤e.length then some (.pure (.agg ((e.drop off).take size)))else none)else (match e[off]? with|some p=>some (.pure p)|none=>none)
     |none=>none)
    else none
   |some (.qY es' rows n)=>if ag=false∧es=1∧off=0∧i<top∧top≤n then (match rows[i]? with|some r=>some (.gR nm es' i r.length)|none=>none)else none
   |_=>none
  | .je nm es i j off=>
   match H.get nm with
   |some (.qY es' rows _)=>
    if es'=es then
     (match rows[i]? with
     |some r=>
      (match r[j]? with
      |some e=>if ag then (if off+size≤e.length then some (.pure (.agg ((e.drop off).take size)))else none)else (match e[off]? with|some p=>some (.pure p)|none=>none)
      |none=>none)
     |none=>none)
    else none
   |_=>none
  | .b7 cs=>if ag then (if size≤cs.length then some (.pure (.agg (cs.take size)))else none)else (match cs[0]? with|some p=>some (.pure p)|none=>none)
  | .iA cs=>if ag then (if size≤cs.length then some (cZ (cs.take size))else none)else cs[0]?
  |_=>none
 |_,_=>none
def oH (P:Program)(t:TypeId)(H:aj)(a v:GV):Option aj:=
 match bp P t with
 |some size=>
  match bC v with
  |none=>none
  |some cells=>
  if cells.length≠size then none else
  match a with
  | .ay nm off=>
   let (cs',H1):=da H nm.1 cells
   match H1.get nm with
   |some (.box cs)=>if off+size≤cs.length then some (H1.set nm (.box (aD cs off cs')))else none
   |_=>none
  | .eC nm es top i off=>
   let (ps,H1):=bO H cells
   match H1.get nm with
   |some (.arr es' elems _ ro)=>
    if es'=es∧ro=false∧top=elems.length∧i<top then
     (match elems[i]? with
     |some e=>if off+size≤e.length then some (H1.set nm (.arr es' (elems.set i (aD e off ps)) elems.length false))else none
     |none=>none)
    else none
   |_=>none
  | .je nm es i j off=>
   let (ps,H1):=bO H cells
   match H1.get nm with
   |some (.qY es' rows n)=>
    if es'=es then
     (match rows[i]? with
     |some r=>
      (match r[j]? with
      |some e=>if off+size≤e.length then some (H1.set nm (.qY es' (rows.set i (r.set j (aD e off ps))) n))else none
      |none=>none)
     |none=>none)
    else none
   |_=>none
  |_=>none
 |none=>none
def eH (place : Nat → Option (Nat × Nat)) (cells : List GV) : List (Nat × GV) → Option (List GV)
  | [] => some cells
  | (i, v) :: rest =>
    match place i with
    | none => none
    | some (off, size) =>
      match bC v with
      | none => none
      | some vs =>
      if vs.length ≠ size ∨ off + vs.length > cells.length then none else eH place (aD cells off vs) rest
def chunks {α:Type}(es:Nat):Nat→List α→List (List α)
 |0,_=> []
 |n+1,l=>l.take es::chunks es n (l.drop es)
def oK (op:BinOp)(k:IntKind)(a b:Int):Option PV:=
 match op with
 | .add=>some (.int k (k.wrap (a+b)))
 | .sub=>some (.int k (k.wrap (a-b)))
 | .mul=>some (.int k (k.wrap (a*b)))
 | .quo=>if b=0 then none else some (.int k (k.wrap (a.tdiv b)))
 | .rem=>if b=0 then none else some (.int k (a.tmod b))
 | .and=>some (.int k (k.wrap (BitVec.ofInt k.bits a &&& BitVec.ofInt k.bits b).toNat))
 | .or=>some (.int k (k.wrap (BitVec.ofInt k.bits a|||BitVec.ofInt k.bits b).toNat))
 | .xor=>some (.int k (k.wrap (BitVec.ofInt k.bits a^^^BitVec.ofInt k.bits b).toNat))
 | .andNot=>some (.int k (k.wrap (BitVec.ofInt k.bits a &&& ~~~(BitVec.ofInt k.bits b)).toNat))
 | .eql=>some (.bool (a==b))
 | .neq=>some (.bool (a !=b))
 | .lss=>some (.bool (a<b))
 | .leq=>some (.bool (a≤b))
 | .gtr=>some (.bool (a>b))
 | .geq=>some (.bool (a≥b))
 |_=>none
def zc (op:BinOp)(k:IntKind)(a b:Int):Option PV:=
 if b<0 then none else
 match op with
 | .shl=>some (.int k (k.wrap (a*2^(min b.toNat k.bits))))
 | .shr=>some (.int k (a.fdiv (2^(min b.toNat k.bits))))
 |_=>none
def ZJ (op:BinOp)(a b:List UInt8):Option PV:=
 match op with
 | .add=>if a.length+b.length≤4611686018427387904 then some (.str (a++b))else none
 | .eql=>some (.bool (a==b))
 | .neq=>some (.bool (!(a==b)))
 | .lss=>some (.bool (Op.bytesLess a b))
 | .leq=>some (.bool (Op.bytesLess a b||a==b))
 | .gtr=>some (.bool (!(Op.bytesLess a b||a==b)))
 | .geq=>some (.bool (!Op.bytesLess a b))
 |_=>none
inductive SK where
 |int (k:IntKind)
 |bool
 |str
def cg:List SK→List PV→List PV→Option Bool
 | [],[],[]=>some true
 | .int k::ks, .int k1 x::a, .int k2 y::b=>if k1=k∧k2=k then (match cg ks a b with|some q=>some (x==y && q)|none=>none)else none
 | .bool::ks, .bool x::a, .bool y::b=>(match cg ks a b with|some q=>some (x==y && q)|none=>none)
 | .str::ks, .str x::a, .str y::b=>(match cg ks a b with|some q=>some (x==y && q)|none=>none)
 |_,_,_=>none
section
inductive Up where
 |scopes (n:Nat)
 |box (t:Tmp)
structure Ctx where
 P:Program
 Hs:FuncId→Bool
 ig:FuncId→Nat→Option (List Nat×List Nat)
 up:FuncId→Nat→Up
 own:FuncId→Nat→Bool
 EP:FuncId→Bool
 Aa:FuncId→Bool
 ij:FuncId→Nat→Bool
 wT:FuncId→Bool
 lift:FuncId→Nat→Option Tmp
 row:FuncId→Nat→Option Nat
 eqs:TypeId→Option (List SK)
def uA (s:aZ)(x:Nat×Operand):Nat×GV:=(x.1,ev s x.2)
section
variable (K:Ctx)
def km (H:aj)(l key:Nat)(b:dH):Option (Nm×aj):=
 if H.length≤l then none else
 match H.get (l,key)with
 |some _=>none
 |none=>some ((l,key),H.set (l,key) b)
def iz (H:aj)(key:Nat)(b:dH):Option (Nm×aj):=km H (H.length-1) key b
def jT (H:aj)(s:aZ):Up→Option Nat
 | .scopes n=>if H.length≤n then none else some (H.length-1-n)
 | .box t=>match look s t with| .ay nm _=>some nm.1|_=>none
def pP (s:aZ):Up→Option Nm
 | .box t=>match look s t with| .ay nm _=>some nm|_=>none
 |_=>none
def CP (t:TypeId)(H:aj)(x:GV):Option Int:=
 match K.P.underlying t,x with
 |some (.array n _),_=>some n
 |some (.slice _), .a8 _ _ _ _ len=>some len
 |some (.slice _), .gR _ _ _ len=>some len
 |some (.slice _), .aV=>some 0
 |some (.slice _), .lits l=>some l.length
 |some (.slice _), .pure (.slice l)=>some l.length
 |some .string, .pure (.str l)=>some l.length
 |some (.map _ _), .pure .oM=>some 0
 |some (.map _ _), .map nm=>(match H.get nm with|some (.map es)=>some es.length|_=>none)
 |_,_=>none
def fu (op:BinOp)(t:TypeId)(x y:GV):Option PV:=
 match x,y with
 | .pure (.int k a), .pure (.int k' b)=>
  match op with
  | .shl| .shr=>zc op k a b
  |_=>if k=k' then oK op k a b else none
 | .pure (.str a), .pure (.str b)=>ZJ op a b
 | .pure (.bool a), .pure (.bool b)=>
  (match op,K.P.underlying t with
  | .eql,some .bool=>some (.bool (a==b))
  | .neq,some .bool=>some (.bool (!(a==b)))
  |_,_=>none)
 | .pure (.agg a), .pure (.agg b)=>
  match K.eqs t with
  |some ks=>
   (match op,cg ks a b with
   | .eql,some q=>some (.bool q)
   | .neq,some q=>some (.bool (!q))
   |_,_=>none)
  |none=>none
 |_,_=>none
def qA:Operand→Bool
 | .const (.slice none 0 0)=>true
 |_=>false
def vL:GV→Bool
 | .a8 .. =>true
 | .pure (.slice (_::_))=>true
 | .lits (_::_)=>true
 |_=>false
def iy (op:BinOp)(t:TypeId)(x:GV):Option PV:=
 match K.P.underlying t,op with
 |some (.slice _), .eql=>if vL x then some (.bool false)else none
 |some (.slice _), .neq=>if vL x then some (.bool true)else none
 |_,_=>none
def Eo (op:BinOp)(t:TypeId)(s:aZ)(x y:Operand):Option PV:=if qA y then iy K op t (ev s x)else fu K op t (ev s x) (ev s y)
def CH (x i:GV)(t:TypeId):Option GV:=
 match i with
 | .pure (.int _ i)=>
  if i<0 then none else
  match ur K.P t with
  |some (n,e)=>
   match eI K.P e,bp K.P e with
   |some ag,some size=>
    if (n:Int)≤i then none else
    (match x with
    | .agg cs=>if (i.toNat*size)+size≤cs.length then (if ag then some (cZ ((cs.drop (i.toNat*size)).take size))else cs[i.toNat*size]?)else none
    | .pure (.agg cs)=>if (i.toNat*size)+size≤cs.length then (if ag then some (.pure (.agg ((cs.drop (i.toNat*size)).take size)))else (match cs[i.toNat*size]? with|some p=>some (.pure p)|none=>none))else none
    |_=>none)
   |_,_=>none
  |none=>match x,K.P.underlying t with
   | .pure (.str l),some .string=>(match l[i.toNat]? with|some b=>some (.pure (.int .u8 b.toNat))|none=>none)
   |_,_=>none
 |_=>none
def gZ (q:Nat):GV→Option GV
 | .ay nm off=>some (.ay nm (off+q))
 | .eC nm es top j off=>some (.eC nm es top j (off+q))
 | .b7 cs=>if q≤cs.length then some (.b7 (cs.drop q))else none
 | .iA cs=>if q≤cs.length then some (.iA (cs.drop q))else none
 | .je nm es i j off=>some (.je nm es i j (off+q))
 |_=>none
def lu (t:TypeId)(x i:GV):Option GV:=
 match i with
 | .pure (.int _ i)=>
  if i<0 then none else
  match ur K.P t with
  |some (n,e)=>
   match bp K.P e with
   |some size=>
    if (n:Int)≤i then none else
    gZ (i.toNat*size) x
   |none=>none
  |none=>match dr K.P t with
   |some e=>match bp K.P e with
    |some size=>
     (match x with
     | .a8 nm es top lo len=>if es=size∧i<len then some (.eC nm es top (lo+i.toNat) 0)else none
     | .pure (.slice l)=>(match l[i.toNat]? with|some cs=>if cs.length=size then some (.b7 cs)else none|none=>none)
     | .lits l=>(match l[i.toNat]? with|some cs=>if cs.length=size then some (.iA cs)else none|none=>none)
     | .gR nm es q len=>if es=size∧i<len then some (.je nm es q i.toNat 0)else none
     |_=>none)
    |none=>none
   |none=>none
 |_=>none
def cQ (x:Option GV)(dflt:Nat):Option Nat:=
 match x with
 |none=>some dflt
 |some (.pure (.int _ i))=>if i<0 then none else some i.toNat
 |_=>none
def kn (t:TypeId)(x:GV)(lo hi mx:Option GV):Option GV:=
 if mx.isSome then
  (match cQ lo 0,hi,mx,dr K.P t with
  |some a,some (.pure (.int _ b)),some (.pure (.int _ m)),some e=>
   (match bp K.P e,x with
   |some _, .aV=>if a=0∧b=0∧m=0 then some .aV else none
   |some _, .pure (.slice _)=>if a=0∧b=0∧m=0 then some .aV else none
   |some es', .a8 nm es top l0 len=>
    if a=0∧b=0∧m=0 then some .aV
    else if (a:Int)<b∧b≤m∧m=len∧l0+len=top∧es'=es then some (.a8 nm es top (l0+a) (b.toNat-a))else none
   |_,_=>none)
  |_,_,_,_=>none)
 else
 match x with
 | .b7 cs=>
  (match lo,hi,ur K.P t with
  |none,none,some (n,e)=>
   (match bp K.P e with
   |some size=>if 0<size∧0<n∧n*size≤cs.length then some (.pure (.slice (chunks size n cs)))else none
   |none=>none)
  |_,_,_=>none)
 | .pure (.str l)=>
  (match cQ lo 0,cQ hi l.length,K.P.underlying t with
  |some a,some b,some .string=>if a≤b∧b≤l.length then some (.pure (.str ((l.take b).drop a)))else none
  |_,_,_=>none)
 | .a8 nm es top l0 len=>
  (match cQ lo 0,cQ hi len,dr K.P t with
  |some a,some b,some e=>if a≤b∧(b≤len∨l0+b≤top)∧bp K.P e=some es then (if a=b∧0<a then some (.pure (.slice []))else some (.a8 nm es top (l0+a) (b-a)))else none
  |_,_,_=>none)
 | .pure (.slice l)=>
  (match cQ lo 0,cQ hi l.length,dr K.P t with
  |some a,some b,some e=>
   if a≤b∧b≤l.length then
    (match bp K.P e with
    |some es=>if l.all (fun r=>r.length==es)then some (.pure (.slice ((l.take b).drop a)))else none
    |none=>none)
   else none
  |_,_,_=>none)
 | .aV=>(match cQ lo 0,cQ hi 0,dr K.P t with|some 0,some 0,some e=>if (bp K.P e).isSome then some (.pure (.slice []))else none|_,_,_=>none)
 |_=>none
def cT (H:aj):List (List GV)→List (List PV)×aj
 | []=>([],H)
 |g::r=>let (p,H1):=bO H g;let (ps,H2):=cT H1 r;(p::ps,H2)
def gU (H:aj):GV→Option (List (List PV)×aj)
 | .aV=>some ([],H)
 | .pure (.slice l)=>some (l,H)
 | .pure (.str l)=>some (l.map fun b=> [.int .u8 b.toNat],H)
 | .lits l=>some (cT H l)
 | .a8 nm es top lo len=>match jU H nm es top lo len with| .slice l=>some (l,H)|_=>none
 |_=>none
def tz (P:Program)(t:TypeId):Option Nat:=match cw P t with|some z=>(match bC z with|some zs=>some zs.length|none=>none)|none=>none
def dS (P:Program)(t:Option TypeId):Bool:=
 match t with
 |some t=>(match P.underlying t with|some (.slice _)|some .string=>true|_=>false)
 |none=>false
def pA (H:aj)(l key:Nat)(t:TypeId)(s x:GV):Option (GV×aj):=
  match dr K.P t with
  |some e=>
    match bp K.P e,jH K.P e,gU H x with
    |some size,some bytes,some (xs,H)=>
      if decide (tz K.P e=some size) && xs.all (fun r=>r.length==size) && decide (0<size) && decide (0<bytes) && decide (bytes≤1048576)then
        match s with
        | .aV=>
          if xs.length*bytes≤1099511627776 then
            (if xs.isEmpty then some (.aV,H)else
            match km H l key (.arr size xs 0 false)with
            |some (nm,H)=>some (.a8 nm size xs.length 0 xs.length,H)
            |none=>none)
          else none
        | .a8 nm es top lo len=>
          (match H.get nm with
          |some (.arr es' elems vf ro)=>
            if es'=size∧es=size∧top=elems.length∧lo=0∧len=top∧vf≤top∧ro=false∧(len+xs.length)*bytes≤1099511627776 then
              (if xs.isEmpty then some (.a8 nm es top lo len,H)
               else some (.a8 nm es (top+xs.length) 0 (top+xs.length),H.set nm (.arr es' (elems++xs) vf false)))
            else if es'=size∧es=size∧top=elems.length∧vf≤top∧ro=false∧lo+len+xs.length≤top then
              (if xs.isEmpty then some (.a8 nm es top lo len,H)else some (.a8 nm es top lo (len+xs.length),H.set nm (.arr es' (aD elems (lo+len) xs) top false)))
            else none
          |_=>none)
        |_=>none
      else none
    |_,_,_=>none
  |none=>none
def leads (nm:Nm):List GV→Bool
 | []=>false
 | .a8 m _ _ _ _::r=>decide (m=nm)||leads nm r
 |_::r=>leads nm r
def zf (H:aj)(bn:Nm)(key es:Nat)(r:List (List PV)):Option (Nat×aj):=
 if H.length≤bn.1 then none else
 match H.get (bn.1,key)with
 |none=>some (0,H.set (bn.1,key) (.qY es [r] 0))
 |some (.qY es' rows n)=>
  (match H.get bn with
  |some (.box cs)=>if es'=es∧leads (bn.1,key) cs=true then some (rows.length,H.set (bn.1,key) (.qY es (rows++[r]) n))else none
  |_=>none)
 |_=>none
def zg (H:aj)(bytes:Nat)(s:GV)(nm:Nm)(es i len:Nat):Option (GV×aj):=
 match H.get nm with
 |some (.qY es' rows n)=>
  if es'=es∧i=n∧n<rows.length∧(rows.getD n []).length=len∧(n+1)*bytes≤1099511627776 then
   match s with
   | .aV=>if n=0 then some (.a8 nm 1 1 0 1,H.set nm (.qY es rows 1))else none
   | .a8 nm' es1 top lo ln=>if nm'=nm∧es1=1∧top=n∧lo=0∧ln=n then some (.a8 nm 1 (n+1) 0 (n+1),H.set nm (.qY es rows (n+1)))else none
   |_=>none
  else none
 |_=>none
def CQ (H:aj)(bn:Nm)(key size bytes:Nat)(s x:GV):Option (GV×aj):=
 match s,gU H x with
 | .aV,some (xs,H)=>
  if xs.all (fun r=>r.length==size) && !xs.isEmpty && decide (xs.length*bytes≤1099511627776)then
   (match zf H bn key size xs with|some (i,H)=>some (.gR (bn.1,key) size i xs.length,H)|none=>none)
  else none
 |_,_=>none
def CR:GV→Option (Nm×Nat×Nat×Nat)
 | .lits [[.gR nm es i len]]=>some (nm,es,i,len)
 |_=>none
def oo (H:aj)(bn:Nm)(key:Nat)(t:TypeId)(s x:GV):Option (GV×aj):=
 match dr K.P t with
 |some e=>
  match bp K.P e,jH K.P e with
  |some size,some bytes=>
   if decide (tz K.P e=some size) && decide (0<size) && decide (0<bytes) && decide (bytes≤1048576)then
    match CR x with
    |some (nm,es,i,len)=>if size=1 then zg H bytes s nm es i len else none
    |none=>CQ H bn key size bytes s x
   else none
  |_,_=>none
 |none=>none
def kV (H:aj)(l0:Nat):GV→Option (GV×aj)
 | .agg l=>let (l',H1):=da H l0 l;some (cZ l',H1)
 | .tuple _| .lits _=>none
 |g=>let (g',H1):=eZ H l0 g;some (g',H1)
def jm:List PV→List PV→Option Bool
 | [],[]=>some true
 | .int k x::a, .int k' y::b=>if k=k' then (match jm a b with|some q=>some (x==y && q)|none=>none)else none
 | .bool x::a, .bool y::b=>(match jm a b with|some q=>some (x==y && q)|none=>none)
 | .str x::a, .str y::b=>(match jm a b with|some q=>some (x==y && q)|none=>none)
 |_,_=>none
def nM:PV→PV→Option Bool
 | .int k a, .int k' b=>if k=k' then some (a==b)else none
 | .str a, .str b=>some (a==b)
 | .bool a, .bool b=>some (a==b)
 | .agg a, .agg b=>jm a b
 |_,_=>none
def cH (k:PV):List (PV×GV)→Nat→Option (Option (Nat×GV))
 | [],_=>some none
 |(k',v)::r,i=>match nM k k' with|some true=>some (some (i,v))|some false=>cH k r (i+1)|none=>none
def wZ (P:Program)(t:TypeId):Option (TypeId×TypeId):=match P.underlying t with|some (.map k e)=>some (k,e)|_=>none
def zh (P:Program)(t:TypeId)(k:PV):Bool:=
 match P.underlying t,k with
 |some (.int k), .int k' _=>decide (k'=k)
 |some .string, .str _=>true
 |some .bool, .bool _=>true
 |_,_=>false
def iO:List SK→List PV→Bool
 | [],[]=>true
 | .int k::ks, .int k' _::a=>decide (k'=k) && iO ks a
 | .bool::ks, .bool _::a=>iO ks a
 | .str::ks, .str _::a=>iO ks a
 |_,_=>false
def jn (t:TypeId)(k:PV):Bool:=
 zh K.P t k||(match K.eqs t,k,K.P.underlying t with|some ks, .agg l,some _=>iO ks l|_,_,_=>false)
def mapOf (H:aj):GV→Option (List (PV×GV))
 | .pure .oM=>some []
 | .map nm=>(match H.get nm with|some (.map es)=>some es|_=>none)
 |_=>none
def rF (t:TypeId)(H:aj)(x k:GV)(ok:Bool):Option GV:=
 match wZ K.P t,k,mapOf H x with
 |some (kt,e), .pure k,some es=>
  if jn K kt k=false then none else
  match cH k es 0 with
  |some (some (_,v))=>some (if ok then mkTuple [v, .pure (.bool true)]else v)
  |some none=>(match cw K.P e with|some z=>some (if ok then mkTuple [z, .pure (.bool false)]else z)|none=>none)
  |none=>none
 |_,_,_=>none
def jI (t:TypeId)(H:aj)(m k v:GV):Option aj:=
 match wZ K.P t,m,k with
 |some (kt,_), .map nm, .pure k=>
  match kV H nm.1 v with
  |some (v',H1)=>
   match H1.get nm with
   |some (.map es)=>
    if jn K kt k=false then none else
    match cH k es 0 with
    |some (some (i,_))=>some (H1.set nm (.map (es.set i (k,v'))))
    |some none=>some (H1.set nm (.map (es++[(k,v')])))
    |none=>none
   |_=>none
  |none=>none
 |_,_,_=>none
def sF (t:TypeId)(H:aj)(x:GV):Option aj:=
 match dr K.P t with
 |some e=>
  match bp K.P e,cw K.P e,x with
  |some size,some z, .a8 nm es top lo len=>
   (match bC z,H.get nm with
   |some zs,some (.arr es' elems vf ro)=>
    (match bm (zs.map cj)with
    |some ps=>if es'=size∧es=size∧ps.length=size∧top=elems.length∧vf≤top∧ro=false∧lo+len≤top∧0<len then some (H.set nm (.arr es' (aD elems lo (List.replicate len ps)) top false))else none
    |none=>none)
   |_,_=>none)
  |_,_,_=>none
 |none=>none
def ik (mx:Bool):List GV→Option GV
 | []=>none
 | [.pure (.int k a)]=>some (.pure (.int k a))
 | .pure (.int k a):: .pure (.int k' b)::r=>if k=k' then ik mx (.pure (.int k (if mx then (if a<b then b else a)else (if b<a then b else a)))::r)else none
 |_=>none
termination_by l=>l.length
def sG (f:FuncId)(first cap:List GV):GV:=if first.isEmpty && cap.isEmpty then .pure (.fn f)else .func f first cap
def dZ (fn:FuncId)(o:Oper)(s:aZ)(H:aj):Option (GV×aj):=
 match o.op with
 | .move x| .assign x=>some (ev s x,H)
 | .pick c a b=>match ev s c with| .pure (.bool t)=>some (if t then ev s a else ev s b,H)|_=>none
 | .alloc t=>
  match o.dst,cw K.P t with
  |some d,some z=>(match bC z with|some cs=>(match iz H d (.box cs)with|some (nm,H)=>some (.ay nm 0,H)|none=>none)|none=>none)
  |_,_=>none
 | .box _ x=>
  match o.dst,bC (ev s x)with
  |some d,some cs=>(match iz H d (.box cs)with|some (nm,H)=>some (.ay nm 0,H)|none=>none)
  |_,_=>none
 | .build t parts=>
  match cw K.P t with
  |some z=>
   match bC z with
   |some zs=>
    let ps:=parts.toList.map (uA s)
    let r:=match ur K.P t with
     |some (_,e)=>(match bp K.P e with|some size=>eH (fun i=>some (i*size,size)) zs ps|none=>none)
     |none=>(match fG K.P t with|some l=>eH (fun i=>l[i]?) zs ps|none=>none)
    (match r with|some cs=>some (cZ cs,H)|none=>none)
   |none=>none
  |none=>none
 | .buildSlice t len parts=>
  match dr K.P t with
  |some e=>
   match bp K.P e,cw K.P e with
   |some size,some z=>
    match bC z with
    |some zs=>
     if zs.length=size∧0<size∧len*size≤16777216 then
      match eH (fun i=>some (i*size,size)) (List.replicate len zs).flatten (parts.toList.map (uA s))with
      |some cs=>
       if len=0 then some (.aV,H)else
       let rows:=chunks size len cs
       (match bm (cs.map cj)with
       |some ps=>
        (match o.dst with
        |some d=>if K.own fn d then (match iz H d (.arr size (chunks size len ps) 0 false)with|some (nm,H)=>some (.a8 nm size len 0 len,H)|none=>none)else some (.pure (.slice (chunks size len ps)),H)
        |none=>none)
       |none=>
        (match o.dst with
        |some d=>if K.own fn d then (match iz (bO H cs).2 d (.arr size (chunks size len (bO H cs).1) 0 false)with|some (nm,H)=>some (.a8 nm size len 0 len,H)|none=>none)else some (.lits rows,H)
        |none=>some (.lits rows,H)))
      |none=>none
     else none
    |none=>none
   |_,_=>none
  |none=>none
 | .load t a=>match kx K.P t H (ev s a)with|some v=>some (v,H)|none=>none
 | .store t a x=>match oH K.P t H (ev s a) (ev s x)with|some H=>some (aP,H)|none=>none
 | .nilCheck x=>
  match ev s x with
  | .ay nm off=>some (.ay nm off,H)
  | .eC nm es top i off=>some (.eC nm es top i off,H)
  | .b7 cs=>some (.b7 cs,H)
  | .iA cs=>some (.iA cs,H)
  | .func f first cap=>some (.func f first cap,H)
  | .pure (.fn f)=>some (.pure (.fn f),H)
  | .yield nm=>some (.yield nm,H)
  |_=>none
 | .binOp op t x y _=>match Eo K op t s x y with|some p=>some (.pure p,H)|none=>none
 | .unOp op _ x=>
  match op,ev s x with
  | .not, .pure (.bool b)=>some (.pure (.bool (!b)),H)
  | .neg, .pure (.int k n)=>some (.pure (.int k (k.wrap (-n))),H)
  |_,_=>none
 | .convert src dst x=>
  match K.P.underlying src,K.P.underlying dst,ev s x with
  |some _,some (.int k), .pure (.int _ n)=>some (.pure (.int k (k.wrap n)),H)
  |some _,some .string, .pure (.str l)=>some (.pure (.str l),H)
  |_,_,_=>none
 | .makeFunc (.func f) first cap=>some (sG f (first.toList.map (ev s)) (cap.toList.map (ev s)),H)
 | .makeMap _ none=>match o.dst with|some d=>(match iz H d (.map [])with|some (nm,H)=>some (.map nm,H)|none=>none)|none=>none
 | .makeSlice t l c=>
  match dr K.P t with
  |some e=>
   match bp K.P e,jH K.P e,cw K.P e,ev s l,ev s c,o.dst with
   |some size,some bytes,some z, .pure (.int _ l), .pure (.int _ c),some d=>
    match bC z with
    |some zs=>
     (match bm (zs.map cj)with
     |some ps=>
      if ps.length=size∧0<size∧0<bytes∧0≤l∧l≤c∧c*bytes≤1099511627776 then
       (match iz H d (.arr size (List.replicate l.toNat ps) 0 false)with|some (nm,H)=>some (.a8 nm size l.toNat 0 l.toNat,H)|none=>none)
      else none
     |none=>none)
    |none=>none
   |_,_,_,_,_,_=>none
  |none=>none
 | .slice t x lo hi mx=>match kn K t (ev s x) (lo.map (ev s)) (hi.map (ev s)) (mx.map (ev s))with|some v=>some (v,H)|none=>none
 | .fieldAddr st x f=>
  match ma K.P st f with
  |some (off,ft)=>
   match bp K.P ft with
   |some size=>
    if size=0 then none else
    (match gZ off (ev s x)with|some v=>some (v,H)|none=>none)
   |none=>none
  |none=>none
 | .field t x f=>
  match ma K.P t f with
  |some (off,ft)=>
   match eI K.P ft,bp K.P ft,ev s x with
   |some ag,some size, .agg cs=>if off+size≤cs.length then (if ag then some (cZ ((cs.drop off).take size),H)else (match cs[off]? with|some v=>some (v,H)|none=>none))else none
   |some ag,some size, .pure (.agg cs)=>if off+size≤cs.length then (if ag then some (.pure (.agg ((cs.drop off).take size)),H)else (match cs[off]? with|some v=>some (.pure v,H)|none=>none))else none
   |_,_,_=>none
  |none=>none
 | .indexAddr t x i=>match lu K t (ev s x) (ev s i)with|some v=>some (v,H)|none=>none
 | .index t x i=>match CH K (ev s x) (ev s i) t with|some v=>some (v,H)|none=>none
 | .lookup t x k ok=>match rF K t H (ev s x) (ev s k) ok with|some v=>some (v,H)|none=>none
 | .mapUpdate t m k v=>match jI K t H (ev s m) (ev s k) (ev s v)with|some H=>some (aP,H)|none=>none
 | .insert t m k v=>match jI K t H (ev s m) (ev s k) (ev s v)with|some H=>some (aP,H)|none=>none
 | .extract t ix=>
  match ev s t with
  | .tuple l=>(match l[ix]? with|some v=>some (v,H)|none=>none)
  | .pure (.tuple l)=>(match l[ix]? with|some v=>some (.pure v,H)|none=>none)
  |_=>none
 | .call c=>
  match c.callee with
  | .builtin .len=>(match c.argTypes[0]?,c.args[0]? with|some t,some x=>(match CP K t H (ev s x)with|some n=>some (.pure (.int .i64 n),H)|none=>none)|_,_=>none)
  | .builtin .append=>(match c.argTypes[0]?,c.args[0]?,c.args[1]?,o.dst with|some t,some x,some y,some d=>if dS K.P c.argTypes[1]? then (match K.row fn d with|none=>(match jT H s (K.up fn d)with|some l=>pA K H l d t (ev s x) (ev s y)|none=>none)|some key=>(match pP s (K.up fn d)with|some bn=>oo K H bn key t (ev s x) (ev s y)|none=>none))else none|_,_,_,_=>none)
  | .builtin .clear=>(match c.argTypes[0]?,c.args[0]? with|some t,some x=>(match sF K t H (ev s x)with|some H=>some (.pure (.tuple []),H)|none=>none)|_,_=>none)
  | .builtin .min=>(match ik false (c.args.toList.map (ev s))with|some v=>some (v,H)|none=>none)
  | .builtin .max=>(match ik true (c.args.toList.map (ev s))with|some v=>some (v,H)|none=>none)
  |_=>none
 |_=>none
def gP (o:Oper):Option (Operand×List Operand):=
 match o.op with
 | .call {callee:= .value f,args, ..}=>some (f,args.toList)
 |_=>none
abbrev Rec:=FuncId→Code→bN→Option (GX×bN)
def slotsOf:Nat→List GV→aZ
 |_,[]=> []
 |i,v::r=>(i,v)::slotsOf (i+1) r
def fh (fn:Func)(st:bN):Option (List GV):=
 fn.results.toList.mapM fun
  | .tmp t=>some (look st.s t)
  | .cell a t=>kx K.P t st.h (look st.s a)
def dX (L:Nat):GV→List Nat
 | .ay nm _| .a8 nm _ _ _ _| .eC nm _ _ _ _| .map nm=>if nm.1=L then [nm.2]else []
 |_=> []
def fT (L:Nat):GV→List Nat
 | .agg l=>l.flatMap (dX L)
 | .func _ first cap=>first.flatMap (dX L)++cap.flatMap (dX L)
 |g=>dX L g
def refs (L:Nat):GV→List Nat
 | .tuple l=>l.flatMap (fT L)
 |g=>fT L g
def gL (fr:Fr)(L:Nat):GV→List Nat
 | .a8 nm _ _ _ _=>if nm.1=L then (match fr.get nm.2 with|some (.qY ..)=> [nm.2]|_=> [])else []
 |_=> []
def gK (fr:Fr)(L k:Nat):List Nat:=match fr.get k with|some (.box cs)=>cs.flatMap (gL fr L)|_=> []
def di (fr:Fr)(L:Nat)(ks:List Nat):List Nat:=ks++ks.flatMap (gK fr L)
def aq (c k:Nat):Nat:=k*4096+(c+1)
def jF (L c:Nat):GV→GV
 | .ay nm off=>if nm.1=L then .ay (L-1,aq c nm.2) off else .ay nm off
 | .a8 nm es top lo len=>if nm.1=L then .a8 (L-1,aq c nm.2) es top lo len else .a8 nm es top lo len
 | .eC nm es top i off=>if nm.1=L then .eC (L-1,aq c nm.2) es top i off else .eC nm es top i off
 | .map nm=>if nm.1=L then .map (L-1,aq c nm.2)else .map nm
 | .yield nm=>if nm.1=L then aP else .yield nm
 | .pure p=> .pure p
 | .b7 cs=> .b7 cs
 | .aV=> .aV
 |_=>aP
def nY (L c:Nat):GV→GV
 | .agg l=>cZ (l.map (jF L c))
 | .func f first cap=> .func f (first.map (jF L c)) (cap.map (jF L c))
 |g=>jF L c g
def B6 (L c:Nat):GV→GV
 | .tuple l=>mkTuple (l.map (nY L c))
 |g=>nY L c g
def ZM (fr:Fr)(k:Nat):Bool:=match fr.get k with|some (.qY ..)=>true|_=>false
def zX (c:Nat)(fr:Fr)(H:aj)(ks:List Nat)(l0:Nat):GV→GV
 | .a8 nm es top lo len=>
  if nm.1=H.length∧nm.2∉ks then .pure (hJ (fr::H) nm es top lo len)
  else if nm.1=H.length∧ZM fr nm.2=true then .a8 (H.length-1,aq c nm.2) es top lo len
  else cI [] l0 (.a8 nm es top lo len)
 |g=>cI [] l0 g
def cP (cl:GV→GV)(H:aj)(l0:Nat):dH→Option dH
 | .box cs=>some (.box (cs.map cl))
 | .arr es elems vf ro=>some (.arr es elems vf ro)
 | .map es=>some (.map (es.map fun e=>(e.1,iB H l0 e.2)))
 | .qY es rows n=>some (.qY es rows n)
 |_=>none
def dI (cl:GV→GV)(f:Fr)(H:aj)(c:Nat):List Nat→aj→Option aj
 | [],H'=>some H'
 |k::r,H'=>
  match f.get k with
  |some b=>
   match cP cl [] (H.length-1) b,aj.get H' (H.length-1,aq c k)with
   |some b',none=>dI cl f H c r (aj.set H' (H.length-1,aq c k) b')
   |_,_=>none
  |none=>none
def dedup:List Nat→List Nat
 | []=> []
 |k::r=>if r.contains k then dedup r else k::dedup r
def gG (f:FuncId)(c:Nat)(r:GV):aj→Option (GV×aj)
 | []=>none
 |fr::H=>
  if K.Hs f then
   match dI (zX c fr H (dedup (di fr H.length (refs H.length r))) (H.length-1)) fr H c (dedup (di fr H.length (refs H.length r))) H with
   |some H'=>some (B6 H.length c r,H')
   |none=>none
  else some (canon (clean (fr::H) (H.length-1) r),H)
def bK (rec:Rec)(f:FuncId)(args:List GV)(c:Nat)(H:aj):Option (GV×aj):=
 match K.P.funcs[f]? with
 |none=>none
 |some fn=>
  match fn.body with
  |none=>none
  |some code=>
   if fn.name== "runtime.NumGoroutine" ||decide (fn.ntmps<args.length)||decide (H.length=0)then none else
   match rec f code ⟨slotsOf 0 (args.map canon),[]::H,fn.ntmps⟩with
   |some (.exit _,_)=>none
   |some (_,st)=>
    (match fh K fn st with
    |some rs=>(match rs with
     | [r]=>gG K f c r st.h
     |rs=>gG K f c (mkTuple rs) st.h)
    |none=>none)
   |none=>none
def dW (H:aj):GV→GV×aj
 | .a8 nm es top lo len=>let (p,H1):=dC H (.a8 nm es top lo len);(.pure p,H1)
 |g=>(g,H)
def gB (H:aj):List GV→List GV×aj
 | []=>([],H)
 |g::r=>let (p,H1):=dW H g;let (ps,H2):=gB H1 r;(p::ps,H2)
def dn (H:aj):GV→GV×aj
 | .agg l=>let (l',H1):=gB H l;(cZ l',H1)
 |g=>dW H g
def bs (H:aj):List GV→List GV×aj
 | []=>([],H)
 |g::r=>let (p,H1):=dn H g;let (ps,H2):=bs H1 r;(p::ps,H2)
mutual
def jo:PV→Bool
 | .slice l=>l.isEmpty
 | .agg l=>mb l
 | .tuple l=>mb l
 | .iface _ v=>jo v
 |_=>true
def mb:List PV→Bool
 | []=>true
 |p::r=>jo p && mb r
end
def A0:GV→Bool
 | .pure p=>jo p
 | .aV=>true
 |_=>false
def oO:List GV→Bool
 | []=>true
 |g::r=>A0 g && oO r
def mW:List GV→Option (Option Nm)
 | []=>some none
 |g::r=>
  match mW r with
  |none=>none
  |some q=>
   match g with
   | .pure _| .aV=>some q
   | .func _ a c=>if (bm a).isSome && (bm c).isSome then some q else none
   | .ay nm _=>(match q with|none=>some (some nm)|some nm'=>if nm=nm' then some q else none)
   |_=>none
def hY (H:aj):aj:=H.map fun _=> []
def hZ:List (List PV)→Bool
 | []=>true
 |r::l=>mb r && hZ l
def oP (L:Nat):GV→Bool
 | .pure p=>jo p
 | .aV=>true
 | .a8 nm _ _ _ _=>decide (nm.1=L)
 |_=>false
def A4 (L:Nat):List GV→Bool
 | []=>true
 |g::r=>oP L g && A4 L r
def pW (L:Nat):GV→Bool
 | .agg l=>A4 L l
 |g=>oP L g
def sS (L:Nat):List GV→Bool
 | []=>true
 |g::r=>pW L g && sS L r
def vR (L:Nat):GV→Bool
 | .tuple l=>sS L l
 |g=>pW L g
def lN (H0:aj)(L:Nat):List Nat→aj→Option aj
 | [],H=>some H
 |k::r,H=>
  match H0.get (L,k),H.get (L,k)with
  |some (.arr es rows vf false),none=>if hZ rows then lN H0 L r (H.set (L,k) (.arr es rows vf false))else none
  |_,_=>none
def lO (H0:aj)(v:GV)(H:aj):Option (GV×aj):=
 if vR (H.length-1) v then
  match lN H0 (H.length-1) (dedup (refs (H.length-1) v)) H with
  |some H'=>some (v,H')
  |none=>none
 else none
def iP (rec:Rec)(f:FuncId)(args:List GV)(c:Nat)(H:aj):Option (GV×aj):=
 match mW args with
 |none=>none
 |some none=>
  (match bK K rec f args c (hY H)with
  |some (v,H0)=>lO H0 v H
  |none=>none)
 |some (some nm)=>
  match H.get nm with
  |some (.box cs)=>
   if oO cs=false then none else
   (match bK K rec f args c ((hY H).set nm (.box cs))with
   |some (v,H0)=>
    (match H0.get nm with
    |some (.box cs')=>if oO cs' then lO H0 v (H.set nm (.box cs'))else none
    |_=>none)
   |none=>none)
  |_=>none
def jk:List GV→Bool
 | [.aV]=>true
 | [.pure (.slice [])]=>true
 |_=>false
def aL (rec:Rec)(f:FuncId)(args:List GV)(c:Nat)(H:aj):Option (GV×aj):=
 if K.wT f && jk args then some (.aV,H)
 else if K.Aa f then iP K rec f ((bs H args).1.map canon) c H
 else if K.EP f then bK K rec f (bs H args).1 c (bs H args).2 else bK K rec f args c H
def il:aZ→Nat→List Tmp→List GV→Option aZ
 |s,_,[],[]=>some s
 |s,nt,t::ts,v::vs=>if t<nt then il ((t,v)::s) nt ts vs else none
 |_,_,_,_=>none
def ground (rec:Rec)(nm:Nm)(args:List GV)(H:aj):Option (GV×aj):=
 match H.get nm with
 |some (.loop l)=>
  if l.state= .ready then
   match il l.ez l.nt l.params (args.map canon)with
   |some s=>
    match rec l.fn l.assign ⟨s,[]::H,l.nt⟩with
    |some (.normal,st)=>
     match st.h with
     |fr::H1=>
      (match aj.get H1 nm with
      |some (.loop l1)=>
       if l1.state≠ .ready then none else
       match rec l.fn l.body ⟨st.s,fr::aj.set H1 nm (.loop {l1 with state:= .busy}),l.nt⟩with
       |some (e,st')=>
        (match st'.h with
        |_::H2=>
         (match aj.get H2 nm with
         |some (.loop l2)=>
          (match e with
          | .normal=>some (.pure (.bool true),aj.set H2 nm (.loop {l2 with state:= .ready,pending:=none}))
          |e=>some (.pure (.bool false),aj.set H2 nm (.loop {l2 with state:= .done,pending:=some e})))
         |_=>none)
        | []=>none)
       |none=>none
      |_=>none)
     | []=>none
    |_=>none
   |none=>none
  else none
 |_=>none
def mV (rec:Rec)(f:GV)(args:List GV)(c:Nat)(H:aj):Option (GV×aj):=
 match f with
 | .pure (.fn f)=>aL K rec f args c H
 | .func f first cap=>aL K rec f (first++args++cap) c H
 |_=>none
def dJ (rec:Rec)(f:GV)(args:List GV)(c:Nat)(H:aj):Option (GV×aj):=
 match f with
 | .yield nm=>ground rec nm args H
 |f=>mV K rec f args c H
def dy (ops:List Oper)(s:aZ)(o:Oper):Option Bool:=
 match o.guard with
 |none=>some true
 |some (j,want)=>
  match ops[j]? with
  |some oj=>(match oj.dst with
   |some d=>(match look s d with| .pure (.bool b)=>some (b==want)| .pure (.tuple [])=>some false|_=>none)
   |none=>none)
  |none=>none
def Fr.del (q:Nat):Fr→Fr
 | []=> []
 |(k,b)::r=>if q=k then Fr.del q r else (k,b)::Fr.del q r
def fP:List Nat→Fr→Fr
 | [],f=>f
 |q::r,f=>fP r (f.del q)
mutual
def eO (nm:Nm):GV→Bool
 | .ay n _| .eC n _ _ _ _| .a8 n _ _ _ _| .yield n| .map n| .gR n _ _ _| .je n _ _ _ _=>decide (n≠nm)
 | .lits l=>uK nm l
 | .iA l=>gn nm l
 | .agg l=>gn nm l
 | .tuple l=>gn nm l
 | .func _ a c=>gn nm a && gn nm c
 | .pure _| .b7 _| .aV=>true
def gn (nm:Nm):List GV→Bool
 | []=>true
 |g::r=>eO nm g && gn nm r
def uK (nm:Nm):List (List GV)→Bool
 | []=>true
 |g::r=>gn nm g && uK nm r
end
def zi (nm:Nm):List (PV×GV)→Bool
 | []=>true
 |e::r=>eO nm e.2 && zi nm r
def gq (nm:Nm):dH→Bool
 | .box cs=>gn nm cs
 | .arr .. =>true
 | .qY .. =>true
 | .map es=>zi nm es
 | .loop _=>false
def iC (nm:Nm):Fr→Bool
 | []=>true
 |x::r=>gq nm x.2 && iC nm r
def ju (nm:Nm):aZ→Bool
 | []=>true
 |x::r=>eO nm x.2 && ju nm r
def cK (j k:Nat):Nat:=(j+1)*1000000000000+k
def nQ (L l j:Nat):GV→Option GV
 | .a8 nm es top lo len=>if nm.1=L then some (.a8 (l,cK j nm.2) es top lo len)else some (.a8 nm es top lo len)
 | .pure p=>some (.pure p)
 | .aV=>some .aV
 |_=>none
def vS (L l j:Nat):List GV→Option (List GV)
 | []=>some []
 |g::r=>match nQ L l j g,vS L l j r with|some g,some r=>some (g::r)|_,_=>none
def vT (L l j:Nat):GV→Option GV
 | .agg cs=>(match vS L l j cs with|some cs=>some (.agg cs)|none=>none)
 |g=>nQ L l j g
def lQ (H:aj)(l j:Nat):List Nat→Bool
 | []=>true
 |k::r=>(H.get (l,cK j k)).isNone && lQ H l j r
def qG (H:aj)(L:Nat)(f0:Fr):List Nat→Bool
 | []=>true
 |k::r=>(H.get (L,k)).isNone && iC (L,k) f0 && qG H L f0 r
def qH (f0:Fr)(l j:Nat):List Nat→aj→Option aj
 | [],H=>some H
 |k::r,H=>match f0.get k with|some (.arr es elems vf ro)=>qH f0 l j r (H.set (l,cK j k) (.arr es elems vf ro))|_=>none
def rV (H0:aj)(b:GV)(x:GV×aj):Option (GV×aj):=
 match b,x.2 with
 | .ay nm _,f0::Hr=>
  let names:=dedup (refs Hr.length x.1)
  let j:=if lQ x.2 nm.1 0 names then 0 else 1
  if decide (nm.1<Hr.length) && decide (H0.length=Hr.length+1) && qG H0 Hr.length f0 names && lQ x.2 nm.1 j names then
   (match vT Hr.length nm.1 j x.1,qH f0 nm.1 j names (fP names f0::Hr)with
   |some v,some H=>some (v,H)
   |_,_=>none)
  else none
 |_,_=>none
def rY (H0:aj)(b:GV)(key:Nat)(x:GV×aj):Option (GV×aj):=
 match b,x.1,x.2 with
 | .ay nm _, .a8 nm2 es top lo len,f0::Hr=>
  if decide (nm2.1=Hr.length) && decide (nm.1<Hr.length) && decide (H0.length=Hr.length+1) && qG H0 Hr.length f0 [nm2.2]then
   match f0.get nm2.2 with
   |some (.arr es' elems vf false)=>
    if es'=es∧vf≤top∧top=elems.length∧lo=0∧len=top∧0<top then
     (match zf (fP [nm2.2] f0::Hr) nm key es elems with|some (i,H)=>some (.gR (nm.1,key) es i top,H)|none=>none)
    else none
   |_=>none
  else none
 |_,_,_=>none
def cE (rec:Rec)(fn:FuncId)(o:Oper)(s:aZ)(H:aj):Option (GV×aj):=
 match gP o with
 |some (f,args)=>
  (match K.lift fn (o.dst.getD 0)with
  |none=>dJ K rec (ev s f) (args.map (ev s)) (o.dst.getD 0) H
  |some t=>(match dJ K rec (ev s f) (args.map (ev s)) (o.dst.getD 0) H with|some x=>(match K.row fn (o.dst.getD 0)with|none=>rV H (look s t) x|some key=>rY H (look s t) key x)|none=>none))
 |none=>dZ K fn o s H
def qI (rec:Rec)(fn:FuncId)(all:List Oper):List Oper→bN→Option bN
 | [],st=>some st
 |o::r,st=>
  match dy all st.s o with
  |some false=>(match st.put o.dst ly with|some st=>qI rec fn all r st|none=>none)
  |some true=>
   (match cE K rec fn o st.s st.h with
   |some (v,H)=>(match bN.put {st with h:=H} o.dst v with|some st=>qI rec fn all r st|none=>none)
   |none=>none)
  |none=>none
def aX:Code→Nat
 | .region id _ _=>id+1
 | .seq a b=>if aX a=0 then aX b else aX a
 | .cond _ a b=>if aX a=0 then aX b else aX a
 | .block _ a=>aX a
 | .loop a=>aX a+100000
 | .scope a=>aX a
 | .rangeFunc _ _ a b=>if aX a=0 then aX b else aX a
 |_=>0
def bh (s:aZ):List Nat→aZ
 | []=> []
 |t::r=>(t,look s t)::bh s r
def cb (H:aj)(l0:Nat):aZ→aZ
 | []=> []
 |(t,v)::r=>(t,clean H l0 v)::cb H l0 r
def kf (ks:Option (List Nat))(s:aZ):aZ:=match ks with|some l=>bh s l|none=>s
def ku (ks:Option (List Nat))(st:bN):Option bN:=
 match st.h with
 |fr::H=>
  if H.length=0 then none else
  some {s:=cb (fr::H) (H.length-1) (kf ks st.s),h:=H,nt:=st.nt}
 | []=>none
def fY (k:Nat):Bool:=decide (1000000000000≤k)
def gD (L:Nat)(s:aZ)(fr:Fr):Fr→List Nat
 | []=> []
 |x::r=>if fY x.1 && ju (L,x.1) s && iC (L,x.1) fr then x.1::gD L s fr r else gD L s fr r
def qc (st:bN):Option bN:=
 match st.h with
 |fr::H=>if H.length=0 then none else some {st with h:=fP (gD H.length st.s fr fr) fr::H}
 | []=>none
def vU (fn:FuncId)(c:Code)(st:bN):Option bN:=
 if K.ij fn (aX c)then
  match ku ((K.ig fn (aX c)).map (·.1)) st with
  |some st=>qc st
  |none=>none
 else ku none st
def cF (o:Oper):Bool:=
 match o.op,o.dst,o.guard with
 | .alloc _,some _,none=>true
 |_,_,_=>false
def cn (fn:FuncId)(o:Oper):Bool:=
 match o.op with
 | .move _| .assign _| .pick .. | .build .. | .load .. | .nilCheck _| .binOp .. | .unOp .. | .convert .. | .makeFunc .. | .slice .. | .fieldAddr .. | .field .. | .indexAddr .. | .index .. | .lookup .. | .extract .. =>true
 | .buildSlice .. =>(match o.dst with|some d=> !K.own fn d|none=>true)
 | .call {callee:= .builtin .len, ..}| .call {callee:= .builtin .min, ..}| .call {callee:= .builtin .max, ..}=>true
 |_=>false
def Fp (o:Oper):Bool:=
 match o.op with
 | .load .. | .lookup .. =>true
 | .call {callee:= .builtin .len, ..}=>true
 |_=>false
def tmpsOf (l:List Operand):List Nat:=l.filterMap fun| .tmp t=>some t|_=>none
def jB (fn:FuncId)(o:Oper):List Nat:=
 tmpsOf o.op.operands.toList++(match o.dst with|some d=>(match K.up fn d with| .box t=> [t]|_=> [])|none=> [])++(match K.lift fn (o.dst.getD 0)with|some t=> [t]|none=> [])
def mK (all:List Oper)(o:Oper):List Nat:=
 match o.guard with|some (j,_)=>(match all[j]? with|some oj=>oj.dst.toList|none=> [])|none=> []
def qJ:List Nat→Bool
 | []=>true
 |x::r=> !r.contains x && qJ r
def xY (fn:FuncId)(all:List Oper)(pre:Array Nat)(oj:Oper)(j:Nat)(oi:Oper)(i:Nat):Bool:=
 (match oi.dst with
 |none=>true
 |some d=>
  (!((jB K fn oj).contains d||(mK all oj).contains d)||i==j||(decide (i<j) && (pre.getD j 0).testBit i)||(decide (j<i) && (pre.getD i 0).testBit j)) &&
  (!cF oi||(!(mK all oj).contains d && (!(jB K fn oj).contains d||(!cn K fn oj && !cF oj))))) &&
 (!cF oi||cn K fn oj||cF oj||decide (j≤i)||(pre.getD j 0).testBit i)
def zj (fn:FuncId)(all:List Oper)(pre:Array Nat):Bool:=
 qJ (all.filterMap (·.dst)) &&
 all.zipIdx.all fun(oj,j)=>oj.after.all (fun e=> !Region.binds .any e||decide (e.on<j)) && all.zipIdx.all fun(oi,i)=>xY K fn all pre oj j oi i
def sameAt (fn:FuncId)(o:Oper)(s:aZ)(v:GV)(H:aj):Bool:=match dZ K fn o s H with|some (v',_)=>GV.beq v' v|none=>false
structure CS where
 i:Nat
 o:Oper
 s:aZ
 v:GV
def ia (rec:Rec)(fn:FuncId)(all:List Oper)(pre:Array Nat):Nat→List Oper→List (Nat×aj)→List CS→aj→bN→Option bN
 |_,[],_,_,_,st=>some st
 |i,o::r,wl,rl,hb,st=>
  match dy all st.s o with
  |some false=>(match st.put o.dst ly with|some st=>ia rec fn all pre (i+1) r wl rl hb st|none=>none)
  |some true=>
   if cn K fn o then
    (match dZ K fn o st.s hb with
    |some (v,_)=>
     (match st.put o.dst v with
     |some st'=>
      if Fp o then
       (if wl.all (fun x=>(pre.getD i 0).testBit x.1||sameAt K fn o st.s v x.2)then ia rec fn all pre (i+1) r wl (⟨i,o,st.s,v⟩::rl) hb st' else none)
      else ia rec fn all pre (i+1) r wl rl hb st'
     |none=>none)
    |none=>none)
   else
    (match cE K rec fn o st.s st.h with
    |some (v,H)=>
     (match bN.put {st with h:=H} o.dst v with
     |some st'=>
      if cF o then ia rec fn all pre (i+1) r wl rl hb st'
      else if wl.all (fun x=>(pre.getD i 0).testBit x.1) && rl.all (fun q=>(pre.getD i 0).testBit q.i||sameAt K fn q.o q.s q.v H)then
       ia rec fn all pre (i+1) r ((i,hb)::wl) rl H st'
      else none
     |none=>none)
    |none=>none)
  |none=>none
def cM (rec:Rec)(fn:FuncId)(c:Code)(st:bN):Option (GX×bN):=
 match c with
 | .skip| .label _=>some (.normal,st)
 | .region _ ops false=>(match qI K rec fn ops.toList ops.toList st with|some st=>some (.normal,st)|none=>none)
 | .region _ ops true=>
  if zj K fn ops.toList (Region.before ops)then
   (match ia K rec fn ops.toList (Region.before ops) 0 ops.toList [] [] st.h st with|some st=>some (.normal,st)|none=>none)
  else none
 | .seq a b=>(match rec fn a st with|some (.normal,st)=>rec fn b st|r=>r)
 | .cond c x y=>(match ev st.s c with| .pure (.bool b)=>if b then rec fn x st else rec fn y st|_=>none)
 | .block id c=>(match rec fn c st with|some (.exit id',st)=>if id'=id then some (.normal,st)else some (.exit id',st)|r=>r)
 | .loop c=>
  let an:=K.ig fn (aX c)
  (match rec fn c {st with s:=kf (an.map (·.1)) st.s,h:=[]::st.h}with
  |some (.normal,st)=>(match vU K fn c st with|some st=>rec fn (.loop c) st|none=>none)
  |some (e,st)=>(match ku (an.map (·.2)) st with|some st=>some (e,st)|none=>none)
  |none=>none)
 | .scope c=>rec fn c st
 | .exit id=>some (.exit id,st)
 | .ret=>some (.ret,st)
 | .rangeFunc f ps assign body=>
  let key:=10000000+aX body
  (match iz st.h key (.loop {ez:=st.s,nt:=st.nt,params:=ps.toList,assign:=assign,body:=body,fn:=fn,state:= .ready,pending:=none})with
  |some (nm,H)=>
   (match mV K rec (ev st.s f) [.yield nm] 0 H with
   |some (_,H)=>
    (match H.get nm with
    |some (.loop l)=>
     if l.state= .busy then none else
     (match l.pending with
     |none=>some (.normal,{st with h:=H.set nm (.loop {l with state:= .exhausted})})
     |some e=>some (e,{st with h:=H.set nm (.loop {l with state:= .exhausted})}))
    |_=>none)
   |none=>none)
  |none=>none)
 |_=>none
def c9:Nat→Rec
 |0=>fun _ _ _=>none
 |n+1=>cM K (c9 n)
end
end
section
abbrev Mu:=Nm→Nat→Option Nat
def pE (i:Nat):Nat:=2199023255552+i
section
variable (w:World) (S:Nat→Prop)
inductive cf:Value→PV→Prop
 |int (k:IntKind) (n:Int):cf (.int k n) (.int k n)
 |bool (b:Bool):cf (.bool b) (.bool b)
 |str (s:ByteArray):cf (.string s) (.str s.data.toList)
 |fD (a:Option Addr) (cap:Nat):cf (.slice a 0 cap) (.slice [])
 |slice (b o cap es:Nat) (l:List (List PV)) (f:Nat→Nat→Value) (hS:S b) (he:0<es) (hes: ∀r∈l,r.length=es)
   (hf: ∀i j,i<l.length→j<es→w.cell? ⟨b,o+(i*es+j),none⟩=some (f i j)) (h1: ∀i j,i<l.length→j<es→(f i j).oneCell'=true)
   (hr: ∀i j,i<l.length→j<es→cf (f i j) ((l.getD i []).getD j .dead)) (hc:l.length≤cap):cf (.slice (some ⟨b,o,none⟩) l.length cap) (.slice l)
 |agg (vs:Array Value) (l:List PV) (h:vs.size=l.length) (h1: ∀j,j<l.length→(vs.getD j undef).oneCell'=true) (hr: ∀j,j<l.length→cf (vs.getD j undef) (l.getD j .dead)):cf (.agg vs) (.agg l)
 |tuple (vs:Array Value) (l:List PV) (h:vs.size=l.length) (hr: ∀j,j<l.length→cf (vs.getD j undef) (l.getD j .dead)):cf (.tuple vs) (.tuple l)
 |fn (f:FuncId):cf (.func (.func f) #[] #[]) (.fn f)
 |qF:cf (.pointer none) .qF
 |gf:cf .nilFunc .gf
 |oM:cf (.map none) .oM
 |rS:cf .nilIface .rS
 |iface (t:TypeId) (v:Value) (p:PV) (h:cf v p):cf (.iface t v) (.iface t p)
 |dead (v:Value):cf v .dead
inductive aC (μ:Mu) (ℓ:Nat):Value→GV→Prop
 |pure (v:Value) (p:PV) (h:cf w S v p):aC μ ℓ v (.pure p)
 |b7 (b o:Nat) (cs:List PV) (f:Nat→Value) (hS:cs≠[]→S b) (hf: ∀j,j<cs.length→w.cell? ⟨b,o+j,none⟩=some (f j)) (h1: ∀j,j<cs.length→(f j).oneCell'=true)
   (hr: ∀j,j<cs.length→cf w S (f j) (cs.getD j .dead)):aC μ ℓ (.pointer (some ⟨b,o,none⟩)) (.b7 cs)
 |iA (b o:Nat) (cs:List GV) (f:Nat→Value) (hS:cs≠[]→S b) (hf: ∀j,j<cs.length→w.cell? ⟨b,o+j,none⟩=some (f j)) (h1: ∀j,j<cs.length→(f j).oneCell'=true)
   (hr: ∀j,j<cs.length→aC μ ℓ (f j) (cs.getD j aP)):aC μ ℓ (.pointer (some ⟨b,o,none⟩)) (.iA cs)
 |aV (a:Option Addr):aC μ ℓ (.slice a 0 0) .aV
 |lits (b o cap es:Nat) (l:List (List GV)) (f:Nat→Nat→Value) (hS:S b) (he:0<es) (hes: ∀r∈l,r.length=es)
   (hf: ∀i j,i<l.length→j<es→w.cell? ⟨b,o+(i*es+j),none⟩=some (f i j)) (h1: ∀i j,i<l.length→j<es→(f i j).oneCell'=true)
   (hr: ∀i j,i<l.length→j<es→aC μ ℓ (f i j) ((l.getD i []).getD j aP)):aC μ ℓ (.slice (some ⟨b,o,none⟩) l.length cap) (.lits l)
 |ay (nm:Nm) (off b:Nat) (hl:nm.1≤ℓ) (hm:μ nm 0=some b):aC μ ℓ (.pointer (some ⟨b,off,none⟩)) (.ay nm off)
 |eC (nm:Nm) (es top i off b:Nat) (hl:nm.1≤ℓ) (hm:μ nm top=some b):aC μ ℓ (.pointer (some ⟨b,i*es+off,none⟩)) (.eC nm es top i off)
 |a8 (nm:Nm) (es top lo len cap b n:Nat) (e:TypeId) (hl:nm.1≤ℓ) (hm:μ nm top=some b) (hc:top≤lo+cap) (ht:lo+len≤top)
   (hsh:w.shape? b=some (e,n)) (hn:(lo+cap)*es≤n):aC μ ℓ (.slice (some ⟨b,lo*es,none⟩) len cap) (.a8 nm es top lo len)
 |agg (vs:Array Value) (l:List GV) (h:vs.size=l.length) (h1: ∀j,j<l.length→(vs.getD j undef).oneCell'=true) (hr: ∀j,j<l.length→aC μ ℓ (vs.getD j undef) (l.getD j aP)):aC μ ℓ (.agg vs) (.agg l)
 |tuple (vs:Array Value) (l:List GV) (h:vs.size=l.length) (hr: ∀j,j<l.length→aC μ ℓ (vs.getD j undef) (l.getD j aP)):aC μ ℓ (.tuple vs) (.tuple l)
 |func (f:FuncId) (a c:Array Value) (la lc:List GV) (h1:a.size=la.length) (h2:c.size=lc.length)
   (hr1: ∀j,j<la.length→aC μ ℓ (a.getD j undef) (la.getD j aP)) (hr2: ∀j,j<lc.length→aC μ ℓ (c.getD j undef) (lc.getD j aP)):
   aC μ ℓ (.func (.func f) a c) (.func f la lc)
 |yield (nm:Nm) (b:Nat) (hl:nm.1≤ℓ) (hm:μ nm 0=some b):aC μ ℓ (.func (.yield b) #[] #[]) (.yield nm)
 |map (nm:Nm) (b:Nat) (hl:nm.1≤ℓ) (hm:μ nm 0=some b):aC μ ℓ (.map (some b)) (.map nm)
 |gR (nm:Nm) (es i len cap b:Nat) (hl:nm.1≤ℓ) (hm:μ nm (pE i)=some b) (hc:len≤cap):aC μ ℓ (.slice (some ⟨b,0,none⟩) len cap) (.gR nm es i len)
 |je (nm:Nm) (es i j off b:Nat) (hl:nm.1≤ℓ) (hm:μ nm (pE i)=some b):aC μ ℓ (.pointer (some ⟨b,j*es+off,none⟩)) (.je nm es i j off)
inductive bT (μ:Mu) (ℓ:Nat):List Value→List GV→Prop
 |nil:bT μ ℓ [] []
 |cons {v:Value} {g:GV} {vs:List Value} {gs:List GV} (h1:v.oneCell'=true) (h:aC w S μ ℓ v g) (t:bT μ ℓ vs gs):bT μ ℓ (v::vs) (g::gs)
def nq:GX→Code
 | .exit id=> .exit id
 |_=> .ret
def oQ (b es:Nat)(l:List (List PV)):Prop:=
 (∃c e,w.heap[b]? =some (.cells c e (0,0)))∧ ¬S b∧ ∀i j,i<l.length→j<es→ ∃u,w.cell? ⟨b,i*es+j,none⟩=some u∧u.oneCell'=true∧cf w S u ((l.getD i []).getD j .dead)
structure cY (μ:Mu)(nm:Nm)(es:Nat)(rows:List (List (List PV)))(n:Nat):Prop where
 pos:0<es
 le:n≤rows.length
 Fe:n<pE 0
 wid: ∀r∈rows,∀x∈r,x.length=es
 row: ∀i,i<rows.length→ ∃b,μ nm (pE i)=some b∧oQ w S b es (rows.getD i [])
 inj: ∀i j b,μ nm (pE i)=some b→μ nm (pE j)=some b→i=j
 lC: ∀i b,μ nm (pE i)=some b→i<rows.length
 top: ∀t b,t<pE 0→μ nm t=some b→t≤n∧(∃c e,w.heap[b]? =some (.cells c e (0,0)))∧ ¬S b∧(∀i,μ nm (pE i)≠some b)∧
  ∀i,i<t→ ∃bi cap,w.cell? ⟨b,i,none⟩=some (.slice (some ⟨bi,0,none⟩) (rows.getD i []).length cap)∧μ nm (pE i)=some bi∧(rows.getD i []).length≤cap
def gJ (μ:Mu)(nm:Nm):dH→Prop
 | .box cs=> ∃b c e,μ nm 0=some b∧ ¬S b∧w.heap[b]? =some (.cells c e (0,0))∧bT w S μ nm.1 c.toList cs
 | .arr es elems vf ro=>0<es∧(∀r∈elems,r.length=es)∧vf≤elems.length∧(∃b,μ nm elems.length=some b)∧
   (∀top b,μ nm top=some b→top≤elems.length∧(∃c e,w.heap[b]? =some (.cells c e (0,0)))∧(ro=false→ ¬S b)∧
    (vf≤top→(ro=true→S b)∧ ∀i j,i<top→j<es→ ∃u,w.cell? ⟨b,i*es+j,none⟩=some u∧u.oneCell'=true∧cf w S u ((elems.getD i []).getD j .dead)))
 | .map es=> ∃b ms clock,μ nm 0=some b∧ ¬S b∧w.heap[b]? =some (.map ms clock)∧ms.size=es.length∧
   ∀j,(h:j<es.length)→ ∃m,ms[j]? =some m∧cf w S m.key es[j].1∧aC w S μ nm.1 m.val es[j].2
 | .loop l=> ∃b r,μ nm 0=some b∧ ¬S b∧w.heap[b]? =some (.loop r)∧r.state=l.state∧r.pending=l.pending.map nq∧l.pending≠some .normal∧
   r.params=l.params.toArray∧r.assign=l.assign∧r.body=l.body∧r.tmps.size=l.nt∧ ∀t,aC w S μ nm.1 (r.tmps.getD t undef) (look l.ez t)
 | .qY es rows n=>cY w S μ nm es rows n
structure a9 (μ:Mu)(H:aj):Prop where
 jd: ∀nm x,H.get nm=some x→ ∀t b,μ nm t=some b→gJ w S μ nm x
 lC: ∀nm t b,μ nm t=some b→ ∃x,H.get nm=some x
 iI: ∀nm nm' t t' b,μ nm t=some b→μ nm' t'=some b→nm=nm'
 lt: ∀nm t b,μ nm t=some b→b<w.heap.size
 slt: ∀b,S b→b<w.heap.size
end
structure Ev (ℓ:Nat)(w:World)(S:Nat→Prop)(μ:Mu)(w':World)(S':Nat→Prop)(μ':Mu):Prop where
 os:w'.os=w.os
 tape:w'.tape=w.tape
 out:w'.output=w.output
 size:w.heap.size≤w'.heap.size
 sub: ∀b,S b→S' b
 same: ∀b,b<w.heap.size→(S b∨ ∀nm t,μ nm t≠some b)→w'.heap[b]? =w.heap[b]?
 Em: ∀b x,w.shape? b=some x→w'.shape? b=some x
 lp: ∀(b:Nat) (r:Loop),w.heap[b]? =some (Obj.loop r)→ ∃r':Loop,w'.heap[b]? =some (Obj.loop r')
 mu: ∀nm t b,nm.1≤ℓ→μ nm t=some b→μ' nm t=some b
 own: ∀nm t b,μ' nm t=some b→b<w.heap.size→ ∃nm' t',μ nm' t'=some b
 xc: ∀b,S' b→b<w.heap.size→S b∨ ∃nm t,μ nm t=some b
theorem Ev.refl (ℓ:Nat)(w:World)(S:Nat→Prop)(μ:Mu):Ev ℓ w S μ w S μ:=
 ⟨rfl,rfl,rfl,Nat.le_refl _,fun _ h=>h,fun _ _ _=>rfl,fun _ _ h=>h,fun _ r h=>⟨r,h⟩,fun _ _ _ _ h=>h,fun nm t _ h _=>⟨nm,t,h⟩,fun _ h _=> .inl h⟩
theorem Ev.trans {ℓ:Nat}{w1 w2 w3:World}{S1 S2 S3:Nat→Prop}{μ1 μ2 μ3:Mu}(h:Ev ℓ w1 S1 μ1 w2 S2 μ2)(k:Ev ℓ w2 S2 μ2 w3 S3 μ3):
  Ev ℓ w1 S1 μ1 w3 S3 μ3 where
 os:=k.os.trans h.os
 tape:=k.tape.trans h.tape
 out:=k.out.trans h.out
 size:=Nat.le_trans h.size k.size
 sub:=fun b hb=>k.sub b (h.sub b hb)
 same:=fun b hb ho=>by
  have h1:=h.same b hb ho;rw [←h1];refine k.same b (Nat.lt_of_lt_of_le hb h.size) ?_;rcases ho with ho|ho
  ·exact .inl (h.sub b ho)
  ·refine .inr fun nm t hm=> ?_;obtain⟨nm',t',hm'⟩:=h.own nm t b hm hb;exact ho nm' t' hm'
 Em:=fun b x hx=>k.Em b x (h.Em b x hx)
 lp:=fun b r hr=>let ⟨r',h'⟩:=h.lp b r hr;k.lp b r' h'
 mu:=fun nm t b hl hm=>k.mu nm t b hl (h.mu nm t b hl hm)
 own:=fun nm t b hm hb=>by
  obtain⟨nm',t',hm'⟩:=k.own nm t b hm (Nat.lt_of_lt_of_le hb h.size);exact h.own nm' t' b hm' hb
 xc:=fun b hb hl=>by
  rcases k.xc b hb (Nat.lt_of_lt_of_le hl h.size)with h'|⟨nm,t,h'⟩
  ·exact h.xc b h' hl
  ·exact .inr (h.own nm t b h' hl)
theorem Ev.level {ℓ ℓ':Nat}{w1 w2:World}{S1 S2:Nat→Prop}{μ1 μ2:Mu}(h:Ev ℓ w1 S1 μ1 w2 S2 μ2)(hl:ℓ'≤ℓ):Ev ℓ' w1 S1 μ1 w2 S2 μ2:=
 {h with mu:=fun nm t b hb hm=>h.mu nm t b (Nat.le_trans hb hl) hm}
theorem dx {w w':World}{b:Nat}(h:w'.heap[b]? =w.heap[b]?)(o:Nat):w'.cell? ⟨b,o,none⟩=w.cell? ⟨b,o,none⟩:=by
 unfold World.cell?;simp only [h]
theorem cf.mono {w w':World}{S S':Nat→Prop}(hS: ∀b,S b→S' b)(hw: ∀b,S b→w'.heap[b]? =w.heap[b]?){v:Value}{p:PV}(h:cf w S v p):
  cf w' S' v p:=by
 induction h with
 |int k n=>exact .int k n
 |bool b=>exact .bool b
 |str s=>exact .str s
 |fD a cap=>exact .fD a cap
 |slice b o cap es l f hb he hes hf h1 _ hc ih=>exact .slice b o cap es l f (hS b hb) he hes (fun i j hi hj=>by rw [dx (hw b hb)];exact hf i j hi hj) h1 ih hc
 |agg vs l h h1 _ ih=>exact .agg vs l h h1 ih
 |tuple vs l h _ ih=>exact .tuple vs l h ih
 |fn f=>exact .fn f
 |qF=>exact .qF
 |gf=>exact .gf
 |oM=>exact .oM
 |rS=>exact .rS
 |iface t v p _ ih=>exact .iface t v p ih
 |dead v=>exact .dead v
theorem aC.mono {w w':World} {S S':Nat→Prop} {μ μ':Mu} {ℓ ℓ':Nat} (hS: ∀b,S b→S' b) (hw: ∀b,S b→w'.heap[b]? =w.heap[b]?)
  (hsh: ∀b x,w.shape? b=some x→w'.shape? b=some x) (hm: ∀nm t b,nm.1≤ℓ→μ nm t=some b→μ' nm t=some b) (hl:ℓ≤ℓ')
  {v:Value} {g:GV} (h:aC w S μ ℓ v g):aC w' S' μ' ℓ' v g:=by
 induction h with
 |pure v p h=>exact .pure v p (h.mono hS hw)
 |b7 b o cs f hb hf h1 hr=>
  refine .b7 b o cs f (fun h=>hS b (hb h)) (fun j hj=> ?_) h1 (fun j hj=>(hr j hj).mono hS hw);rw [dx (hw b (hb (by intro h;subst h;simp at hj)))];exact hf j hj
 |iA b o cs f hb hf h1 _ ih=>
  refine .iA b o cs f (fun h=>hS b (hb h)) (fun j hj=> ?_) h1 ih;rw [dx (hw b (hb (by intro h;subst h;simp at hj)))];exact hf j hj
 |aV a=>exact .aV a
 |lits b o cap es l f hb he hes hf h1 _ ih=>exact .lits b o cap es l f (hS b hb) he hes (fun i j hi hj=>by rw [dx (hw b hb)];exact hf i j hi hj) h1 ih
 |ay nm off b h1 h2=>exact .ay nm off b (Nat.le_trans h1 hl) (hm _ _ _ h1 h2)
 |eC nm es top i off b h1 h2=>exact .eC nm es top i off b (Nat.le_trans h1 hl) (hm _ _ _ h1 h2)
 |a8 nm es top lo len cap b n e h1 h2 hc ht hs hn=>exact .a8 nm es top lo len cap b n e (Nat.le_trans h1 hl) (hm _ _ _ h1 h2) hc ht (hsh _ _ hs) hn
 |agg vs l h h1 _ ih=>exact .agg vs l h h1 ih
 |tuple vs l h _ ih=>exact .tuple vs l h ih
 |func f a c la lc h1 h2 _ _ ih1 ih2=>exact .func f a c la lc h1 h2 ih1 ih2
 |yield nm b h1 h2=>exact .yield nm b (Nat.le_trans h1 hl) (hm _ _ _ h1 h2)
 |map nm b h1 h2=>exact .map nm b (Nat.le_trans h1 hl) (hm _ _ _ h1 h2)
 |gR nm es i len cap b h1 h2 hc=>exact .gR nm es i len cap b (Nat.le_trans h1 hl) (hm _ _ _ h1 h2) hc
 |je nm es i j off b h1 h2=>exact .je nm es i j off b (Nat.le_trans h1 hl) (hm _ _ _ h1 h2)
section
variable {ℓ:Nat} {w w':World} {S S':Nat→Prop} {μ μ':Mu}
theorem Ev.val (h:Ev ℓ w S μ w' S' μ')(hlt: ∀b,S b→b<w.heap.size){k:Nat}(hk:k≤ℓ){v:Value}{g:GV}(hv:aC w S μ k v g):aC w' S' μ' k v g:=
 hv.mono h.sub (fun b hb=>h.same b (hlt b hb) (.inl hb)) h.Em (fun nm t b hn hm=>h.mu nm t b (Nat.le_trans hn hk) hm) (Nat.le_refl _)
end
theorem aC.up {w:World}{S:Nat→Prop}{μ:Mu}{ℓ ℓ':Nat}(hl:ℓ≤ℓ'){v:Value}{g:GV}(h:aC w S μ ℓ v g):aC w S μ ℓ' v g:=
 h.mono (fun _ h=>h) (fun _ _=>rfl) (fun _ _ h=>h) (fun _ _ _ _ h=>h) hl
theorem bT.mono {w w':World} {S S':Nat→Prop} {μ μ':Mu} {ℓ ℓ':Nat} (hS: ∀b,S b→S' b) (hw: ∀b,S b→w'.heap[b]? =w.heap[b]?)
  (hsh: ∀b x,w.shape? b=some x→w'.shape? b=some x) (hm: ∀nm t b,nm.1≤ℓ→μ nm t=some b→μ' nm t=some b) (hl:ℓ≤ℓ')
  {vs:List Value} {gs:List GV} (h:bT w S μ ℓ vs gs):bT w' S' μ' ℓ' vs gs:=by
 induction h with
 |nil=>exact .nil
 |cons h1 h _ ih=>exact .cons h1 (h.mono hS hw hsh hm hl) ih
theorem oQ.mono {w w':World} {S S':Nat→Prop} {b es:Nat} {l:List (List PV)} (hS: ∀b,S b→S' b) (hw: ∀b,S b→w'.heap[b]? =w.heap[b]?)
  (hb:w'.heap[b]? =w.heap[b]?) (hs:S' b→S b) (h:oQ w S b es l):oQ w' S' b es l:=by
 obtain⟨⟨c,e,h1⟩,h2,h3⟩:=h;refine⟨⟨c,e,by rw [hb];exact h1⟩,fun h=>h2 (hs h),fun i j hi hj=> ?_⟩;obtain⟨u,u1,u2,u3⟩:=h3 i j hi hj;exact⟨u,by rw [dx hb];exact u1,u2,u3.mono hS hw⟩
theorem cY.mono {w w':World} {S S':Nat→Prop} {μ μ':Mu} {nm nm':Nm} {es n:Nat} {rows:List (List (List PV))} (hS: ∀b,S b→S' b) (hw: ∀b,S b→w'.heap[b]? =w.heap[b]?)
  (ho: ∀t,μ' nm' t=μ nm t) (hb: ∀t b,μ nm t=some b→w'.heap[b]? =w.heap[b]?) (hs: ∀t b,μ nm t=some b→S' b→S b) (h:cY w S μ nm es rows n):cY w' S' μ' nm' es rows n where
 pos:=h.pos
 le:=h.le
 Fe:=h.Fe
 wid:=h.wid
 row:=fun i hi=>by
  obtain⟨b,h1,h2⟩:=h.row i hi;exact⟨b,by rw [ho];exact h1,h2.mono hS hw (hb _ _ h1) (hs _ _ h1)⟩
 inj:=fun i j b h1 h2=>by rw [ho]at h1 h2;exact h.inj i j b h1 h2
 lC:=fun i b h1=>by rw [ho]at h1;exact h.lC i b h1
 top:=fun t b ht h1=>by
  rw [ho]at h1;obtain⟨g1,⟨c,e,g2⟩,g3,g4,g5⟩:=h.top t b ht h1;refine⟨g1,⟨c,e,by rw [hb _ _ h1];exact g2⟩,fun h=>g3 (hs _ _ h1 h),fun i=>by rw [ho];exact g4 i,fun i hi=> ?_⟩;obtain⟨bi,cap,k1,k2,k3⟩:=g5 i hi;exact⟨bi,cap,by rw [dx (hb _ _ h1)];exact k1,by rw [ho];exact k2,k3⟩
theorem gJ.mono {w w':World} {S S':Nat→Prop} {μ μ':Mu} {nm:Nm} (hS: ∀b,S b→S' b) (hw: ∀b,S b→w'.heap[b]? =w.heap[b]?)
  (hsh: ∀b x,w.shape? b=some x→w'.shape? b=some x) (hm: ∀n t b,n.1≤nm.1→μ n t=some b→μ' n t=some b) (ho: ∀t,μ' nm t=μ nm t)
  (hb: ∀t b,μ nm t=some b→w'.heap[b]? =w.heap[b]?) (hs: ∀t b,μ nm t=some b→S' b→S b) {x:dH} (h:gJ w S μ nm x):gJ w' S' μ' nm x:=by
 cases x with
 |box cs=>
  obtain⟨b,c,e,h1,h2,h3,h4⟩:=h;exact⟨b,c,e,by rw [ho];exact h1,fun h=>h2 (hs _ _ h1 h),by rw [hb _ _ h1];exact h3,h4.mono hS hw hsh hm (Nat.le_refl _)⟩
 |arr es elems vf ro=>
  obtain⟨h0,h1,h2,⟨b0,h3⟩,h4⟩:=h;refine⟨h0,h1,h2,⟨b0,by rw [ho];exact h3⟩,fun top b hb'=> ?_⟩;rw [ho]at hb';obtain⟨g1,⟨c,e,g2⟩,g3,g4⟩:=h4 top b hb';refine⟨g1,⟨c,e,by rw [hb _ _ hb'];exact g2⟩,fun hr h=>g3 hr (hs _ _ hb' h),fun hv=> ?_⟩;obtain⟨k1,k2⟩:=g4 hv;refine⟨fun hr=>hS _ (k1 hr),fun i j hi hj=> ?_⟩;obtain⟨u,u1,u2,u3⟩:=k2 i j hi hj;exact⟨u,by rw [dx (hb _ _ hb')];exact u1,u2,u3.mono hS hw⟩
 |map es=>
  obtain⟨b,ms,clock,h1,h2,h3,h4,h5⟩:=h;refine⟨b,ms,clock,by rw [ho];exact h1,fun h=>h2 (hs _ _ h1 h),by rw [hb _ _ h1];exact h3,h4,fun j hj=> ?_⟩;obtain⟨m,m1,m2,m3⟩:=h5 j hj;exact⟨m,m1,m2.mono hS hw,m3.mono hS hw hsh hm (Nat.le_refl _)⟩
 |loop l=>
  obtain⟨b,r,h1,h2,h3,q1,q2,q3,q5,q6,q7,q8,q9⟩:=h;exact⟨b,r,by rw [ho];exact h1,fun h=>h2 (hs _ _ h1 h),by rw [hb _ _ h1];exact h3,q1,q2,q3,q5,q6,q7,q8,fun t=>(q9 t).mono hS hw hsh hm (Nat.le_refl _)⟩
 |qY es rows n=>exact cY.mono hS hw ho hb hs h
theorem Fr.bQ (q : Nat) (x : dH) : ∀ f : Fr, (f.ins q x).get q = some x
  | [] => by simp [Fr.ins, Fr.get]
  | (k, b) :: r => by
    unfold Fr.ins
    split
    · simp [Fr.get]
    · split
      · simp [Fr.get]
      · rename_i h _; simp [Fr.get, h, Fr.bQ q x r]
theorem Fr.az {q p : Nat} (x : dH) (h : p ≠ q) : ∀ f : Fr, (f.ins q x).get p = f.get p
  | [] => by simp [Fr.ins, Fr.get, h]
  | (k, b) :: r => by
    unfold Fr.ins
    split
    · rename_i hk; subst hk; simp [Fr.get, h]
    · split
      · simp [Fr.get, h]
      · simp only [Fr.get]; rw [Fr.az x h r]
theorem aj.bL: ∀{H:aj} {nm:Nm} {b:dH},H.get nm=some b→nm.1<H.length
 | [],nm,b,h=>by simp [aj.get]at h
 |f::H,nm,b,h=>by
  unfold aj.get at h;split at h
  ·rename_i e;simp [e]
  ·have:=aj.bL h;simp;omega
theorem aj.length_set: ∀(H:aj) (nm:Nm) (b:dH),(H.set nm b).length=H.length
 | [],_,_=>rfl
 |f::H,nm,b=>by
  unfold aj.set;split
  ·rfl
  ·simp [aj.length_set H nm b]
theorem aj.dU: ∀{H:aj} {nm:Nm} (b:dH),nm.1<H.length→(H.set nm b).get nm=some b
 | [],nm,b,h=>by simp at h
 |f::H,nm,b,h=>by
  unfold aj.set;split
  ·rename_i e;simp [aj.get,e,Fr.bQ]
  ·rename_i e;simp only [aj.get,aj.length_set,e,if_false];exact aj.dU b (by simp at h;omega)
theorem aj.aJ: ∀{H:aj} {nm nm':Nm} (b:dH),nm'≠nm→(H.set nm b).get nm'=H.get nm'
 | [],_,_,_,_=>rfl
 |f::H,nm,nm',b,h=>by
  unfold aj.set;split
  ·rename_i e;simp only [aj.get];split
   ·rename_i e';refine Fr.az b ?_ f;intro h2;exact h (Prod.ext (by omega) h2)
   ·rfl
  ·simp only [aj.get,aj.length_set];split
   ·rfl
   ·exact aj.aJ b h
theorem aj.A5 {H:aj}(nm:Nm):aj.get ([]::H) nm=H.get nm:=by
 show (if nm.1=H.length then Fr.get [] nm.2 else H.get nm)=H.get nm
 split
 ·rename_i e;simp only [Fr.get]
  cases h:aj.get H nm with
  |none=>rfl
  |some b=>have:=aj.bL h;omega
 ·rfl
end
section
theorem aC.pv {w:World}{S:Nat→Prop}{μ:Mu}{ℓ:Nat}{v:Value}{p:PV}(h:aC w S μ ℓ v (.pure p)):cf w S v p:=by
 cases h with|pure _ _ h=>exact h
section crel
variable {w:World} {S:Nat→Prop} {μ:Mu} {ℓ:Nat}
theorem bT.length {vs:List Value}{gs:List GV}(h:bT w S μ ℓ vs gs):vs.length=gs.length:=by
 induction h with
 |nil=>rfl
 |cons _ _ _ ih=>simp [ih]
theorem bT.append {vs us:List Value}{gs ks:List GV}(h:bT w S μ ℓ vs gs)(k:bT w S μ ℓ us ks):bT w S μ ℓ (vs++us) (gs++ks):=by
 induction h with
 |nil=>exact k
 |cons h1 h2 _ ih=>exact .cons h1 h2 ih
theorem bT.take {vs:List Value}{gs:List GV}(h:bT w S μ ℓ vs gs): ∀n:Nat,bT w S μ ℓ (vs.take n) (gs.take n):=by
 induction h with
 |nil=>intro n;simp;exact .nil
 |cons h1 h2 _ ih=>intro n;cases n with
  |zero=>simp;exact .nil
  |succ n=>simp only [List.take_succ_cons];exact .cons h1 h2 (ih n)
theorem bT.drop {vs:List Value}{gs:List GV}(h:bT w S μ ℓ vs gs): ∀n:Nat,bT w S μ ℓ (vs.drop n) (gs.drop n):=by
 induction h with
 |nil=>intro n;simp;exact .nil
 |cons h1 h2 h3 ih=>intro n;cases n with
  |zero=>simp only [List.drop_zero];exact .cons h1 h2 h3
  |succ n=>simp only [List.drop_succ_cons];exact ih n
theorem bT.get {vs:List Value}{gs:List GV}(h:bT w S μ ℓ vs gs): ∀(j:Nat) (g:GV),gs[j]? =some g→ ∃v,vs[j]? =some v∧v.oneCell'=true∧aC w S μ ℓ v g:=by
 induction h with
 |nil=>intro j g hg;simp at hg
 | @cons v _ _ _ h1 h2 _ ih=>intro j g hg;cases j with
  |zero=>simp at hg;subst hg;exact⟨v,rfl,h1,h2⟩
  |succ j=>simpa using ih j g (by simpa using hg)
theorem bT.qp: ∀(vs:List Value) (gs:List GV),vs.length=gs.length→(∀j,j<gs.length→(vs.getD j undef).oneCell'=true∧aC w S μ ℓ (vs.getD j undef) (gs.getD j aP))→
  bT w S μ ℓ vs gs
 | [],[],_,_=> .nil
 |v::vs,g::gs,h,k=> .cons (k 0 (by simp)).1 (k 0 (by simp)).2 (bT.qp vs gs (by simpa using h) fun j hj=>by simpa using k (j+1) (by simpa using hj))
 | [],_::_,h,_=>by simp at h
 |_::_,[],h,_=>by simp at h
theorem bT.getD {vs:List Value}{gs:List GV}(h:bT w S μ ℓ vs gs)(j:Nat)(hj:j<gs.length):(vs.getD j undef).oneCell'=true∧aC w S μ ℓ (vs.getD j undef) (gs.getD j aP):=by
 obtain⟨v,h1,h2,h3⟩:=h.get j gs[j] (by simp [hj]);simp only [List.getD_eq_getElem?_getD,h1,List.getElem?_eq_getElem hj,Option.getD_some];exact⟨h2,h3⟩
theorem bT.aD {vs us:List Value}{gs ks:List GV}(h:bT w S μ ℓ vs gs)(k:bT w S μ ℓ us ks)(off:Nat):
  bT w S μ ℓ (aD vs off us) (aD gs off ks):=by
 unfold Gh.aD;rw [k.length];exact((h.take off).append k).append (h.drop _)
theorem bT.one {vs:List Value}{gs:List GV}(h:bT w S μ ℓ vs gs): ∀v∈vs,v.oneCell'=true:=by
 induction h with
 |nil=>simp
 |cons h1 _ _ ih=>intro v hv;rcases List.mem_cons.1 hv with rfl|hv;exact h1;exact ih v hv
theorem bT.replicate {vs:List Value}{gs:List GV}(h:bT w S μ ℓ vs gs): ∀n:Nat,bT w S μ ℓ (List.replicate n vs).flatten (List.replicate n gs).flatten
 |0=> .nil
 |n+1=>by simp only [List.replicate_succ,List.flatten_cons];exact h.append (bT.replicate h n)
theorem bT.pT: ∀(vs:List Value) (ps:List PV),bT w S μ ℓ vs (ps.map .pure)→vs.length=ps.length∧ ∀j,j<ps.length→(vs.getD j undef).oneCell'=true∧cf w S (vs.getD j undef) (ps.getD j .dead):=by
 intro vs ps h;refine⟨by simpa using h.length,fun j hj=> ?_⟩;obtain⟨h1,h2⟩:=h.getD j (by simpa using hj);refine⟨h1, ?_⟩;have e:(ps.map GV.pure).getD j aP= .pure (ps.getD j .dead):=(by simp [List.getD_eq_getElem?_getD,hj]);rw [e]at h2;exact h2.pv
theorem bT.AO (vs:List Value)(ps:List PV)(h:vs.length=ps.length)(k: ∀j,j<ps.length→(vs.getD j undef).oneCell'=true∧cf w S (vs.getD j undef) (ps.getD j .dead)):
  bT w S μ ℓ vs (ps.map .pure):=
 .qp _ _ (by simpa using h) fun j hj=>by
  have hj':j<ps.length:=(by simpa using hj);have e:(ps.map GV.pure).getD j aP= .pure (ps.getD j .dead):=(by simp [List.getD_eq_getElem?_getD,hj']);rw [e];exact⟨(k j hj').1, .pure _ _ (k j hj').2⟩
end crel
theorem fq: ∀{l:List GV} {ps:List PV},bm l=some ps→l=ps.map .pure
 | [],ps,h=>by simp [bm]at h;subst h;rfl
 |g::r,ps,h=>by
  cases g with
  |pure p=>
   simp only [bm]at h
   cases hr:bm r with
   |none=>rw [hr]at h;simp at h
   |some qs=>rw [hr]at h;simp at h;subst h;simp [fq hr]
  |_=>simp [bm]at h
theorem oS: ∀l:List PV,bm (l.map .pure)=some l
 | []=>rfl
 |x::r=>by simp [bm,oS r]
theorem pD (l:List PV):cZ (l.map .pure)= .pure (.agg l):=by simp only [cZ,oS]
theorem fF (vs:Array Value)(j:Nat):vs.getD j undef=vs.toList.getD j undef:=by
 simp [Array.getD_eq_getD_getElem?,List.getD_eq_getElem?_getD]
section vals
variable {w:World} {S:Nat→Prop} {μ:Mu} {ℓ:Nat}
theorem dK (v:Value):aC w S μ ℓ v aP:= .pure v .dead (.dead v)
theorem aC.Ik {vs:List Value}{gs:List GV}(h:bT w S μ ℓ vs gs):aC w S μ ℓ (.agg vs.toArray) (.agg gs):=
 .agg _ _ (by simpa using h.length) (fun j hj=>by rw [fF];exact(h.getD j hj).1) (fun j hj=>by rw [fF];exact(h.getD j hj).2)
theorem xM {vs:List Value}{gs:List GV}(h:bT w S μ ℓ vs gs):aC w S μ ℓ (.agg vs.toArray) (cZ gs):=by
 unfold cZ;split
 ·rename_i ps hp;rw [fq hp]at h;obtain⟨h1,h2⟩:=bT.pT _ _ h;exact .pure _ _ (.agg _ _ (by simpa using h1) (fun j hj=>by rw [fF];exact(h2 j hj).1) (fun j hj=>by rw [fF];exact(h2 j hj).2))
 ·exact .Ik h
theorem fC {vs:Array Value}{gs:List GV}(h:bT w S μ ℓ vs.toList gs):aC w S μ ℓ (.agg vs) (cZ gs):=by
 have:=xM h;simpa using this
theorem iZ {vs:Array Value}{gs:List GV}(hs:vs.size=gs.length)(h: ∀j,j<gs.length→aC w S μ ℓ (vs.getD j undef) (gs.getD j aP)):
  aC w S μ ℓ (.tuple vs) (mkTuple gs):=by
 unfold mkTuple;split
 ·rename_i ps hp;have e:=fq hp;subst e;refine .pure _ _ (.tuple _ _ (by simpa using hs) fun j hj=> ?_);have h2:=h j (by simpa using hj);have e:(ps.map GV.pure).getD j aP= .pure (ps.getD j .dead):=(by simp [List.getD_eq_getElem?_getD,hj]);rw [e]at h2;exact h2.pv
 ·exact .tuple _ _ hs h
theorem fB {v:Value}{g:GV}{cs:List GV}(h:aC w S μ ℓ v g)(hc:bC g=some cs):bT w S μ ℓ v.cells.toList cs:=by
 have one: ∀{v:Value} {g:GV},v.oneCell'=true→v.cells= #[v]→aC w S μ ℓ v g→some [g]=some cs→bT w S μ ℓ v.cells.toList cs:=by
  intro v g h1 h2 h3 h4;simp at h4;subst h4;rw [h2];exact .cons h1 h3 .nil
 cases h with
 |pure _ p hp=>
  cases hp with
  |agg vs l h1 h2 h3=>
   simp only [bC,Option.some.injEq]at hc;subst hc;exact .AO _ _ (by simpa [Value.cells]using h1) fun j hj=>by
    have a:=h2 j hj;have b:=h3 j hj;rw [fF]at a b;exact⟨a,b⟩
  |tuple vs l h1 h2=>simp [bC]at hc
  |dead v=>simp [bC]at hc
  |int k n=>exact one rfl rfl (.pure _ _ (.int k n)) hc
  |bool b=>exact one rfl rfl (.pure _ _ (.bool b)) hc
  |str s=>exact one rfl rfl (.pure _ _ (.str s)) hc
  |fD a cap=>exact one rfl rfl (.pure _ _ (.fD a cap)) hc
  |slice b o cap es l f hS he hes hf h1 hr hcp=>exact one rfl rfl (.pure _ _ (.slice b o cap es l f hS he hes hf h1 hr hcp)) hc
  |fn f=>exact one rfl rfl (.pure _ _ (.fn f)) hc
  |qF=>exact one rfl rfl (.pure _ _ .qF) hc
  |gf=>exact one rfl rfl (.pure _ _ .gf) hc
  |oM=>exact one rfl rfl (.pure _ _ .oM) hc
  |rS=>exact one rfl rfl (.pure _ _ .rS) hc
  |iface t v p h=>exact one rfl rfl (.pure _ _ (.iface t v p h)) hc
 |agg vs l h1 h2 h3=>
  simp only [bC,Option.some.injEq]at hc;subst hc;exact .qp _ _ (by simpa [Value.cells]using h1) fun j hj=>by
   have a:=h2 j hj;have b:=h3 j hj;rw [fF]at a b;exact⟨a,b⟩
 |tuple vs l h1 h2=>simp [bC]at hc
 |b7 b o cs f hS hf h1 hr=>exact one rfl rfl (.b7 b o cs f hS hf h1 hr) hc
 |iA b o cs f hS hf h1 hr=>exact one rfl rfl (.iA b o cs f hS hf h1 hr) hc
 |aV a=>exact one rfl rfl (.aV a) hc
 |lits b o cap es l f hS he hes hf h1 hr=>exact one rfl rfl (.lits b o cap es l f hS he hes hf h1 hr) hc
 |ay nm off b h1 h2=>exact one rfl rfl (.ay nm off b h1 h2) hc
 |eC nm es top i off b h1 h2=>exact one rfl rfl (.eC nm es top i off b h1 h2) hc
 |a8 nm es top lo len cap b n e h1 h2 h3 h4 h5 h6=>exact one rfl rfl (.a8 nm es top lo len cap b n e h1 h2 h3 h4 h5 h6) hc
 |gR nm es i len cap b h1 h2 h3=>exact one rfl rfl (.gR nm es i len cap b h1 h2 h3) hc
 |je nm es i j off b h1 h2=>exact one rfl rfl (.je nm es i j off b h1 h2) hc
 |func f a c la lc h1 h2 h3 h4=>exact one rfl rfl (.func f a c la lc h1 h2 h3 h4) hc
 |yield nm b h1 h2=>exact one rfl rfl (.yield nm b h1 h2) hc
 |map nm b h1 h2=>exact one rfl rfl (.map nm b h1 h2) hc
theorem rZ (v:Value):aC w S μ ℓ v (mJ v):=by
 unfold mJ;split
 ·exact .pure _ _ (.int _ _)
 ·exact .pure _ _ (.bool _)
 ·exact .pure _ _ (.str _)
 ·exact .aV _
 ·exact .pure _ _ .qF
 ·exact .pure _ _ .gf
 ·exact .pure _ _ .oM
 ·exact .pure _ _ .rS
 ·exact dK _
theorem fo (v:Value):aC w S μ ℓ v (ofConst v):=by
 unfold ofConst;split
 ·rename_i cs;split
  ·rename_i h;refine fC (.qp _ _ (by simp) fun j hj=> ?_);have hj':j<cs.toList.length:=(by simpa using hj);have e1:cs.toList.getD j undef=cs.toList[j]:=(by rw [List.getD_eq_getElem?_getD,List.getElem?_eq_getElem hj'];rfl);have e2:(cs.toList.map mJ).getD j aP=mJ cs.toList[j]:=(by rw [List.getD_eq_getElem?_getD,List.getElem?_map,List.getElem?_eq_getElem hj'];rfl);rw [e1,e2];exact⟨List.all_eq_true.1 h _ (List.getElem_mem hj'),rZ _⟩
  ·exact dK _
 ·exact rZ _
theorem lq {a:Act}{s:aZ}(hs: ∀t,aC w S μ ℓ (a.tmps.getD t undef) (look s t))(x:Operand):aC w S μ ℓ (a.eval x) (ev s x):=by
 cases x with
 |tmp t=>exact hs t
 |const v=>exact fo v
 |func f=>exact .pure _ _ (.fn f)
 |global g=>exact dK _
end vals
section runs
variable {P:Program} (w:World)
theorem aI {t:TypeId}{d:TypeDesc}(h:P.underlying t=some d):(underlying t).run P w= .ok d w:=run_underlying h w
theorem dg {t:TypeId}{n:Nat}(h:bp P t=some n):(sizeOf t).run P w= .ok n w:=by
 unfold bp at h
 cases hi:P.info? t with
 |none=>simp [hi]at h
 |some i=>simp [hi]at h;simp [sizeOf,typeInfo,hi,h]
theorem y6 {t:TypeId}{n:Nat}(h:jH P t=some n): ∃i,(typeInfo t).run P w= .ok i w∧i.bytes=n:=by
 unfold jH at h
 cases hi:P.info? t with
 |none=>simp [hi]at h
 |some i=>simp [hi]at h;exact⟨i,by simp [typeInfo,hi],h⟩
theorem En {t:TypeId}{b:Bool}(h:eI P t=some b):(isAgg t).run P w= .ok b w:=by
 unfold eI at h
 cases hu:P.underlying t with
 |none=>simp [hu]at h
 |some d=>
  simp only [isAgg,Sem.run_bind,aI w hu,Result.andThen_ok];cases d<;>simp [hu]at h<;>subst h<;>rfl
theorem oI {t:TypeId}{g:GV}(h:cw P t=some g): ∃v,(zeroValue t).run P w= .ok v w∧g=ofConst v:=by
 unfold cw at h
 cases hi:P.info? t with
 |none=>simp [hi]at h
 |some i=>
  cases hz:i.zero with
  |none=>simp [hi,hz]at h
  |some v=>simp [hi,hz]at h;exact⟨v,by simp [zeroValue,typeInfo,hi,hz],h.symm⟩
def m7 (w:World)(b o:Nat)(vs:List Value):Prop:= ∀j v,vs[j]? =some v→w.cell? ⟨b,o+j,none⟩=some v
theorem dD (b o n:Nat):(⟨b,o,none⟩:Addr).add n=⟨b,o+n,none⟩:=by unfold Addr.add;split<;>simp_all
theorem tG {b o:Nat}{vs:List Value}(h:m7 w b o vs):(loadCells ⟨b,o,none⟩ vs.length).run P w= .ok vs.toArray w:=
 run_loadCells_list w _ vs fun j v hv=>by rw [dD];exact h j v hv
theorem w8 {t:TypeId}{b o:Nat}{vs:List Value}(ha:eI P t=some true)(hs:bp P t=some vs.length)(h:m7 w b o vs):
  (loadVar t ⟨b,o,none⟩).run P w= .ok (.agg vs.toArray) w:=by
 simp [loadVar,En w ha,dg w hs,tG w h]
theorem pS {t:TypeId}{b o:Nat}{v:Value}(ha:eI P t=some false)(h:w.cell? ⟨b,o,none⟩=some v):
  (loadVar t ⟨b,o,none⟩).run P w= .ok v w:=by
 simp [loadVar,En w ha,h]
theorem qq {t:TypeId} {b o:Nat} {v:Value} {c:Array Value} {e:TypeId} (hs:bp P t=some v.cells.size) (hg:w.heap[b]? =some (.cells c e (0,0)))
  (hl:o+v.cells.size≤c.size) (h1: ∀u∈v.cells.toList,u.oneCell'=true):
  (storeVar t ⟨b,o,none⟩ v).run P w= .ok () (w.setRow b (aD c.toList o v.cells.toList).toArray):=by
 have:=run_storeCells_at (P:=P) b o e v.cells.toList 0 c w hg (by simpa using hl) h1;simp only [storeVar,Sem.run_bind,dg w hs,Result.andThen_ok,ne_eq,not_true_eq_false,if_false];simpa [aD,Nat.add_zero]using this
end runs
end
section
section
variable {w w':World} {S S':Nat→Prop} {μ μ':Mu} {H:aj}
theorem a9.CD (ℓ:Nat) {nm:Nm} {x:dH} (hH:a9 w S μ H) (hl:nm.1<H.length)
  (ho:w'.os=w.os) (ht:w'.tape=w.tape) (hout:w'.output=w.output) (hsz:w.heap.size≤w'.heap.size)
  (hsub: ∀b,S b→S' b) (hsn: ∀b,S' b→S b∨w.heap.size≤b∨ ∃t,μ nm t=some b) (hsl: ∀b,S' b→b<w'.heap.size)
  (hh: ∀k,k<w.heap.size→(S k∨ ∀t,μ nm t≠some k)→w'.heap[k]? =w.heap[k]?)
  (hsh: ∀b y,w.shape? b=some y→w'.shape? b=some y)
  (hlp: ∀(b:Nat) (r:Loop),w.heap[b]? =some (Obj.loop r)→ ∃r':Loop,w'.heap[b]? =some (Obj.loop r'))
  (hmo: ∀n t,n≠nm→μ' n t=μ n t) (hmu: ∀t b,μ nm t=some b→μ' nm t=some b)
  (hmn: ∀t b,μ' nm t=some b→(∃t',μ nm t'=some b)∨w.heap.size≤b) (hml: ∀t b,μ' nm t=some b→b<w'.heap.size)
  (hx:gJ w' S' μ' nm x):a9 w' S' μ' (H.set nm x)∧Ev ℓ w S μ w' S' μ':=by
 have hw: ∀b,S b→w'.heap[b]? =w.heap[b]? :=fun b hb=>hh b (hH.slt b hb) (.inl hb);have hmm: ∀n t b,μ n t=some b→μ' n t=some b:=fun n t b h=>by
  by_cases e:n=nm
  ·subst e;exact hmu t b h
  ·rw [hmo n t e];exact h
 constructor
 ·constructor
  ·intro n b hb t0 b0 hb0;by_cases e:n=nm
   ·subst e;rw [aj.dU _ hl]at hb;cases hb;exact hx
   ·rw [aj.aJ _ e]at hb;rw [hmo n t0 e]at hb0;refine(hH.jd n b hb t0 b0 hb0).mono hsub hw hsh (fun n t b _ h=>hmm n t b h) (fun t=>hmo n t e) (fun t b' hb'=> ?_) (fun t b' hb' hs=> ?_)
    ·exact hh b' (hH.lt _ _ _ hb') (.inr fun t' h'=>e (hH.iI _ _ _ _ _ hb' h'))
    ·rcases hsn b' hs with h|h|⟨t',h⟩
     ·exact h
     ·have:=hH.lt _ _ _ hb';omega
     ·exact absurd (hH.iI _ _ _ _ _ hb' h) e
  ·intro n t b hb;by_cases e:n=nm
   ·subst e;exact⟨x,aj.dU _ hl⟩
   ·rw [hmo n t e]at hb;obtain⟨y,hy⟩:=hH.lC n t b hb;exact⟨y,by rw [aj.aJ _ e];exact hy⟩
  ·intro n n' t t' b h h';have key: ∀n n' t t' b,n=nm→n'≠nm→μ' n t=some b→μ' n' t'=some b→False:=by
    intro n n' t t' b e e' h h';subst e;rw [hmo n' t' e']at h';rcases hmn t b h with ⟨t2,h2⟩|h2
    ·exact e' (hH.iI _ _ _ _ _ h' h2)
    ·have:=hH.lt _ _ _ h';omega
   by_cases e:n=nm
   ·by_cases e':n'=nm
    ·rw [e,e']
    ·exact(key n n' t t' b e e' h h').elim
   ·by_cases e':n'=nm
    ·exact(key n' n t' t b e' e h' h).elim
    ·rw [hmo n t e]at h;rw [hmo n' t' e']at h';exact hH.iI _ _ _ _ _ h h'
  ·intro n t b h;by_cases e:n=nm
   ·subst e;exact hml t b h
   ·rw [hmo n t e]at h;exact Nat.lt_of_lt_of_le (hH.lt _ _ _ h) hsz
  ·exact hsl
 ·refine⟨ho,ht,hout,hsz,hsub,fun b hb h=> ?_,hsh,hlp,fun n t b _ h=>hmm n t b h,fun n t b h hb=> ?_,fun b h hb=> ?_⟩
  ·rcases h with h|h
   ·exact hw b h
   ·exact hh b hb (.inr fun t=>h nm t)
  ·by_cases e:n=nm
   ·subst e;rcases hmn t b h with ⟨t',h'⟩|h'
    ·exact⟨_,t',h'⟩
    ·omega
   ·rw [hmo n t e]at h;exact⟨n,t,h⟩
  ·rcases hsn b h with h|h|⟨t,h⟩
   ·exact .inl h
   ·omega
   ·exact .inr ⟨nm,t,h⟩
def Mu.lY (μ:Mu)(nm:Nm)(top b:Nat):Mu:=fun n t=>if n=nm∧t=top then some b else μ n t
theorem Mu.bu (μ:Mu)(nm:Nm)(top b:Nat):μ.lY nm top b nm top=some b:=by simp [Mu.lY]
theorem Mu.cW (μ:Mu){nm n:Nm}(top b t:Nat)(h:n≠nm):μ.lY nm top b n t=μ n t:=by simp [Mu.lY,h]
theorem Mu.cD (μ:Mu)(nm:Nm){top t:Nat}(b:Nat)(h:t≠top):μ.lY nm top b nm t=μ nm t:=by simp [Mu.lY,h]
theorem ct (w:World)(o:Obj):(w.alloc o).heap.size=w.heap.size+1:=by show (w.heap.push o).size=_;simp
theorem bU (w:World)(o:Obj)(k:Nat)(h:k<w.heap.size):(w.alloc o).heap[k]? =w.heap[k]? :=by
 show (w.heap.push o)[k]? =_
 rw [Array.getElem?_push,if_neg (by omega)]
theorem cO (w:World)(o:Obj):(w.alloc o).heap[w.heap.size]? =some o:=by
 show (w.heap.push o)[w.heap.size]? =_
 simp
theorem gF (w:World)(o:Obj)(b:Nat)(y:TypeId×Nat)(h:w.shape? b=some y):(w.alloc o).shape? b=some y:=by
 have hb:b<w.heap.size:=by
  rcases Nat.lt_or_ge b w.heap.size with h'|h'
  ·exact h'
  ·simp [World.shape?,Array.getElem?_eq_none h']at h
 unfold World.shape? at h⊢;rw [bU w o b hb];exact h
theorem oJ (w:World)(o:Obj)(b:Nat)(r:Loop)(h:w.heap[b]? =some (Obj.loop r)): ∃r':Loop,(w.alloc o).heap[b]? =some (Obj.loop r'):=by
 have hb:b<w.heap.size:=by
  rcases Nat.lt_or_ge b w.heap.size with h'|h'
  ·exact h'
  ·simp [Array.getElem?_eq_none h']at h
 exact⟨r,by rw [bU w o b hb];exact h⟩
theorem a9.new (ℓ:Nat) (hH:a9 w S μ H) {nm:Nm} (hg:H.get nm=none) (hl:nm.1<H.length) (o:Obj) (top:Nat) (x:dH)
  (hx:gJ (w.alloc o) S (μ.lY nm top w.heap.size) nm x):
  a9 (w.alloc o) S (μ.lY nm top w.heap.size) (H.set nm x)∧Ev ℓ w S μ (w.alloc o) S (μ.lY nm top w.heap.size):=by
 have hno: ∀t b,μ nm t≠some b:=fun t b h=>by obtain⟨y,hy⟩:=hH.lC _ _ _ h;rw [hg]at hy;cases hy
 refine hH.CD ℓ hl rfl rfl rfl (by rw [ct];omega) (fun _ h=>h) (fun b h=> .inl h) (fun b h=>by have:=hH.slt b h;rw [ct];omega)
  (fun k hk _=>bU w o k hk) (gF w o) (oJ w o) (fun n t h=>Mu.cW μ _ _ _ h) (fun t b h=>absurd h (hno t b)) (fun t b h=> ?_) (fun t b h=> ?_) hx
 ·by_cases e:t=top
  ·subst e;rw [Mu.bu]at h;cases h;exact .inr (Nat.le_refl _)
  ·rw [Mu.cD μ nm _ e]at h;exact absurd h (hno t b)
 ·by_cases e:t=top
  ·subst e;rw [Mu.bu]at h;cases h;rw [ct];omega
  ·rw [Mu.cD μ nm _ e]at h;exact absurd h (hno t b)
theorem a9.lit (ℓ:Nat)(hH:a9 w S μ H)(o:Obj):
  a9 (w.alloc o) (fun b=>S b∨b=w.heap.size) μ H∧Ev ℓ w S μ (w.alloc o) (fun b=>S b∨b=w.heap.size) μ:=by
 have hw: ∀b,S b→(w.alloc o).heap[b]? =w.heap[b]? :=fun b hb=>bU w o b (hH.slt b hb);constructor
 ·refine⟨fun n b hb t0 b0 hb0=> ?_,hH.lC,hH.iI,fun n t b h=> ?_,fun b h=> ?_⟩
  ·refine(hH.jd n b hb t0 b0 hb0).mono (fun b h=> .inl h) hw (gF w o) (fun _ _ _ _ h=>h) (fun _=>rfl) (fun t b' h'=>bU w o b' (hH.lt _ _ _ h')) (fun t b' h' hs=> ?_);rcases hs with hs|hs
   ·exact hs
   ·have:=hH.lt _ _ _ h';omega
  ·have:=hH.lt n t b h;rw [ct];omega
  ·rcases h with h|h
   ·have:=hH.slt b h;rw [ct];omega
   ·subst h;rw [ct];omega
 ·exact⟨rfl,rfl,rfl,by rw [ct];omega,fun b h=> .inl h,fun b hb _=>bU w o b hb,gF w o,oJ w o,fun _ _ _ _ h=>h,fun n t b h _=>⟨n,t,h⟩,
   fun b h hb=>by rcases h with h|h;exact .inl h;omega⟩
theorem m9 (w:World) (g:Nat) (c c':Array Value) (e:TypeId) (fr:Nat×Nat) (hg:w.heap[g]? =some (.cells c e fr)) (hs:c'.size=c.size) (b:Nat) (y:TypeId×Nat)
  (h:w.shape? b=some y):(w.setRow g c').shape? b=some y:=by
 unfold World.shape? at h⊢;by_cases e':b=g
 ·subst e';rw [setRow_heap w b c c' e fr hg];rw [hg]at h;simpa [hs]using h
 ·rw [setRow_other w g b c' e'];exact h
theorem Fq (w:World) (g:Nat) (c c':Array Value) (e:TypeId) (fr:Nat×Nat) (hg:w.heap[g]? =some (.cells c e fr)) (b:Nat) (r:Loop)
  (h:w.heap[b]? =some (Obj.loop r)): ∃r':Loop,(w.setRow g c').heap[b]? =some (Obj.loop r'):=by
 by_cases e':b=g
 ·subst e';rw [hg]at h;cases h
 ·exact⟨r,by rw [setRow_other w g b c' e'];exact h⟩
theorem a9.row (ℓ:Nat) (hH:a9 w S μ H) {nm:Nm} {x:dH} (hl:nm.1<H.length) {t b:Nat} (hm:μ nm t=some b) (hS: ¬S b) {c c':Array Value} {e:TypeId} {fr:Nat×Nat}
  (hg:w.heap[b]? =some (.cells c e fr)) (hs:c'.size=c.size) (top:Nat) (hx:gJ (w.setRow b c') S (μ.lY nm top b) nm x)
  (hold: ∀b',μ nm top=some b'→b'=b):
  a9 (w.setRow b c') S (μ.lY nm top b) (H.set nm x)∧Ev ℓ w S μ (w.setRow b c') S (μ.lY nm top b):=by
 refine hH.CD ℓ hl rfl rfl rfl (by simp) (fun _ h=>h) (fun b h=> .inl h) (fun b h=>by simpa using hH.slt b h) (fun k hk ho=> ?_) (m9 w b c c' e fr hg hs)
  (Fq w b c c' e fr hg) (fun n t h=>Mu.cW μ _ _ _ h) (fun t' b' h=> ?_) (fun t' b' h=> ?_) (fun t' b' h=> ?_) hx
 ·refine setRow_other w b k c' fun e'=> ?_;subst e';rcases ho with ho|ho
  ·exact hS ho
  ·exact ho t hm
 ·by_cases e':t'=top
  ·subst e';rw [Mu.bu,hold b' h]
  ·rw [Mu.cD μ nm _ e'];exact h
 ·by_cases e':t'=top
  ·subst e';rw [Mu.bu]at h;cases h;exact .inl ⟨t,hm⟩
  ·rw [Mu.cD μ nm _ e']at h;exact .inl ⟨t',h⟩
 ·by_cases e':t'=top
  ·subst e';rw [Mu.bu]at h;cases h;simpa using hH.lt _ _ _ hm
  ·rw [Mu.cD μ nm _ e']at h;simpa using hH.lt _ _ _ h
theorem a9.freeze (ℓ:Nat)(hH:a9 w S μ H){nm:Nm}{es:Nat}{elems:List (List PV)}{vf:Nat}{ro:Bool}(hg:H.get nm=some (.arr es elems vf ro)){t0 b0:Nat}(hb0:μ nm t0=some b0):
  a9 w (fun b=>S b∨ ∃t,μ nm t=some b) μ (H.set nm (.arr es elems vf true))∧Ev ℓ w S μ w (fun b=>S b∨ ∃t,μ nm t=some b) μ:=by
 refine hH.CD ℓ (aj.bL hg) rfl rfl rfl (Nat.le_refl _) (fun b h=> .inl h) (fun b h=>h.imp id .inr) (fun b h=> ?_) (fun _ _ _=>rfl) (fun _ _ h=>h) (fun b r h=>⟨r,h⟩)
  (fun _ _ _=>rfl) (fun _ _ h=>h) (fun t b h=> .inl ⟨t,h⟩) (fun t b h=>hH.lt _ _ _ h) ?_
 ·rcases h with h|⟨t,h⟩
  ·exact hH.slt b h
  ·exact hH.lt _ _ _ h
 ·obtain⟨h0,h1,h2,h3,h4⟩:=hH.jd _ _ hg _ _ hb0;refine⟨h0,h1,h2,h3,fun top b hb=> ?_⟩;obtain⟨g1,g2,g3,g4⟩:=h4 top b hb;refine⟨g1,g2,fun h=>by simp at h,fun hv=>⟨fun _=> .inr ⟨top,hb⟩,fun i j hi hj=> ?_⟩⟩;obtain⟨u,u1,u2,u3⟩:=(g4 hv).2 i j hi hj;exact⟨u,u1,u2,u3.mono (fun b h=> .inl h) (fun _ _=>rfl)⟩
theorem A6 (hH:a9 w S μ H) {ℓ:Nat} {v:Value} {nm:Nm} {es top lo len:Nat} (hv:aC w S μ ℓ v (.a8 nm es top lo len)) (hS': ∀b,S b→S' b)
  (hall: ∀t b,μ nm t=some b→S' b):cf w S' v (jU H nm es top lo len):=by
 unfold jU;split
 ·rename_i es' elems vf ro hg;split
  ·rename_i hc;obtain⟨rfl,hvf,hlen,htop⟩:=hc
   cases hv with
   |a8 _ _ _ _ _ cap b n e h1 h2 h3 h4 h5 h6=>
   obtain⟨h0,k1,k2,k3,k4⟩:=hH.jd _ _ hg _ _ h2;obtain⟨g1,g2,g3,g4⟩:=k4 top b h2;obtain⟨_,g5⟩:=g4 hvf;by_cases hz:len=0
   ·subst hz;simp;exact .fD _ _
   ·have hlen2:((elems.drop lo).take len).length=len:=(by simp;omega);have hget: ∀i,i<len→(((elems.drop lo).take len).getD i [])=elems.getD (lo+i) []:=fun i hi=>by
     simp [List.getD_eq_getElem?_getD,List.getElem?_take,hi,List.getElem?_drop]
    have:=cf.slice (w:=w) (S:=S') b (lo*es') cap es' ((elems.drop lo).take len) (fun i j=>(w.cell? ⟨b,(lo+i)*es'+j,none⟩).getD undef) (hall _ _ h2) h0
     (fun r hr=>k1 r (List.mem_of_mem_drop (List.mem_of_mem_take hr)))
     (fun i j hi hj=>by
      rw [hlen2]at hi;obtain⟨u,u1,u2,u3⟩:=g5 (lo+i) j (by omega) hj;have e:lo*es'+(i*es'+j)=(lo+i)*es'+j:=(by rw [Nat.add_mul];omega);rw [e,u1];rfl)
     (fun i j hi hj=>by
      rw [hlen2]at hi;obtain⟨u,u1,u2,u3⟩:=g5 (lo+i) j (by omega) hj;simp only [u1,Option.getD_some];exact u2)
     (fun i j hi hj=>by
      rw [hlen2]at hi;obtain⟨u,u1,u2,u3⟩:=g5 (lo+i) j (by omega) hj;simp only [u1,Option.getD_some,hget i hi];exact u3.mono hS' (fun _ _=>rfl))
     (by rw [hlen2];omega)
    rw [hlen2]at this;exact this
  ·exact .dead _
 ·exact .dead _
theorem Il {b es:Nat}{r:List (List PV)}{cap:Nat}(hr:oQ w S b es r)(hpos:0<es)(hw: ∀x∈r,x.length=es)(hc:r.length≤cap)(hS': ∀b,S b→S' b)(hb:S' b):
  cf w S' (.slice (some ⟨b,0,none⟩) r.length cap) (.slice r):=by
 obtain⟨_,_,h3⟩:=hr;refine cf.slice (w:=w) (S:=S') b 0 cap es r (fun i j=>(w.cell? ⟨b,i*es+j,none⟩).getD undef) hb hpos hw (fun i j hi hj=> ?_) (fun i j hi hj=> ?_) (fun i j hi hj=> ?_) hc
 ·obtain⟨u,u1,u2,u3⟩:=h3 i j hi hj;rw [Nat.zero_add,u1];rfl
 ·obtain⟨u,u1,u2,u3⟩:=h3 i j hi hj;simp only [u1,Option.getD_some];exact u2
 ·obtain⟨u,u1,u2,u3⟩:=h3 i j hi hj;simp only [u1,Option.getD_some];exact u3.mono hS' (fun _ _=>rfl)
theorem xZ (hH:a9 w S μ H) {ℓ:Nat} {v:Value} {nm:Nm} {es top lo len:Nat} (hv:aC w S μ ℓ v (.a8 nm es top lo len)) (hS': ∀b,S b→S' b)
  (hall: ∀t b,μ nm t=some b→S' b):cf w S' v (hJ H nm es top lo len):=by
 unfold hJ;split
 ·rename_i es' rows n hg;split
  ·rename_i hc;obtain⟨rfl,hlen,htop⟩:=hc
   cases hv with
   |a8 _ _ _ _ _ cap b n e h1 h2 h3 h4 h5 h6=>
   have m:cY w S μ nm es' rows _:=hH.jd _ _ hg _ _ h2;have hml:=m.le;obtain⟨g1,g2,g3,g4,g5⟩:=m.top top b (by have:=m.Fe;omega) h2;by_cases hz:len=0
   ·subst hz;simp;exact .fD _ _
   ·have hlen2:(((rows.drop lo).take len).map fun r=> [PV.slice r]).length=len:=(by simp;omega);have hget: ∀i,i<len→((((rows.drop lo).take len).map fun r=> [PV.slice r]).getD i [])=[.slice (rows.getD (lo+i) [])]:=fun i hi=>by
     have:lo+i<rows.length:=(by omega);simp [List.getD_eq_getElem?_getD,List.getElem?_take,hi,List.getElem?_drop,this]
    have:=cf.slice (w:=w) (S:=S') b (lo*1) cap 1 (((rows.drop lo).take len).map fun r=> [PV.slice r]) (fun i j=>(w.cell? ⟨b,lo+i,none⟩).getD undef) (hall _ _ h2) (by omega)
     (fun r hr=>by obtain⟨x,_,rfl⟩:=List.mem_map.1 hr;rfl)
     (fun i j hi hj=>by
      rw [hlen2]at hi;obtain⟨bi,cp,u1,u2,u3⟩:=g5 (lo+i) (by omega);obtain rfl:j=0:=(by omega);have e:lo*1+(i*1+0)=lo+i:=(by omega);rw [e,u1];rfl)
     (fun i j hi hj=>by
      rw [hlen2]at hi;obtain⟨bi,cp,u1,u2,u3⟩:=g5 (lo+i) (by omega);simp only [u1,Option.getD_some];rfl)
     (fun i j hi hj=>by
      rw [hlen2]at hi;obtain⟨bi,cp,u1,u2,u3⟩:=g5 (lo+i) (by omega);obtain rfl:j=0:=(by omega);rw [hget i hi];simp only [u1,Option.getD_some,List.getD_cons_zero];obtain⟨b',k1,k2⟩:=m.row (lo+i) (by omega);rw [u2]at k1;cases k1;refine Il k2 m.pos (fun x hx=> ?_) u3 hS' (hall _ _ u2);have hlt:lo+i<rows.length:=(by omega);rw [List.getD_eq_getElem?_getD,List.getElem?_eq_getElem hlt]at hx;exact m.wid _ (List.getElem_mem hlt) x hx)
     (by rw [hlen2];omega)
    rw [hlen2]at this;exact this
  ·exact .dead _
 ·exact A6 hH hv hS' hall
theorem mL {nm:Nm}{es top lo len:Nat}:(dC H (.a8 nm es top lo len))=
  match H.get nm with
  |some (.arr es' elems vf _)=>if es'=es∧vf≤top∧lo+len≤top∧top≤elems.length then (.slice ((elems.drop lo).take len),H.set nm (.arr es' elems vf true))else (.dead,H)
  |_=>(.dead,H):=rfl
def eP (H H1:aj):Prop:=H1.length=H.length∧(∀nm cs,H.get nm=some (.box cs)→H1.get nm=some (.box cs))∧(∀nm,(H.get nm).isSome→(H1.get nm).isSome)
theorem eP.refl (H:aj):eP H H:=⟨rfl,fun _ _ h=>h,fun _ h=>h⟩
theorem eP.trans {H1 H2 H3:aj}(h:eP H1 H2)(k:eP H2 H3):eP H1 H3:=
 ⟨k.1.trans h.1,fun nm cs hg=>k.2.1 nm cs (h.2.1 nm cs hg),fun nm hg=>k.2.2 nm (h.2.2 nm hg)⟩
theorem nr (ℓ:Nat)(hH:a9 w S μ H){k:Nat}{v:Value}{g:GV}(hv:aC w S μ k v g):
  ∃S',a9 w S' μ (dC H g).2∧Ev ℓ w S μ w S' μ∧cf w S' v (dC H g).1∧eP H (dC H g).2:=by
 have triv: ∀p,cf w S v p→ ∃S',a9 w S' μ H∧Ev ℓ w S μ w S' μ∧cf w S' v p∧eP H H:=fun p hp=>⟨S,hH, .refl _ _ _ _,hp, .refl H⟩
 cases g with
 |pure p=>exact triv p hv.pv
 |aV=>cases hv with|aV a=>exact triv _ (.fD a 0)
 |a8 nm es top lo len=>
  rw [mL];have hs:=A6 (S':=fun b=>S b∨ ∃t,μ nm t=some b) hH hv (fun b h=> .inl h) (fun t b h=> .inr ⟨t,h⟩);unfold jU at hs;split
  ·rename_i es' elems vf ro hg;rw [hg]at hs;simp only at hs;split
   ·rename_i hc;rw [if_pos hc]at hs;obtain⟨tb,bb,hbb⟩: ∃t b,μ nm t=some b:=(by cases hv with|a8 _ _ _ _ _ cap b n e h1 h2 h3 h4 h5 h6=>exact⟨_,_,h2⟩);obtain⟨h1,h2⟩:=hH.freeze ℓ hg hbb;refine⟨_,h1,h2,hs,aj.length_set _ _ _,fun n cs hn=> ?_,fun n hn=> ?_⟩
    ·rw [aj.aJ];exact hn;intro e;subst e;rw [hg]at hn;cases hn
    ·by_cases e:n=nm
     ·subst e;rw [aj.dU _ (aj.bL hg)];rfl
     ·rw [aj.aJ _ e];exact hn
   ·exact triv _ (.dead v)
  ·exact triv _ (.dead v)
 |_=>exact triv _ (.dead v)
theorem iH (ℓ:Nat): ∀{gs:List GV} {vs:List Value} {S:Nat→Prop} {H:aj} {k:Nat},a9 w S μ H→bT w S μ k vs gs→
  ∃S',a9 w S' μ (bO H gs).2∧Ev ℓ w S μ w S' μ∧bT w S' μ k vs ((bO H gs).1.map .pure)∧eP H (bO H gs).2
 | [],vs,S,H,k,hH,hc=>by cases hc;exact⟨S,hH, .refl _ _ _ _, .nil, .refl H⟩
 |g::gs,vs,S,H,k,hH,hc=>by
  cases hc with
  |cons h1 h2 h3=>
  obtain⟨S1,a1,a2,a3,a4⟩:=nr ℓ hH h2;have h3':bT w S1 μ k _ gs:=h3.mono a2.sub (fun _ _=>rfl) (fun _ _ h=>h) (fun _ _ _ _ h=>h) (Nat.le_refl _);obtain⟨S2,b1,b2,b3,b4⟩:=iH ℓ a1 h3';refine⟨S2,b1,a2.trans b2, ?_,a4.trans b4⟩;exact .cons h1 (.pure _ _ (a3.mono b2.sub (fun _ _=>rfl))) b3
theorem jQ {l0:Nat}{k:Nat}: ∀{gs:List GV} {f:Nat→Value},dE l0 gs=true→(∀j,j<gs.length→aC w S μ k (f j) (gs.getD j aP))→
  ∀j,j<gs.length→aC w S μ l0 (f j) (gs.getD j aP)
 | [],f,_,h=>by simp
 |g::gs,f,ha,h=>by
  have hrec:dE l0 gs=true→ ∀j,j<gs.length→aC w S μ l0 (f (j+1)) (gs.getD j aP):=fun ha'=>
   jQ (f:=fun j=>f (j+1)) ha' (fun j hj=>by simpa using h (j+1) (by simpa using hj))
  have h0:aC w S μ k (f 0) g:=(by simpa using h 0 (by simp));have main:aC w S μ l0 (f 0) g∧dE l0 gs=true:=by
   generalize f 0=v at h0
   cases h0 with
   |pure _ p hp=>exact⟨.pure _ _ hp,by simpa [dE]using ha⟩
   |b7 b o cs f' hS hf h1 hr=>exact⟨.b7 b o cs f' hS hf h1 hr,by simpa [dE]using ha⟩
   |aV a=>exact⟨.aV a,by simpa [dE]using ha⟩
   |ay nm off b h1 h2=>simp [dE]at ha;exact⟨.ay nm off b ha.1 h2,ha.2⟩
   |eC nm es top i off b h1 h2=>simp [dE]at ha;exact⟨.eC nm es top i off b ha.1 h2,ha.2⟩
   |a8 nm es top lo len cap b n e h1 h2 h3 h4 h5 h6=>simp [dE]at ha;exact⟨.a8 nm es top lo len cap b n e ha.1 h2 h3 h4 h5 h6,ha.2⟩
   |yield nm b h1 h2=>simp [dE]at ha;exact⟨.yield nm b ha.1 h2,ha.2⟩
   |map nm b h1 h2=>simp [dE]at ha;exact⟨.map nm b ha.1 h2,ha.2⟩
   |_=>simp [dE]at ha
  intro j hj
  cases j with
  |zero=>simpa using main.1
  |succ j=>simpa using hrec main.2 j (by simpa using hj)
theorem qK {k l0:Nat} {v:Value} {g:GV} (hv:aC w S μ k v g) (hS': ∀b,S b→S' b)
  (hall: ∀nm es top lo len,g= .a8 nm es top lo len→ ¬nm.1≤l0→cf w S' v (hJ H nm es top lo len)):
  aC w S' μ l0 v (cI H l0 g):=by
 have up: ∀{v g},aC w S μ l0 v g→aC w S' μ l0 v g:=fun h=>h.mono hS' (fun _ _=>rfl) (fun _ _ h=>h) (fun _ _ _ _ h=>h) (Nat.le_refl _)
 cases hv with
 |pure _ p hp=>exact up (.pure _ _ hp)
 |b7 b o cs f hS hf h1 hr=>exact up (.b7 b o cs f hS hf h1 hr)
 |iA b o cs f hS hf h1 hr=>
  simp only [cI];split
  ·rename_i ha;exact up (.iA b o cs f hS hf h1 (jQ ha hr))
  ·exact dK _
 |aV a=>exact up (.aV a)
 |lits b o cap es l f hS he hes hf h1 hr=>
  simp only [cI];split
  ·rename_i ha;refine up (.lits b o cap es l f hS he hes hf h1 fun i j hi hj=> ?_);have hi':l[i]∈l:=List.getElem_mem hi;have e:l.getD i []=l[i]:=(by simp [List.getD_eq_getElem?_getD,hi]);have hl:(l[i]).length=es:=hes _ hi';rw [e];refine jQ (k:=k) (f:=f i) (List.all_eq_true.1 ha _ hi') (fun j hj=> ?_) j (by omega);have:=hr i j hi (by omega)
   rwa [e]at this
  ·exact dK _
 |ay nm off b h1 h2=>simp only [cI];split;exact up (.ay nm off b ‹_› h2);exact dK _
 |eC nm es top i off b h1 h2=>simp only [cI];split;exact up (.eC nm es top i off b ‹_› h2);exact dK _
 |a8 nm es top lo len cap b n e h1 h2 h3 h4 h5 h6=>
  simp only [cI];split
  ·exact up (.a8 nm es top lo len cap b n e ‹_› h2 h3 h4 h5 h6)
  ·rename_i hl;exact .pure _ _ (hall nm es top lo len rfl hl)
 |agg vs l h h1 hr=>exact dK _
 |tuple vs l h hr=>exact dK _
 |func f a c la lc h1 h2 hr1 hr2=>
  simp only [cI];split
  ·rename_i ha;simp only [Bool.and_eq_true]at ha;exact up (.func f a c la lc h1 h2 (jQ ha.1 hr1) (jQ ha.2 hr2))
  ·exact dK _
 |yield nm b h1 h2=>simp only [cI];split;exact up (.yield nm b ‹_› h2);exact dK _
 |map nm b h1 h2=>simp only [cI];split;exact up (.map nm b ‹_› h2);exact dK _
 |gR nm es i len cap b h1 h2 h3=>simp only [cI];split;exact up (.gR nm es i len cap b ‹_› h2 h3);exact dK _
 |je nm es i j off b h1 h2=>simp only [cI];split;exact up (.je nm es i j off b ‹_› h2);exact dK _
theorem qL (hH:a9 w S μ H){k l0:Nat}{v:Value}{g:GV}(hv:aC w S μ k v g)(hS': ∀b,S b→S' b)(hall: ∀nm t b,l0<nm.1→μ nm t=some b→S' b):
  aC w S' μ l0 v (cI H l0 g):=
 qK hv hS' fun nm es top lo len e hl=>by subst e;exact xZ hH hv hS' (fun t b h=>hall nm t b (by omega) h)
theorem zk (hH:a9 w S μ H) {k l0:Nat} (hS': ∀b,S b→S' b) (hall: ∀nm t b,l0<nm.1→μ nm t=some b→S' b) {vs:List Value} {gs:List GV}
  (h:bT w S μ k vs gs):bT w S' μ l0 vs (gs.map (cI H l0)):=by
 induction h with
 |nil=>exact .nil
 |cons h1 h2 _ ih=>exact .cons h1 (qL hH h2 hS' hall) ih
theorem aC.cells {k:Nat}{v:Value}{l:List GV}(h:aC w S μ k v (.agg l)): ∃vs:Array Value,v= .agg vs∧bT w S μ k vs.toList l:=by
 cases h with
 |agg vs _ h1 h2 h3=>
  exact⟨vs,rfl, .qp _ _ (by simpa using h1) fun j hj=>by
   have a:=h2 j hj;have b:=h3 j hj;rw [fF]at a b;exact⟨a,b⟩⟩
theorem Im (hH:a9 w S μ H) {k l0:Nat} {v:Value} {g g':GV} (hv:aC w S μ k v g) (hS': ∀b,S b→S' b) (hall: ∀nm t b,l0<nm.1→μ nm t=some b→S' b)
  (h:rU H l0 g=some g'):aC w S' μ l0 v g':=by
 have up: ∀{v g},aC w S μ l0 v g→aC w S' μ l0 v g:=fun h=>h.mono hS' (fun _ _=>rfl) (fun _ _ h=>h) (fun _ _ _ _ h=>h) (Nat.le_refl _)
 cases hv with
 |pure _ p hp=>simp only [rU,Option.some.injEq]at h;subst h;exact up (.pure _ _ hp)
 |b7 b o cs f hS hf h1 hr=>simp only [rU,Option.some.injEq]at h;subst h;exact up (.b7 b o cs f hS hf h1 hr)
 |aV a=>simp only [rU,Option.some.injEq]at h;subst h;exact up (.aV a)
 |ay nm off b h1 h2=>
  simp only [rU]at h;split at h
  ·simp only [Option.some.injEq]at h;subst h;exact up (.ay nm off b ‹_› h2)
  ·rename_i hl;split at h
   ·rename_i cs hg;split at h
    ·rename_i ps hps;split at h
     ·rename_i ho;simp only [Option.some.injEq]at h;subst h;obtain⟨b',c,e,q1,_,q3,q4⟩:=hH.jd nm _ hg 0 b h2;rw [h2]at q1;cases q1;rw [fq hps]at q4;obtain⟨z1,z2⟩:=bT.pT _ _ q4;refine .b7 b off (ps.drop off) (fun j=>c.toList.getD (off+j) undef) (fun _=>hall nm 0 b (by omega) h2) (fun j hj=> ?_) (fun j hj=> ?_) (fun j hj=> ?_)
      ·have hj':off+j<c.toList.length:=(by rw [z1];simp at hj;omega);have this:c.toList[off+j]? =some (c.toList.getD (off+j) undef):=(by rw [List.getD_eq_getElem?_getD,List.getElem?_eq_getElem hj'];rfl);simp only [World.cell?,q3];simpa using this
      ·exact(z2 (off+j) (by simp at hj;omega)).1
      ·have:=(z2 (off+j) (by simp at hj;omega)).2;have e:(ps.drop off).getD j .dead=ps.getD (off+j) .dead:=(by simp [List.getD_eq_getElem?_getD,List.getElem?_drop]);rw [e];exact this.mono hS' (fun _ _=>rfl)
     ·cases h
    ·cases h
   ·cases h
 |_=>simp [rU]at h
theorem x6 (hH:a9 w S μ H){k l0:Nat}(hS': ∀b,S b→S' b)(hall: ∀nm t b,l0<nm.1→μ nm t=some b→S' b):
  ∀{gs gs':List GV} {f:Nat→Value},pV H l0 gs=some gs'→(∀j,j<gs.length→aC w S μ k (f j) (gs.getD j aP))→gs'.length=gs.length∧ ∀j,j<gs'.length→aC w S' μ l0 (f j) (gs'.getD j aP)
 | [],gs',f,h,_=>by
  simp only [pV,Option.some.injEq]at h;subst h;exact⟨rfl,fun j hj=>absurd hj (Nat.not_lt_zero _)⟩
 |g::gs,gs',f,h,hr=>by
  simp only [pV]at h;split at h
  ·rename_i g1 r1 e1 e2;simp only [Option.some.injEq]at h;subst h;obtain⟨a,b⟩:=x6 hH hS' hall (f:=fun j=>f (j+1)) e2 (fun j hj=>by simpa using hr (j+1) (by simpa using hj));refine⟨by simp [a],fun j hj=> ?_⟩
   cases j with
   |zero=>simpa using Im hH (by simpa using hr 0 (by simp)) hS' hall e1
   |succ j=>simpa using b j (by simpa using hj)
  ·cases h
theorem vV (hH:a9 w S μ H){k l0:Nat}{v:Value}{g:GV}(hv:aC w S μ k v g)(hS': ∀b,S b→S' b)(hall: ∀nm t b,l0<nm.1→μ nm t=some b→S' b):
  aC w S' μ l0 v (iB H l0 g):=by
 cases g with
 |agg l=>
  obtain⟨vs,rfl,hc⟩:=hv.cells;exact fC (zk hH hS' hall hc)
 |func f la lc=>
  simp only [iB];split
  ·rename_i ha;have:=qL (l0:=l0) hH hv hS' hall;simpa only [cI,ha,if_true]using this
  ·split
   ·rename_i hf;split
    ·rename_i cap' hc
     cases hv with
     |func _ a c _ _ h1 h2 hr1 hr2=>
      obtain⟨e1,e2⟩:=x6 hH hS' hall hc hr2;exact .func f a c la cap' h1 (by rw [e1];exact h2) (fun j hj=>(jQ hf hr1 j hj).mono hS' (fun _ _=>rfl) (fun _ _ h=>h) (fun _ _ _ _ h=>h) (Nat.le_refl _)) e2
    ·exact dK _
   ·exact dK _
 |_=>exact qL hH hv hS' hall
theorem Fs (hH:a9 w S μ H){k l0:Nat}{v:Value}{g:GV}(hv:aC w S μ k v g)(hS': ∀b,S b→S' b)(hall: ∀nm t b,l0<nm.1→μ nm t=some b→S' b):
  aC w S' μ l0 v (clean H l0 g):=by
 cases g with
 |tuple l=>
  cases hv with
  |tuple vs _ h1 h2=>
   refine iZ (by simpa using h1) fun j hj=> ?_;have hj':j<l.length:=(by simpa using hj);have e:(l.map (iB H l0)).getD j aP=iB H l0 (l.getD j aP):=(by simp [List.getD_eq_getElem?_getD,hj']);rw [e];exact vV hH (h2 j hj') hS' hall
 |_=>exact vV hH hv hS' hall
theorem pX (ℓ:Nat)(hH:a9 w S μ H){k:Nat}{v:Value}{g:GV}(l0:Nat)(hv:aC w S μ k v g):
  ∃S',a9 w S' μ (eZ H l0 g).2∧Ev ℓ w S μ w S' μ∧aC w S' μ l0 v (eZ H l0 g).1∧eP H (eZ H l0 g).2:=by
 cases g with
 |a8 nm es top lo len=>
  simp only [eZ];split
  ·rename_i hl;refine⟨S,hH, .refl _ _ _ _, ?_, .refl H⟩
   cases hv with
   |a8 _ _ _ _ _ cap b n e h1 h2 h3 h4 h5 h6=>exact .a8 nm es top lo len cap b n e hl h2 h3 h4 h5 h6
  ·obtain⟨S',a1,a2,a3,a4⟩:=nr ℓ hH hv;exact⟨S',a1,a2, .pure _ _ a3,a4⟩
 |_=>exact⟨S,hH, .refl _ _ _ _,qK (H:=H) hv (fun _ h=>h) (fun nm es top lo len e _=>by cases e), .refl H⟩
theorem lj (ℓ l0:Nat): ∀{gs:List GV} {vs:List Value} {S:Nat→Prop} {H:aj} {k:Nat},a9 w S μ H→bT w S μ k vs gs→
  ∃S',a9 w S' μ (da H l0 gs).2∧Ev ℓ w S μ w S' μ∧bT w S' μ l0 vs (da H l0 gs).1∧eP H (da H l0 gs).2
 | [],vs,S,H,k,hH,hc=>by cases hc;exact⟨S,hH, .refl _ _ _ _, .nil, .refl H⟩
 |g::gs,vs,S,H,k,hH,hc=>by
  cases hc with
  |cons h1 h2 h3=>
  obtain⟨S1,a1,a2,a3,a4⟩:=pX ℓ hH l0 h2;have h3':bT w S1 μ k _ gs:=h3.mono a2.sub (fun _ _=>rfl) (fun _ _ h=>h) (fun _ _ _ _ h=>h) (Nat.le_refl _);obtain⟨S2,b1,b2,b3,b4⟩:=lj ℓ l0 a1 h3';exact⟨S2,b1,a2.trans b2, .cons h1 (a3.mono b2.sub (fun _ _=>rfl) (fun _ _ h=>h) (fun _ _ _ _ h=>h) (Nat.le_refl _)) b3,a4.trans b4⟩
end
end
end Go.Gh
