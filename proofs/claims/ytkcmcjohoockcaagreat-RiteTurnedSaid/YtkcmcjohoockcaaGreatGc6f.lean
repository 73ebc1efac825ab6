/- Texts joined: the evaluator over ghost values, its soundness, the walks. Spaces struck and names made short by a program, for the size. -/
import Derived.Test.YtkcmcjohoockcaaGreatGc6e
import Derived.Test.YtkcmcjohoockcaaGreatProg
import Derived.KernelRfl
import Derived.IntWalk
namespace Go.Gh
open Go.Proofs
set_option linter.unusedVariables false
set_option linter.unusedSimpArgs false
set_option linter.unnecessarySimpa false
set_option maxRecDepth 100000
set_option maxHeartbeats 8000000
section
section
variable {K:Ctx} {fn:FuncId} {rec:Rec} {dst:Option Tmp} {ty:TypeId} {pos:String} {af:Array Edge} {gu:Option (Nat×Bool)} {s:aZ} {H:ai}
def wz (P:Program)(t:TypeId):Option (Option Nat×Option Nat×Option Nat):=(dz P t).map fun e=>(bu P e,jL P e,tZ P e)
def apV (lv:Option Nat)(k:Nat→Option (GV×ai)):Option (GV×ai):=match lv with|some l=>k l|none=>none
@[congr] theorem acj {lv lv':Option Nat}{k:Nat→Option (GV×ai)}(h: ∀_:Unit,lv=lv'):apV lv k=apV lv' k:=by rw [h ()]
@[simp] theorem Zn {l:Nat}{k:Nat→Option (GV×ai)}:apV (some l) k=k l:= .trans rfl rfl
def Gw (ta:Option (Option Nat×Option Nat×Option Nat))(xs:Option (List (List PV)×ai))(k:Nat→Nat→List (List PV)→ai→Option (GV×ai)):Option (GV×ai):=
 match ta,xs with
 |some (some size,some bytes,zs),some (xs,H)=>
  if zs=some size∧(xs.all fun r=>r.length==size)=true∧0<size∧0<bytes∧bytes≤1048576 then k size bytes xs H else none
 |_,_=>none
@[congr] theorem abr {ta ta':Option (Option Nat×Option Nat×Option Nat)}{xs xs':Option (List (List PV)×ai)}{k:Nat→Nat→List (List PV)→ai→Option (GV×ai)}(h: ∀_:Unit,ta=ta')(h': ∀_:Unit,xs=xs'):Gw ta xs k=Gw ta' xs' k:=by rw [h (),h' ()]
@[simp] theorem VZ {size bytes:Nat}{zs:Option Nat}{xs:List (List PV)}{k:Nat→Nat→List (List PV)→ai→Option (GV×ai)}:Gw (some (some size,some bytes,zs)) (some (xs,H)) k=
  if zs=some size∧(xs.all fun r=>r.length==size)=true∧0<size∧0<bytes∧bytes≤1048576 then k size bytes xs H else none:= .trans rfl rfl
def zW (l key:Nat)(s:GV)(size bytes:Nat)(xs:List (List PV))(H:ai):Option (GV×ai):=
 match s with
 | .aS=>
  if xs.length*bytes≤1099511627776 then (if xs.isEmpty then some (.aS,H)else rn (kn H l key (.arr size xs 0 false)) fun nm=> .bd nm size xs.length 0 xs.length)else none
 | .bd nm es top lo len=>
  (match H.get nm with
  |some (.arr es' elems vf ro)=>
   if es'=size∧es=size∧top=elems.length∧lo=0∧len=top∧vf≤top∧ro=false∧(len+xs.length)*bytes≤1099511627776 then
    (if xs.isEmpty then some (.bd nm es top lo len,H)else some (.bd nm es (top+xs.length) 0 (top+xs.length),H.set nm (.arr es' (elems++xs) vf false)))
   else if es'=size∧es=size∧top=elems.length∧vf≤top∧ro=false∧lo+len+xs.length≤top then
    (if xs.isEmpty then some (.bd nm es top lo len,H)else some (.bd nm es top lo (len+xs.length),H.set nm (.arr es' (aH elems (lo+len) xs) top false)))
   else none
  |_=>none)
 |_=>none
@[simp] theorem Im {l key size bytes:Nat}{xs:List (List PV)}:zW l key .aS size bytes xs H=
  if xs.length*bytes≤1099511627776 then (if xs.isEmpty then some (.aS,H)else rn (kn H l key (.arr size xs 0 false)) fun nm=> .bd nm size xs.length 0 xs.length)else none:= .trans rfl rfl
def Zo (H:ai)(nm:Nm)(es top lo len size bytes:Nat)(xs:List (List PV))(b:Option dB):Option (GV×ai):=match b with
  |some (.arr es' elems vf ro)=>
   if es'=size∧es=size∧top=elems.length∧lo=0∧len=top∧vf≤top∧ro=false∧(len+xs.length)*bytes≤1099511627776 then
    (if xs.isEmpty then some (.bd nm es top lo len,H)else some (.bd nm es (top+xs.length) 0 (top+xs.length),H.set nm (.arr es' (elems++xs) vf false)))
   else if es'=size∧es=size∧top=elems.length∧vf≤top∧ro=false∧lo+len+xs.length≤top then
    (if xs.isEmpty then some (.bd nm es top lo len,H)else some (.bd nm es top lo (len+xs.length),H.set nm (.arr es' (aH elems (lo+len) xs) top false)))
   else none
  |_=>none
@[congr] theorem ack {nm:Nm}{es top lo len size bytes:Nat}{xs:List (List PV)}{b b':Option dB}(h: ∀_:Unit,b=b'):Zo H nm es top lo len size bytes xs b=Zo H nm es top lo len size bytes xs b':=by rw [h ()]
@[simp] theorem abt {nm:Nm}{es top lo len size bytes:Nat}{xs:List (List PV)}{es' vf:Nat}{elems:List (List PV)}{ro:Bool}:Zo H nm es top lo len size bytes xs (some (.arr es' elems vf ro))=
      if es'=size∧es=size∧top=elems.length∧lo=0∧len=top∧vf≤top∧ro=false∧(len+xs.length)*bytes≤1099511627776 then
        (if xs.isEmpty then some (.bd nm es top lo len,H)else some (.bd nm es (top+xs.length) 0 (top+xs.length),H.set nm (.arr es' (elems++xs) vf false)))
      else if es'=size∧es=size∧top=elems.length∧vf≤top∧ro=false∧lo+len+xs.length≤top then
        (if xs.isEmpty then some (.bd nm es top lo len,H)else some (.bd nm es top lo (len+xs.length),H.set nm (.arr es' (aH elems (lo+len) xs) top false)))
      else none:= .trans rfl rfl
@[simp] theorem abu {l key size bytes:Nat}{xs:List (List PV)}{nm:Nm}{es top lo len:Nat}:zW l key (.bd nm es top lo len) size bytes xs H=Zo H nm es top lo len size bytes xs (H.get nm):=by
 unfold zW Zo;rfl
theorem Bu {l key:Nat}{t:TypeId}{a x:GV}:pJ K H l key t a x=Gw (wz K.P t) (iq H x) (zW l key a):=by
 unfold pJ wz
 cases dz K.P t with
 |none=>rfl
 |some e=>
  simp only [Option.map_some]
  cases bu K.P e with
  |none=>rfl
  |some size=>
   cases jL K.P e with
   |none=>rfl
   |some bytes=>
    cases iq H x with
    |none=>rfl
    |some y=>
     obtain⟨xs,H1⟩:=y;simp only [Gw];by_cases hc:tZ K.P e=some size∧(xs.all fun r=>r.length==size)=true∧0<size∧0<bytes∧bytes≤1048576
     ·obtain⟨h1,h2,h3,h4,h5⟩:=hc;simp only [h1,h2,h3,h4,h5,decide_true,Bool.and_self,and_self,if_true];unfold zW
      cases a with
      |aS=>
       simp only;split
       ·split
        ·rfl
        ·cases kn H1 l key (.arr size xs 0 false)<;>rfl
       ·rfl
      |bd nm es top lo len=>rfl
      |_=>rfl
     ·rw [if_neg hc,if_neg];intro h;simp only [Bool.and_eq_true,decide_eq_true_eq]at h;exact hc ⟨h.1.1.1.1,h.1.1.1.2,h.1.1.2,h.1.2,h.2⟩
def apR (r:Option Nat)(x:Option (GV×ai))(y:Nat→Option (GV×ai)):Option (GV×ai):=match r with|none=>x|some key=>y key
@[simp] theorem Zp {x:Option (GV×ai)}{y:Nat→Option (GV×ai)}:apR none x y=x:= .trans rfl rfl
def upX (bn:Option Nm)(k:Nm→Option (GV×ai)):Option (GV×ai):=match bn with|some l=>k l|none=>none
@[congr] theorem acn {lv lv':Option Nm}{k:Nm→Option (GV×ai)}(h: ∀_:Unit,lv=lv'):upX lv k=upX lv' k:=by rw [h ()]
@[simp] theorem Zq {l:Nm}{k:Nm→Option (GV×ai)}:upX (some l) k=k l:= .trans rfl rfl
def upN:GV→Option Nm| .aA nm _=>some nm|_=>none
@[simp] theorem Zr {nm:Nm}{o:Nat}:upN (.aA nm o)=some nm:= .trans rfl rfl
@[simp] theorem V0 {t:Nat}:pZ s (.box t)=upN (look s t):=by
 unfold pZ upN;rfl
@[simp] theorem Tu {d:Nat}{x y:Operand}{t t2:TypeId}:ez K fn ⟨some d, .call ⟨.builtin .append,#[x,y],#[t,t2]⟩,ty,pos,af,gu⟩ s H=
  if ey K.P (some t2)=true then apR (K.row fn d) (apV (jS H s (K.up fn d)) fun l=>Gw (wz K.P t) (iq H (ev s y)) (zW l d (ev s x))) fun key=>upX (pZ s (K.up fn d)) fun bn=>o0 K H bn key t (ev s x) (ev s y)else none:=by
 show (if ey K.P (some t2)=true then (match K.row fn d with|none=>(match jS H s (K.up fn d)with|some l=>pJ K H l d t (ev s x) (ev s y)|none=>none)|some key=>(match pZ s (K.up fn d)with|some bn=>o0 K H bn key t (ev s x) (ev s y)|none=>none))else none)=_
 split
 ·cases K.row fn d with
  |none=>
   simp only [apR]
   cases jS H s (K.up fn d)with
   |none=>rfl
   |some l=>exact Bu
  |some key=>rfl
 ·rfl
@[simp] theorem Jb {n:Nat}:jS H s (.scopes n)=if H.length≤n then none else some (H.length-1-n):= .trans rfl rfl
def upB:GV→Option Nat| .aA nm _=>some nm.1|_=>none
@[simp] theorem Zs {nm:Nm}{o:Nat}:upB (.aA nm o)=some nm.1:= .trans rfl rfl
@[simp] theorem Pd {t:Nat}:jS H s (.box t)=upB (look s t):=by
 unfold jS upB;rfl
@[simp] theorem Tv {l key:Nat}{b:dB}:kn H l key b=if H.length≤l then none else if (H.get (l,key)).isSome then none else some ((l,key),H.set (l,key) b):=by
 unfold kn;split
 ·rfl
 ·cases H.get (l,key)<;>simp
@[simp] theorem Pe {l:List (List PV)}:iq H (.pure (.slice l))=some (l,H):= .trans rfl rfl
@[simp] theorem Pf {l:List (List GV)}:iq H (.lits l)=some (cU H l):= .trans rfl rfl
def elH (H:ai)(x:PV):Option (List (List PV)×ai):=match x with| .slice l=>some (l,H)|_=>none
@[simp] theorem V5 {l:List (List PV)}:elH H (.slice l)=some (l,H):= .trans rfl rfl
@[simp] theorem Tw {nm:Nm}{es top lo len:Nat}:iq H (.bd nm es top lo len)=elH H (YZ es top lo len (H.get nm)):=by
 rw [←tv];unfold iq elH;simp only;generalize jR H nm es top lo len=q;cases q<;>rfl
@[simp] theorem LQ:cU H []=([],H):= .trans rfl rfl
def prC (r:List (List GV))(x:List PV×ai):List (List PV)×ai:=(x.1::(cU x.2 r).1,(cU x.2 r).2)
@[congr] theorem acr {r:List (List GV)}{x y:List PV×ai}(h: ∀_:Unit,x=y):prC r x=prC r y:=by rw [h ()]
@[simp] theorem Zt {r:List (List GV)}{g:List PV}:prC r (g,H)=(g::(cU H r).1,(cU H r).2):= .trans rfl rfl
@[simp] theorem J0 {g:List GV}{r:List (List GV)}:cU H (g::r)=prC r (bN H g):= .trans rfl rfl
@[simp] theorem V6 {t:TypeId}{x:Operand}{lo hi mx:Option Operand}:ez K fn ⟨dst, .slice t x lo hi mx,ty,pos,af,gu⟩ s H=rv H (kq K t (ev s x) (lo.map (ev s)) (hi.map (ev s)) (mx.map (ev s))):=by
 simp only [ez,rv];rfl
def slP (es:Option (Option Nat))(a b:Option Nat)(l:List (List PV)):Option GV:=
 match es,a,b with
 |some (some es),some a,some b=>if a≤b∧b≤l.length∧(l.all fun r=>r.length==es)=true then some (.pure (.slice ((l.take b).drop a)))else none
 |_,_,_=>none
@[simp] theorem Zu {es a b:Nat}{l:List (List PV)}:slP (some (some es)) (some a) (some b) l=if a≤b∧b≤l.length∧(l.all fun r=>r.length==es)=true then some (.pure (.slice ((l.take b).drop a)))else none:= .trans rfl rfl
@[simp] theorem Pg {t:TypeId}{l:List (List PV)}{lo hi:Option GV}:kq K t (.pure (.slice l)) lo hi none=slP (gJ K.P t) (cO lo 0) (cO hi l.length) l:=by
 unfold kq slP gJ;simp only [Option.isSome_none,Bool.false_eq_true,if_false];generalize cO lo 0=a;generalize cO hi l.length=b;rcases a with _|a<;>rcases b with _|b
 ·cases dz K.P t with
  |none=>rfl
  |some e=>simp only [Option.map_some];cases bu K.P e<;>rfl
 ·cases dz K.P t with
  |none=>rfl
  |some e=>simp only [Option.map_some];cases bu K.P e<;>rfl
 ·cases dz K.P t with
  |none=>rfl
  |some e=>simp only [Option.map_some];cases bu K.P e<;>rfl
 ·cases dz K.P t with
  |none=>rfl
  |some e=>
   simp only [Option.map_some]
   cases bu K.P e with
   |none=>simp
   |some es=>
    simp only;by_cases h:a≤b∧b≤l.length
    ·rw [if_pos h];simp only [h.1,h.2,true_and]
    ·rw [if_neg h,if_neg (fun h'=>h ⟨h'.1,h'.2.1⟩)]
def slH (es:Option (Option Nat))(a b:Option Nat)(nm:Nm)(es' top l0 len:Nat):Option GV:=
 match es,a,b with
 |some es,some a,some b=>if a≤b∧(b≤len∨l0+b≤top)∧es=some es' then (if a=b∧0<a then some (.pure (.slice []))else some (.bd nm es' top (l0+a) (b-a)))else none
 |_,_,_=>none
@[simp] theorem Zv {es:Option Nat}{a b:Nat}{nm:Nm}{es' top l0 len:Nat}:slH (some es) (some a) (some b) nm es' top l0 len=if a≤b∧(b≤len∨l0+b≤top)∧es=some es' then (if a=b∧0<a then some (.pure (.slice []))else some (.bd nm es' top (l0+a) (b-a)))else none:= .trans rfl rfl
@[simp] theorem Tx {t:TypeId}{nm:Nm}{es top l0 len:Nat}{lo hi:Option GV}:kq K t (.bd nm es top l0 len) lo hi none=slH (gJ K.P t) (cO lo 0) (cO hi len) nm es top l0 len:=by
 unfold kq slH gJ;simp only [Option.isSome_none,Bool.false_eq_true,if_false];generalize cO lo 0=a;generalize cO hi len=b
 cases dz K.P t with
 |none=>cases a<;>cases b<;>rfl
 |some e=>cases a<;>cases b<;>rfl
def slX (es:Option (Option Nat))(a:Option Nat)(b m:Int)(x:GV):Option GV:=
 match es,a with
 |some (some es'),some a=>
  (match x with
  | .aS=>if a=0∧b=0∧m=0 then some .aS else none
  | .pure (.slice _)=>if a=0∧b=0∧m=0 then some .aS else none
  | .bd nm es top l0 len=>
   if a=0∧b=0∧m=0 then some .aS
   else if (a:Int)<b∧b≤m∧m=len∧l0+len=top∧es'=es then some (.bd nm es top (l0+a) (b.toNat-a))else none
  |_=>none)
 |_,_=>none
@[simp] theorem abx {es' a:Nat}{b m:Int}{nm:Nm}{es top l0 len:Nat}:slX (some (some es')) (some a) b m (.bd nm es top l0 len)=
  if a=0∧b=0∧m=0 then some .aS
  else if (a:Int)<b∧b≤m∧m=len∧l0+len=top∧es'=es then some (.bd nm es top (l0+a) (b.toNat-a))else none:= .trans rfl rfl
@[simp] theorem Ty {t:TypeId}{x:GV}{lo:Option GV}{k k':IntKind}{b m:Int}:kq K t x lo (some (.pure (.int k b))) (some (.pure (.int k' m)))=slX (gJ K.P t) (cO lo 0) b m x:=by
 unfold kq slX gJ;simp only [Option.isSome_some,if_true];generalize cO lo 0=a
 cases dz K.P t with
 |none=>cases a<;>rfl
 |some e=>
  simp only [Option.map_some]
  cases a with
  |none=>cases bu K.P e<;>rfl
  |some a=>
   simp only
   cases bu K.P e with
   |none=>rfl
   |some es=>
    cases x with
    |pure p=>cases p<;>rfl
    |_=>rfl
def Gx (e:Option Nat)(z:Option (List PV))(H:ai)(x:GV):Option ai:=
 match e,z,x with
 |some size,some ps, .bd nm es top lo len=>
  (match H.get nm with
  |some (.arr es' elems vf ro)=>if es'=size∧es=size∧ps.length=size∧top=elems.length∧vf≤top∧ro=false∧lo+len≤top∧0<len then some (H.set nm (.arr es' (aH elems lo (List.replicate len ps)) top false))else none
  |_=>none)
 |_,_,_=>none
def Jc (P:Program)(t:TypeId):Option (Option Nat×Option (List PV)):=(dz P t).map fun e=>(bu P e,match ct P e with|some z=>(match bG z with|some zs=>bp (zs.map cg)|none=>none)|none=>none)
def Jd (r:Option (Option Nat×Option (List PV)))(H:ai)(x:GV):Option ai:=match r with|some (e,z)=>Gx e z H x|none=>none
@[simp] theorem V7 {e:Option Nat}{z:Option (List PV)}{x:GV}:Jd (some (e,z)) H x=Gx e z H x:= .trans rfl rfl
def LR (H:ai)(size:Nat)(ps:List PV)(nm:Nm)(es top lo len:Nat)(b:Option dB):Option ai:=match b with
  |some (.arr es' elems vf ro)=>if es'=size∧es=size∧ps.length=size∧top=elems.length∧vf≤top∧ro=false∧lo+len≤top∧0<len then some (H.set nm (.arr es' (aH elems lo (List.replicate len ps)) top false))else none
  |_=>none
@[congr] theorem aby {size:Nat}{ps:List PV}{nm:Nm}{es top lo len:Nat}{b b':Option dB}(h: ∀_:Unit,b=b'):LR H size ps nm es top lo len b=LR H size ps nm es top lo len b':=by rw [h ()]
@[simp] theorem Zw {size:Nat}{ps:List PV}{nm:Nm}{es top lo len:Nat}{es' vf:Nat}{elems:List (List PV)}{ro:Bool}:LR H size ps nm es top lo len (some (.arr es' elems vf ro))=
  if es'=size∧es=size∧ps.length=size∧top=elems.length∧vf≤top∧ro=false∧lo+len≤top∧0<len then some (H.set nm (.arr es' (aH elems lo (List.replicate len ps)) top false))else none:= .trans rfl rfl
@[simp] theorem Zx {size:Nat}{ps:List PV}{nm:Nm}{es top lo len:Nat}:Gx (some size) (some ps) H (.bd nm es top lo len)=LR H size ps nm es top lo len (H.get nm):= .trans rfl rfl
theorem Dr {t:TypeId}{x:GV}:sU K t H x=Jd (Jc K.P t) H x:=by
 unfold sU Jc
 cases dz K.P t with
 |none=>rfl
 |some e=>
  simp only [Option.map_some,Jd]
  cases bu K.P e with
  |none=>rfl
  |some size=>
   cases ct K.P e with
   |none=>cases x<;>rfl
   |some z=>
    cases x with
    |bd nm es top lo len=>
     simp only
     cases bG z with
     |none=>rfl
     |some zs=>
      simp only
      cases hg:H.get nm with
      |none=>cases bp (zs.map cg)<;>simp only [Gx,hg]
      |some b=>
       cases b with
       |arr es' elems vf ro=>simp only;cases bp (zs.map cg)<;>simp only [Gx,hg]
       |_=>cases bp (zs.map cg)<;>simp only [Gx,hg]
    |_=>
     simp only;generalize (match bG z with|some zs=>bp (zs.map cg)|none=>none)=ps
     cases ps<;>rfl
@[simp] theorem V8 {x:Operand}{t:TypeId}:ez K fn ⟨dst, .call ⟨.builtin .clear,#[x],#[t]⟩,ty,pos,af,gu⟩ s H=(Jd (Jc K.P t) H (ev s x)).map fun H=>(GV.pure (.tuple []),H):=by
 show (match sU K t H (ev s x)with|some H=>some (GV.pure (.tuple []),H)|none=>none)=_
 rw [Dr];cases Jd (Jc K.P t) H (ev s x)<;>rfl
@[simp] theorem Ph {d:Nat}:cO none d=some d:= .trans rfl rfl
@[simp] theorem Pj {k:IntKind}{i:Int}{d:Nat}:cO (some (.pure (.int k i))) d=if i<0 then none else some i.toNat:= .trans rfl rfl
def xk (P:Program)(t:TypeId):Option (Option Nat×Option (List GV)):=(dz P t).map fun e=>(bu P e,qX (ct P e))
def V9 (own:Bool)(d:Nat)(H:ai)(size len:Nat)(cs:List GV)(ps:Option (List PV)):Option (GV×ai):=
 match ps with
 |some ps=>if own then rn (iD H d (.arr size (chunks size len ps) 0 false)) (fun nm=> .bd nm size len 0 len)else some (.pure (.slice (chunks size len ps)),H)
 |none=>if own then rn (iD (bN H cs).2 d (.arr size (chunks size len (bN H cs).1) 0 false)) (fun nm=> .bd nm size len 0 len)else some (.lits (chunks size len cs),H)
def blL (own:Bool)(d:Nat)(H:ai)(size len:Nat)(x:Option (List GV)):Option (GV×ai):=match x with
 |some cs=>if len=0 then some (.aS,H)else V9 own d H size len cs (bp (cs.map cg))
 |none=>none
def blV (own:Bool)(d:Nat)(H:ai)(len:Nat)(ps:List (Nat×GV))(tl:Option (Option Nat×Option (List GV))):Option (GV×ai):=match tl with
 |some (some size,some zs)=>if zs.length=size∧0<size∧len*size≤16777216 then blL own d H size len (eH (fun i=>some (i*size,size)) (List.replicate len zs).flatten ps)else none
 |_=>none
@[simp] theorem LS {d size len:Nat}{cs:List GV}{ps:List PV}:V9 true d H size len cs (some ps)=rn (iD H d (.arr size (chunks size len ps) 0 false)) (fun nm=> .bd nm size len 0 len):= .trans rfl rfl
@[simp] theorem Zy {d size len:Nat}{cs:List GV}{ps:List PV}:V9 false d H size len cs (some ps)=some (.pure (.slice (chunks size len ps)),H):= .trans rfl rfl
@[simp] theorem Zz {d size len:Nat}{cs:List GV}:V9 false d H size len cs none=some (.lits (chunks size len cs),H):= .trans rfl rfl
@[simp] theorem Bv {d size len:Nat}{cs:List GV}:V9 true d H size len cs none=rn (iD (bN H cs).2 d (.arr size (chunks size len (bN H cs).1) 0 false)) (fun nm=> .bd nm size len 0 len):= .trans rfl rfl
@[simp] theorem Je {own:Bool}{d size len:Nat}{cs:List GV}:blL own d H size len (some cs)=if len=0 then some (.aS,H)else V9 own d H size len cs (bp (cs.map cg)):= .trans rfl rfl
@[simp] theorem Jf {own:Bool}{d size len:Nat}{zs:List GV}{ps:List (Nat×GV)}:blV own d H len ps (some (some size,some zs))=
  if zs.length=size∧0<size∧len*size≤16777216 then blL own d H size len (eH (fun i=>some (i*size,size)) (List.replicate len zs).flatten ps)else none:= .trans rfl rfl
@[simp] theorem Jg {d:Nat}{t:TypeId}{n:Nat}{ps:Array (Nat×Operand)}:ez K fn ⟨some d, .buildSlice t n ps,ty,pos,af,gu⟩ s H=blV (K.own fn d) d H n (ps.toList.map (uB s)) (xk K.P t):=by
 simp only [ez,xk]
 cases dz K.P t with
 |none=>rfl
 |some e=>
  simp only [Option.map_some]
  cases bu K.P e with
  |none=>rfl
  |some size=>
   cases ct K.P e with
   |none=>rfl
   |some z=>
    simp only [ky]
    cases bG z with
    |none=>rfl
    |some zs=>
     simp only [Jf];split
     ·cases eH (fun i=>some (i*size,size)) (List.replicate n zs).flatten (ps.toList.map (uB s))with
      |none=>rfl
      |some cs=>
       simp only [Je];split
       ·rfl
       ·cases bp (cs.map cg)with
        |none=>
         simp only
         cases K.own fn d with
         |true=>
          simp only [if_true,Bv];cases iD (bN H cs).2 d (.arr size (chunks size n (bN H cs).1) 0 false)<;>rfl
         |false=>rfl
        |some qs=>
         simp only
         cases K.own fn d with
         |true=>
          simp only [if_true,LS];cases iD H d (.arr size (chunks size n qs) 0 false)<;>rfl
         |false=>rfl
     ·rfl
@[simp] theorem Pk {α:Type}{es:Nat}{l:List α}:chunks es 0 l=[]:= .trans rfl rfl
@[simp] theorem Pl {α:Type}{es n:Nat}{l:List α}:chunks es (n+1) l=l.take es::chunks es n (l.drop es):= .trans rfl rfl
def tmk (P:Program)(t:TypeId):Option (Option Nat×Option Nat×Option (List PV)):=(dz P t).map fun e=>(bu P e,jL P e,match qX (ct P e)with|some zs=>bp (zs.map cg)|none=>none)
def mkS (d:Nat)(H:ai)(a b:GV)(tm:Option (Option Nat×Option Nat×Option (List PV))):Option (GV×ai):=match tm,a,b with
 |some (some size,some bytes,some ps), .pure (.int _ l), .pure (.int _ c)=>if ps.length=size∧0<size∧0<bytes∧0≤l∧l≤c∧c*bytes≤1099511627776 then
   rn (iD H d (.arr size (List.replicate l.toNat ps) 0 false)) (fun nm=> .bd nm size l.toNat 0 l.toNat)else none
 |_,_,_=>none
@[simp] theorem Jh {d size bytes:Nat}{ps:List PV}{k k':IntKind}{l c:Int}:mkS d H (.pure (.int k l)) (.pure (.int k' c)) (some (some size,some bytes,some ps))=
  if ps.length=size∧0<size∧0<bytes∧0≤l∧l≤c∧c*bytes≤1099511627776 then
   rn (iD H d (.arr size (List.replicate l.toNat ps) 0 false)) (fun nm=> .bd nm size l.toNat 0 l.toNat)else none:= .trans rfl rfl
@[simp] theorem J1 {d : Nat} {t : TypeId} {l c : Operand} : ez K fn ⟨some d, .makeSlice t l c, ty, pos, af, gu⟩ s H = mkS d H (ev s l) (ev s c) (tmk K.P t) := by
  simp only [ez, tmk]
  generalize ev s l = a
  generalize ev s c = b
  cases dz K.P t with
  | none => rfl
  | some e =>
    simp only [Option.map_some]
    cases bu K.P e with
    | none => rfl
    | some size =>
      cases jL K.P e with
      | none => rfl
      | some bytes =>
        cases ct K.P e with
        | none => rfl
        | some z =>
          simp only [ky]
          cases a with
          | pure p =>
            cases p with
            | int k l =>
              cases b with
              | pure q =>
                cases q with
                | int k' c =>
                  simp only
                  cases bG z with
                  | none => rfl
                  | some zs =>
                    simp only
                    cases bp (zs.map cg) with
                    | none => rfl
                    | some ps =>
                      simp only [Jh]
                      split
                      · cases iD H d (.arr size (List.replicate l.toNat ps) 0 false) <;> rfl
                      · rfl
                | _ => cases bG z <;> try rfl
                       all_goals (rename_i zs; simp only; cases bp (zs.map cg) <;> rfl)
              | _ => cases bG z <;> try rfl
                     all_goals (rename_i zs; simp only; cases bp (zs.map cg) <;> rfl)
            | _ => cases bG z <;> try rfl
                   all_goals (rename_i zs; simp only; cases bp (zs.map cg) <;> rfl)
          | _ => cases bG z <;> try rfl
                 all_goals (rename_i zs; simp only; cases bp (zs.map cg) <;> rfl)
@[simp] theorem Pm {d:Nat}{t:TypeId}:ez K fn ⟨some d, .makeMap t none,ty,pos,af,gu⟩ s H=rn (iD H d (.map [])) .map:=by
 simp only [ez];cases iD H d (.map [])<;>rfl
def ZA (ok:Bool)(z:Option GV)(x:Option (Option (Nat×GV))):Option GV:=match x with
 |some (some (_,v))=>some (if ok then mkTuple [v, .pure (.bool true)]else v)
 |some none=>(match z with|some z=>some (if ok then mkTuple [z, .pure (.bool false)]else z)|none=>none)
 |none=>none
@[simp] theorem abz {ok:Bool}{z:Option GV}{i:Nat}{v:GV}:ZA ok z (some (some (i,v)))=some (if ok then mkTuple [v, .pure (.bool true)]else v):= .trans rfl rfl
@[simp] theorem ZB {ok:Bool}{z:GV}:ZA ok (some z) (some none)=some (if ok then mkTuple [z, .pure (.bool false)]else z):= .trans rfl rfl
def tmz (P:Program)(t:TypeId):Option (TypeId×Option GV):=(xe P t).map fun x=>(x.1,ct P x.2)
def luK (K:Ctx)(ok:Bool)(tm:Option (TypeId×Option GV))(k:GV)(es:Option (List (PV×GV))):Option GV:=match tm,k,es with
 |some (kt,z), .pure k,some es=>if jq K kt k=false then none else ZA ok z (cG k es 0)
 |_,_,_=>none
@[simp] theorem ZC {K:Ctx}{ok:Bool}{kt:TypeId}{z:Option GV}{k:PV}{es:List (PV×GV)}:luK K ok (some (kt,z)) (.pure k) (some es)=if jq K kt k=false then none else ZA ok z (cG k es 0):= .trans rfl rfl
@[simp] theorem Tz {t:TypeId}{x k:Operand}{ok:Bool}:ez K fn ⟨dst, .lookup t x k ok,ty,pos,af,gu⟩ s H=rv H (luK K ok (tmz K.P t) (ev s k) (mapOf H (ev s x))):=by
 have h:rR K t H (ev s x) (ev s k) ok=luK K ok (tmz K.P t) (ev s k) (mapOf H (ev s x)):=by
  unfold rR luK tmz;generalize ev s k=g;generalize mapOf H (ev s x)=m
  cases xe K.P t with
  |none=>rfl
  |some p=>
   obtain⟨kt,e⟩:=p
   cases g with
   |pure q=>
    cases m with
    |none=>rfl
    |some es=>
     simp only [Option.map_some];split
     ·rfl
     ·unfold ZA
      cases cG q es 0 with
      |none=>rfl
      |some y=>cases y<;>rfl
   |_=>cases m<;>rfl
 simp only [ez,h];rfl
def LU (b:Option dB):Option (List (PV×GV)):=match b with|some (.map es)=>some es|_=>none
@[simp] theorem ZD {es:List (PV×GV)}:LU (some (.map es))=some es:= .trans rfl rfl
def ZE (nm:Nm)(H:ai)(k:PV)(v:GV)(es:List (PV×GV))(x:Option (Option (Nat×GV))):Option ai:=match x with
 |some (some (i,_))=>some (H.set nm (.map (es.set i (k,v))))
 |some none=>some (H.set nm (.map (es++[(k,v)])))
 |none=>none
@[simp] theorem abC {nm:Nm}{k:PV}{v v':GV}{es:List (PV×GV)}{i:Nat}:ZE nm H k v es (some (some (i,v')))=some (H.set nm (.map (es.set i (k,v)))):= .trans rfl rfl
@[simp] theorem ZF {nm:Nm}{k:PV}{v:GV}{es:List (PV×GV)}:ZE nm H k v es (some none)=some (H.set nm (.map (es++[(k,v)]))):= .trans rfl rfl
def muK (K:Ctx)(kt:TypeId)(nm:Nm)(k:PV)(x:Option (GV×ai)):Option ai:=match x with
 |some (v',H1)=>(match LU (H1.get nm)with|some es=>if jq K kt k=false then none else ZE nm H1 k v' es (cG k es 0)|none=>none)
 |none=>none
@[simp] theorem ZG {K:Ctx}{kt:TypeId}{nm:Nm}{k:PV}{v:GV}:muK K kt nm k (some (v,H))=(match LU (H.get nm)with|some es=>if jq K kt k=false then none else ZE nm H k v es (cG k es 0)|none=>none):= .trans rfl rfl
def Zm (K:Ctx)(tm:Option (TypeId×TypeId))(H:ai)(m k v:GV):Option ai:=match tm,m,k with
 |some (kt,_), .map nm, .pure k=>muK K kt nm k (lz H nm.1 v)
 |_,_,_=>none
@[simp] theorem J2 {t:TypeId}{m k v:Operand}:ez K fn ⟨dst, .mapUpdate t m k v,ty,pos,af,gu⟩ s H=rh (Zm K (xe K.P t) H (ev s m) (ev s k) (ev s v)):=by
 have h:jM K t H (ev s m) (ev s k) (ev s v)=Zm K (xe K.P t) H (ev s m) (ev s k) (ev s v):=by
  unfold jM Zm;generalize ev s m=gm;generalize ev s k=gk
  cases xe K.P t with
  |none=>rfl
  |some p=>
   obtain⟨kt,e⟩:=p
   cases gm with
   |map nm=>
    cases gk with
    |pure q=>
     simp only
     cases lz H nm.1 (ev s v)with
     |none=>rfl
     |some y=>
      obtain⟨v',H1⟩:=y;simp only [muK,LU]
      cases H1.get nm with
      |none=>rfl
      |some b=>
       cases b with
       |map es=>
        simp only;split
        ·rfl
        ·unfold ZE
         cases cG q es 0 with
         |none=>rfl
         |some y=>cases y<;>rfl
       |_=>rfl
    |_=>rfl
   |_=>rfl
 simp only [ez,h];rfl
@[simp] theorem LW {f:Nat}{a c:Array Operand}:ez K fn ⟨dst, .makeFunc (.func f) a c,ty,pos,af,gu⟩ s H=rv H (some (sV f (a.toList.map (ev s)) (c.toList.map (ev s)))):= .trans rfl rfl
@[simp] theorem TA {f:Nat}{a:List GV}{g:GV}{c:List GV}:sV f a (g::c)= .func f a (g::c):=by unfold sV;simp
@[simp] theorem abD {args:Array Operand}{ats:Array TypeId}:ez K fn ⟨dst, .call ⟨.builtin .min,args,ats⟩,ty,pos,af,gu⟩ s H=rv H (iz false (args.toList.map (ev s))):=by
 simp only [ez,rv];rfl
@[simp] theorem Pn {mx:Bool}{k:IntKind}{a:Int}:iz mx [.pure (.int k a)]=some (.pure (.int k a)):=by
 rw [iz]
@[simp] theorem Po {mx:Bool}{k:IntKind}{a b:Int}{r:List GV}:iz mx (.pure (.int k a):: .pure (.int k b)::r)=iz mx (.pure (.int k (if mx=true then (if a<b then b else a)else (if b<a then b else a)))::r):=by
 rw [iz];simp
def Bw (x:Option GV)(r:Option (List GV)):Option (List GV):=match x,r with|some v,some l=>some (v::l)|_,_=>none
@[simp] theorem TC {v:GV}{l:List GV}:Bw (some v) (some l)=some (v::l):= .trans rfl rfl
def Bx (K:Ctx)(st:bM):List ResultVar→Option (List GV)
 | []=>some []
 | .tmp t::r=>Bw (some (look st.s t)) (Bx K st r)
 | .cell a t::r=>Bw (ku K.P t st.h (look st.s a)) (Bx K st r)
@[simp] theorem ZH {st:bM}:Bx K st []=some []:= .trans rfl rfl
@[simp] theorem Ji {st:bM}{t:Nat}{r:List ResultVar}:Bx K st (.tmp t::r)=Bw (some (look st.s t)) (Bx K st r):= .trans rfl rfl
@[simp] theorem Gy {st:bM}{a:Nat}{t:TypeId}{r:List ResultVar}:Bx K st (.cell a t::r)=Bw (ku K.P t st.h (look st.s a)) (Bx K st r):= .trans rfl rfl
@[simp] theorem LX {g:Func}{st:bM}:fk K g st=Bx K st g.results.toList:=by
 unfold fk;generalize g.results.toList=l
 induction l with
 |nil=>rfl
 |cons x r ih=>
  cases x with
  |tmp t=>
   simp only [List.mapM_cons,Ji,←ih];generalize List.mapM (m:=Option) _ r=q;cases q<;>rfl
  |cell a t=>
   simp only [List.mapM_cons,Gy,←ih]
   cases ku K.P t st.h (look st.s a)with
   |none=>rfl
   |some v=>
    generalize List.mapM (m:=Option) _ r=q;cases q<;>rfl
@[simp] theorem Ds {id:Nat}{ops:Array Oper}{b:Bool}:aY (.region id ops b)=id+1:= .trans rfl rfl
@[simp] theorem Hb {a b:Code}:aY (.seq a b)=if aY a=0 then aY b else aY a:= .trans rfl rfl
theorem aM {α:Type}{x:Option α}{a:α}(h:mE x (fun r=>r=a)):x=some a:=by
 obtain⟨r,h1,h2⟩:=h;rw [h1,h2]
end
end
def acz:List (Nat×Nat×List Nat×List Nat):=[(3,12,[3,4,16,17],[12]),(4,9,[1,2,3,5,11,12,13,14,15],[1,2,3,5,11,12,13,14]),(4,15,[17,18,19,20,21],[10]),(5,9,[12,13,14,15],[8]),(6,10,[3,4,5,6,8,10],[2,3,4,5]),(7,12,[4,5,6,7,8,9,10],[2]),(7,16,[4,5,6,7,8,9,10,11,12],[2,4,5,6,7,8,9,10]),(7,22,[4,5,6,7,8,9,10,11,13,14],[4,5,6,7,8,9,10,11,13]),(8,13,[4,10],[2]),(8,16,[4,10,11],[2,4,10]),(11,6,[0,6,7,8,9,10],[6,7,8,9]),(11,23,[6,7,8,9,18],[6,7,8]),(11,26,[6,7,8,9,18,19],[6,7,8,9,18]),(11,33,[6,7,8,21],[6,7]),(12,4,[0,3,4],[3]),(19,9,[1,2,3,6,9,28,29,30],[3,6,9]),(20,10,[1,2,3,6,9,10,11],[3,6,10]),(21,5,[2,3,5],[2,3,4]),(21,10,[2,3,6],[4]),(22,5,[0,1,5],[4]),(23,5,[2,3,5],[2,3,4]),(23,10,[2,3,6],[4]),(25,4,[1,2,5,6],[1,2,5]),(25,8,[1,2,5,7],[5]),(25,11,[1,2,5,7,8],[1,2,5,7]),(25,18,[1,2,5,7,8,9,10],[1,2,5,7,8]),(25,24,[1,2,5,7,8,9,11],[1,2,5,7,8]),(29,8,[1,2,3,4,8,34,35,36],[1,2,3,4,8,9]),(29,22,[3,4,8,14,15,16,17,90,91,92],[3,4,8,14,16,17]),(29,28,[3,4,8,17,109,110,111],[4,8,17]),(30,8,[1,2,3,4,8,10,12],[1,2,3,4,8,9,10]),(31,5,[0,1,5],[4]),(33,5,[0,3,4,5],[3,4]),(35,7,[3,10,11],[3,10]),(35,17,[10,12,13],[6,7]),(36,6,[1,24,25],[2,3,4]),(36,9,[1,8,24,25,29,30,31],[1,2,3,4,24,25]),(37,6,[1,8],[2,3,4]),(37,9,[1,8,9],[1,2,3,4,8]),(38,5,[1,2,3,4],[1,2,3]),(38,9,[1,2,3,5],[1,2,3]),(38,14,[1,2,3,6,7],[1,2,3,6]),(38,19,[1,2,3,8],[1,2]),(39,6,[2,3,5,6],[2,3,4,5]),(39,11,[2,3,5,6,7],[2,3,4,5,6]),(39,19,[2,3,5,9],[4]),(40,4,[1,2,4,5],[1,2,4]),(40,8,[1,2,4,6],[2,4]),(41,13,[3,4,9,11,13,14,15,16],[8]),(42,3,[0,1,5],[4]),(43,4,[1,2,3,4,5,11,12],[1,2,5,11]),(44,3,[0,1,5],[4]),(47,5,[0,4,5,6,7],[0,4,5]),(47,9,[0,4,5,8],[0,4,5]),(47,16,[0,4,5,10],[4,5]),(48,4,[1,2,3,4],[1,2,3]),(48,8,[1,2,3,5],[2,3]),(49,5,[0,5,6,8,10,11,12],[0,8,10]),(57,8,[1,17,18,19],[2]),(68,5,[0,1,5],[4]),(70,11,[7,8,9],[7]),(72,14,[9,10,11,12],[10,11]),(74,5,[3,8,9],[8,9]),(77,4,[0,1,2,7,8],[0,1,2,7,8]),(77,8,[0,1,2,7,8,9],[0,2,7,8]),(77,13,[0,2,7,8],[7]),(79,12,[12,16,17,51],[6,7]),(80,4,[2,3,4,9,10],[6,7,8,9]),(80,6,[2,3,4,9,10,11],[2,3,4,9,10,11]),(80,11,[2,3,4,9,11,12,13,14],[2,3,4,6,7,8,9,11,12]),(80,17,[2,3,4,9,11,12,13,14,15,16],[2,3,4,6,7,8,9,11,12,13,14,15]),(81,6,[0,2,3,5,13],[8,9]),(83,4,[0,1,5,6],[5]),(84,6,[3,4,5,9],[3,4,5,6]),(85,3,[1,2,5],[4]),(89,10,[1,30,31,32],[1,2]),(89,17,[1,4,30,31,32,51,52,53],[1,2,30,31,32]),(89,26,[1,69,70,71],[1,2]),(92,4,[1,2,3,11,12,13],[1,2,3]),(92,10,[2,3,36,37,38],[2,3]),(93,4,[1,2,3,6,9],[3,6,7,8]),(93,6,[1,2,3,6,9,10],[1,2,3,6,9,10]),(94,3,[1,9,10,11],[1,2]),(94,9,[1,21,22,23],[2]),(95,7,[1,3],[2]),(95,15,[1,3,4,5],[1,2,3]),(96,5,[1,3],[1,2]),(96,13,[1,5],[1,2]),(96,20,[1,6],[2]),(97,5,[1,3],[2]),(97,15,[1,3,4,5],[1,2,3,4]),(98,3,[2,3,5],[2,3,4]),(98,8,[2,3,6],[4]),(104,3,[1,2,4,5],[2,4,5]),(110,4,[1,2,3,6,7,8],[1,6,7]),(111,4,[0,3,4],[3]),(111,7,[0,3,4,5],[0,3,4,5]),(111,11,[0,3,4,5,6],[0,3,4,5]),(118,5,[2,4,7,8,19,20,21],[4,5,6,7]),(118,11,[2,4,7,8,9,10,11,19,20,21,35,36,37],[2,4,5,6,7,8,10,11,19,20,21]),(118,17,[2,4,7,8,10,19,20,21,47,48,49],[2,4,7,8,10,19,20,21]),(122,3,[0,1,5],[4]),(122,6,[0,1,5,6],[0,1,4,5]),(123,3,[0,1,2,9,10,11],[6]),(126,3,[0,1,7,8],[4]),(128,3,[0,1,2,6,7,8],[0,1,2,6,7]),(128,8,[0,1,2,6],[]),(128,10,[0,1,2,6,7,8],[0,1,2,6,7]),(131,3,[0,1,7,8],[4]),(132,4,[1,2,4,5],[]),(132,8,[1,2,4,5,18,19],[1,2,4,5]),(132,13,[1,2,4,5,30],[1,2,4,5]),(132,20,[1,2,4,5,8,30,47,48],[1,2,4,5,30]),(132,26,[1,2,4,5,8,30,62,63],[1,2,4,5,30]),(151,2,[0,1,2,3,8],[]),(151,5,[0,1,2,3,8,9],[0,1,2,3,8]),(152,4,[0,1,4,10,11],[0,1,10]),(152,10,[0,10,13],[]),(152,16,[0,2,4,14,15],[0,2,14]),(152,22,[0,14,17],[]),(152,34,[0,1,2,3,4,18,19,20,21,22],[0,1,2,3,4,18,19,20]),(158,3,[0,2,4,10,11],[0,2,4,10]),(159,2,[0,1,2,3,10],[])]
def upT:List (Nat×Nat×Up):=[(4,78, .scopes 1),(4,112, .scopes 0),(11,62, .box 7),(11,102, .box 7),(11,140, .box 7),(13,6, .scopes 0),(13,10, .scopes 0),(13,22, .scopes 0),(19,56, .scopes 1),(20,66, .scopes 1),(25,26, .scopes 1),(25,43, .scopes 2),(25,58, .scopes 3),(25,76, .scopes 3),(29,105, .scopes 1),(29,124, .scopes 1),(33,24, .box 3),(35,89, .box 10),(38,87, .scopes 1),(43,33, .scopes 1),(46,10, .scopes 0),(46,16, .scopes 0),(47,46, .box 5),(47,83, .box 5),(47,96, .box 5),(48,22, .box 3),(48,27, .box 3),(48,53, .box 3),(49,35, .scopes 1),(49,52, .scopes 1),(50,6, .scopes 0),(50,10, .scopes 0),(50,14, .scopes 0),(56,5, .scopes 0),(61,27, .scopes 0),(62,8, .box 1),(67,8, .scopes 0),(67,12, .scopes 0),(67,18, .scopes 0),(67,22, .scopes 0),(67,27, .scopes 0),(72,23, .scopes 0),(72,30, .scopes 0),(72,48, .scopes 0),(72,58, .scopes 0),(72,83, .scopes 0),(75,7, .scopes 0),(77,31, .scopes 1),(77,52, .scopes 1),(77,72, .scopes 1),(80,80, .scopes 1),(80,92, .scopes 1),(81,78, .scopes 0),(81,87, .scopes 0),(83,20, .scopes 1),(88,61, .box 5),(92,23, .box 3),(92,31, .box 3),(92,51, .box 3),(99,7, .scopes 0),(100,7, .scopes 0),(101,7, .scopes 0),(102,7, .scopes 0),(103,7, .scopes 0),(109,26, .scopes 0),(111,36, .scopes 1),(116,64, .scopes 0),(134,27, .scopes 0),(134,35, .scopes 0),(134,43, .scopes 0),(134,53, .scopes 0),(134,60, .scopes 0)]
def ZI (f r:Nat):Option (List Nat×List Nat):=(acz.find? fun x=>x.1==f && x.2.1==r).map fun x=>x.2.2
def acA (f d:Nat):Up:=((upT.find? fun x=>x.1==f && x.2.1==d).map fun x=>x.2.2).getD (.scopes 0)
def ZJ:List (Nat×Nat×List (Nat×Nat)):=[(3,7,[(13,7),(13,11)]),(4,12,[(10,0),(10,1),(10,2)]),(4,16,[(9,4)]),(5,6,[(9,0),(9,1),(9,2),(12,9),(13,9),(14,0),(14,1),(14,2),(18,0),(18,1),(18,2)]),(6,11,[(22,18)]),(11,20,[(4,0)]),(11,34,[(20,4)]),(13,1,[(6,3)]),(13,2,[(4,2),(8,2),(8,5)]),(27,4,[(4,0)]),(28,4,[(5,0)]),(30,17,[(5,0),(6,5),(9,0),(11,0)]),(35,4,[(14,0),(14,2),(14,6),(15,14),(19,0),(19,2),(19,6),(20,14),(20,19),(23,0),(23,2),(23,6)]),(38,10,[(24,4)]),(46,2,[(7,5)]),(47,6,[(3,1),(6,3),(7,3),(9,3)]),(47,10,[(6,1),(11,1),(11,9),(13,1),(13,9)]),(48,5,[(11,9)]),(50,1,[(6,3),(10,3),(10,7)]),(51,6,[(14,7),(14,9)]),(51,8,[(17,7)]),(51,10,[(7,1),(7,3),(9,7),(11,7),(13,7),(17,9),(17,11),(17,13)]),(53,1,[(3,2),(4,2)]),(58,1,[(3,1)]),(58,3,[(4,2),(4,3)]),(62,1,[(2,0)]),(63,1,[(6,3),(10,3),(10,7)]),(65,1,[(4,2),(7,2),(7,5),(10,2),(10,5),(10,8)]),(67,1,[(6,3)]),(67,2,[(6,3)]),(70,5,[(6,2)]),(72,7,[(4,0),(5,4)]),(79,1,[(5,3),(9,3),(12,5),(12,9)]),(79,3,[(2,1),(3,1)]),(81,2,[(13,3)]),(81,10,[(4,1),(8,4),(11,4),(13,1)]),(104,4,[(3,1)]),(105,1,[(4,2),(5,2)]),(116,10,[(8,5),(8,6),(9,8),(11,5),(11,6),(12,8),(12,11)]),(118,20,[(4,2),(5,2)]),(140,1,[(5,2),(8,5),(10,5),(12,5)]),(142,1,[(8,2),(8,4),(9,8),(10,8),(11,2),(11,4)]),(143,1,[(10,7)]),(144,1,[(5,2)]),(145,1,[(14,11),(21,18),(29,26),(37,34)]),(146,1,[(5,2)]),(146,2,[(5,2)]),(147,1,[(8,5)]),(148,1,[(5,2)]),(149,1,[(8,5)]),(150,1,[(5,2)])]
def aw (f r:Nat):List (Nat×Nat):=((ZJ.find? fun x=>x.1==f && x.2.1==r).map fun x=>x.2.2).getD []
def yo:Nat→Option (List SK)
 |29=>some [.int .i64, .int .i64, .int .i64, .int .i64, .int .i64, .int .i64, .int .i64, .int .i64, .int .i64]
 |74=>some [.int .i64, .int .i64]
 |84=>some [.int .i64, .int .i64]
 |86=>some [.int .i64, .int .i64, .int .i64, .int .i64, .bool]
 |105=>some [.int .i64, .int .i64]
 |170=>some [.int .i64, .int .i64]
 |_=>none
@[simp] theorem ZK:yo 74=some [.int .i64, .int .i64]:= .trans rfl rfl
@[simp] theorem ZL:yo 84=some [.int .i64, .int .i64]:= .trans rfl rfl
def Jj:List Nat:=[13,12,47,48,50,63,45,46,99,100,101,102,103,75]
def acB:List Nat:=[17,15,34,25,88,134,79,93,58,118,16,18,61,80,20,67,27,29,28,30,71,72,77,111,70,104,110,78,19,65,33,38,40,35,81,13,116]
def acC:List Nat:=[48,9,14,57,60,23,39,21,22,31,49,53,89,64,73,66,95,96,97,68,44,36,84,85,87,112,113,76,94,115,69,120,121,122,130,82,74,105,153,154,135,137,139,141,143,145,147,149,131,155,156,157,98]
def LY:List Nat:=[99,100,101,102,103,75]
def TD:List (Nat×Nat):=[(134,9),(88,10),(45,3),(45,6),(45,7),(45,8),(45,14),(61,25)]
def acD:List (Nat×Nat):=[(11,6)]
def Dt (f d:Nat):Option Nat:=if f=11∧d=54 then some 8 else none
def rowOf (_ _:Nat):Option Nat:=none
noncomputable def LZ (cl:List Nat):Ctx:={P:=Tryz.prog,HD:=fun f=>Jj.contains f,gN:=ZI,up:=acA,own:=fun f d=>TD.contains (f,d),EM:=fun f=>acB.contains f,Ai:=fun f=>acC.contains f,gO:=fun f r=>acD.contains (f,r),zV:=fun f=>cl.contains f,lift:=Dt,row:=rowOf,eqs:=yo}
noncomputable def KC:Ctx:=LZ LY
section
@[simp] theorem Gi:KC.P=Tryz.prog:= .trans rfl rfl
@[simp] theorem acE {f d:Nat}:KC.own f d=TD.contains (f,d):= .trans rfl rfl
@[simp] theorem abE {f d:Nat}:KC.lift f d=Dt f d:= .trans rfl rfl
@[simp] theorem acF {f d:Nat}:KC.row f d=rowOf f d:= .trans rfl rfl
attribute [simp] Dt TD rowOf
@[simp] theorem Pp:KC.gN 6 10=some ([3,4,5,6,8,10],[2,3,4,5]):=by kernel_rfl
@[simp] theorem Pq:KC.gO 6 10=false:=by kernel_rfl
@[simp] theorem Pr:KC.gN 11 6=some ([0,6,7,8,9,10],[6,7,8,9]):=by kernel_rfl
@[simp] theorem Ps:KC.gO 11 6=true:=by kernel_rfl
@[simp] theorem L0:KC.gN 11 23=some ([6,7,8,9,18],[6,7,8]):=by kernel_rfl
@[simp] theorem L4:KC.gO 11 23=false:=by kernel_rfl
@[simp] theorem L5:KC.gN 11 26=some ([6,7,8,9,18,19],[6,7,8,9,18]):=by kernel_rfl
@[simp] theorem L6:KC.gO 11 26=false:=by kernel_rfl
@[simp] theorem L7:KC.gN 11 33=some ([6,7,8,21],[6,7]):=by kernel_rfl
@[simp] theorem L8:KC.gO 11 33=false:=by kernel_rfl
@[simp] theorem Pt:KC.gN 12 4=some ([0,3,4],[3]):=by kernel_rfl
@[simp] theorem Pu:KC.gO 12 4=false:=by kernel_rfl
@[simp] theorem Pv:KC.gN 21 5=some ([2,3,5],[2,3,4]):=by kernel_rfl
@[simp] theorem Pw:KC.gO 21 5=false:=by kernel_rfl
@[simp] theorem L9:KC.gN 21 10=some ([2,3,6],[4]):=by kernel_rfl
@[simp] theorem Ma:KC.gO 21 10=false:=by kernel_rfl
@[simp] theorem Px:KC.gN 25 4=some ([1,2,5,6],[1,2,5]):=by kernel_rfl
@[simp] theorem Py:KC.gO 25 4=false:=by kernel_rfl
@[simp] theorem Pz:KC.gN 25 8=some ([1,2,5,7],[5]):=by kernel_rfl
@[simp] theorem PA:KC.gO 25 8=false:=by kernel_rfl
@[simp] theorem Mb:KC.gN 25 11=some ([1,2,5,7,8],[1,2,5,7]):=by kernel_rfl
@[simp] theorem Mc:KC.gO 25 11=false:=by kernel_rfl
@[simp] theorem Md:KC.gN 25 18=some ([1,2,5,7,8,9,10],[1,2,5,7,8]):=by kernel_rfl
@[simp] theorem Me:KC.gO 25 18=false:=by kernel_rfl
@[simp] theorem Mf:KC.gN 25 24=some ([1,2,5,7,8,9,11],[1,2,5,7,8]):=by kernel_rfl
@[simp] theorem Mg:KC.gO 25 24=false:=by kernel_rfl
@[simp] theorem PB:KC.gN 33 5=some ([0,3,4,5],[3,4]):=by kernel_rfl
@[simp] theorem PC:KC.gO 33 5=false:=by kernel_rfl
@[simp] theorem PD:KC.gN 36 6=some ([1,24,25],[2,3,4]):=by kernel_rfl
@[simp] theorem PE:KC.gO 36 6=false:=by kernel_rfl
@[simp] theorem PF:KC.gN 36 9=some ([1,8,24,25,29,30,31],[1,2,3,4,24,25]):=by kernel_rfl
@[simp] theorem PH:KC.gO 36 9=false:=by kernel_rfl
@[simp] theorem PI:KC.gN 38 5=some ([1,2,3,4],[1,2,3]):=by kernel_rfl
@[simp] theorem PJ:KC.gO 38 5=false:=by kernel_rfl
@[simp] theorem PK:KC.gN 38 9=some ([1,2,3,5],[1,2,3]):=by kernel_rfl
@[simp] theorem PL:KC.gO 38 9=false:=by kernel_rfl
@[simp] theorem Mh:KC.gN 38 14=some ([1,2,3,6,7],[1,2,3,6]):=by kernel_rfl
@[simp] theorem Mi:KC.gO 38 14=false:=by kernel_rfl
@[simp] theorem Mj:KC.gN 38 19=some ([1,2,3,8],[1,2]):=by kernel_rfl
@[simp] theorem Mk:KC.gO 38 19=false:=by kernel_rfl
@[simp] theorem PM:KC.gN 39 6=some ([2,3,5,6],[2,3,4,5]):=by kernel_rfl
@[simp] theorem PN:KC.gO 39 6=false:=by kernel_rfl
@[simp] theorem Ml:KC.gN 39 11=some ([2,3,5,6,7],[2,3,4,5,6]):=by kernel_rfl
@[simp] theorem Mm:KC.gO 39 11=false:=by kernel_rfl
@[simp] theorem Mn:KC.gN 39 19=some ([2,3,5,9],[4]):=by kernel_rfl
@[simp] theorem Mo:KC.gO 39 19=false:=by kernel_rfl
@[simp] theorem PO:KC.gN 40 4=some ([1,2,4,5],[1,2,4]):=by kernel_rfl
@[simp] theorem PQ:KC.gO 40 4=false:=by kernel_rfl
@[simp] theorem PR:KC.gN 40 8=some ([1,2,4,6],[2,4]):=by kernel_rfl
@[simp] theorem PS:KC.gO 40 8=false:=by kernel_rfl
@[simp] theorem PT:KC.gN 44 3=some ([0,1,5],[4]):=by kernel_rfl
@[simp] theorem PU:KC.gO 44 3=false:=by kernel_rfl
@[simp] theorem PW:KC.gN 47 5=some ([0,4,5,6,7],[0,4,5]):=by kernel_rfl
@[simp] theorem PX:KC.gO 47 5=false:=by kernel_rfl
@[simp] theorem PY:KC.gN 47 9=some ([0,4,5,8],[0,4,5]):=by kernel_rfl
@[simp] theorem PZ:KC.gO 47 9=false:=by kernel_rfl
@[simp] theorem Mp:KC.gN 47 16=some ([0,4,5,10],[4,5]):=by kernel_rfl
@[simp] theorem Mq:KC.gO 47 16=false:=by kernel_rfl
@[simp] theorem P0:KC.gN 48 4=some ([1,2,3,4],[1,2,3]):=by kernel_rfl
@[simp] theorem P1:KC.gO 48 4=false:=by kernel_rfl
@[simp] theorem P2:KC.gN 48 8=some ([1,2,3,5],[2,3]):=by kernel_rfl
@[simp] theorem P3:KC.gO 48 8=false:=by kernel_rfl
@[simp] theorem P4:KC.gN 49 5=some ([0,5,6,8,10,11,12],[0,8,10]):=by kernel_rfl
@[simp] theorem P6:KC.gO 49 5=false:=by kernel_rfl
@[simp] theorem P7:KC.gN 57 8=some ([1,17,18,19],[2]):=by kernel_rfl
@[simp] theorem P8:KC.gO 57 8=false:=by kernel_rfl
@[simp] theorem P9:KC.gN 68 5=some ([0,1,5],[4]):=by kernel_rfl
@[simp] theorem Qa:KC.gO 68 5=false:=by kernel_rfl
@[simp] theorem Mr:KC.gN 70 11=some ([7,8,9],[7]):=by kernel_rfl
@[simp] theorem Ms:KC.gO 70 11=false:=by kernel_rfl
@[simp] theorem Qb:KC.gN 74 5=some ([3,8,9],[8,9]):=by kernel_rfl
@[simp] theorem Qc:KC.gO 74 5=false:=by kernel_rfl
@[simp] theorem Mt:KC.gN 79 12=some ([12,16,17,51],[6,7]):=by kernel_rfl
@[simp] theorem Mv:KC.gO 79 12=false:=by kernel_rfl
@[simp] theorem Qd:KC.gN 83 4=some ([0,1,5,6],[5]):=by kernel_rfl
@[simp] theorem Qe:KC.gO 83 4=false:=by kernel_rfl
@[simp] theorem Qf:KC.gN 84 6=some ([3,4,5,9],[3,4,5,6]):=by kernel_rfl
@[simp] theorem Qg:KC.gO 84 6=false:=by kernel_rfl
@[simp] theorem Qh:KC.gN 85 3=some ([1,2,5],[4]):=by kernel_rfl
@[simp] theorem Qi:KC.gO 85 3=false:=by kernel_rfl
@[simp] theorem Mw:KC.gN 89 10=some ([1,30,31,32],[1,2]):=by kernel_rfl
@[simp] theorem Mx:KC.gO 89 10=false:=by kernel_rfl
@[simp] theorem My:KC.gN 89 17=some ([1,4,30,31,32,51,52,53],[1,2,30,31,32]):=by kernel_rfl
@[simp] theorem Mz:KC.gO 89 17=false:=by kernel_rfl
@[simp] theorem MA:KC.gN 89 26=some ([1,69,70,71],[1,2]):=by kernel_rfl
@[simp] theorem MB:KC.gO 89 26=false:=by kernel_rfl
@[simp] theorem Qj:KC.gN 92 4=some ([1,2,3,11,12,13],[1,2,3]):=by kernel_rfl
@[simp] theorem Qk:KC.gO 92 4=false:=by kernel_rfl
@[simp] theorem MC:KC.gN 92 10=some ([2,3,36,37,38],[2,3]):=by kernel_rfl
@[simp] theorem MD:KC.gO 92 10=false:=by kernel_rfl
@[simp] theorem Ql:KC.gN 93 4=some ([1,2,3,6,9],[3,6,7,8]):=by kernel_rfl
@[simp] theorem Qm:KC.gO 93 4=false:=by kernel_rfl
@[simp] theorem Qn:KC.gN 93 6=some ([1,2,3,6,9,10],[1,2,3,6,9,10]):=by kernel_rfl
@[simp] theorem Qo:KC.gO 93 6=false:=by kernel_rfl
@[simp] theorem Qp:KC.gN 94 3=some ([1,9,10,11],[1,2]):=by kernel_rfl
@[simp] theorem Qq:KC.gO 94 3=false:=by kernel_rfl
@[simp] theorem Qr:KC.gN 94 9=some ([1,21,22,23],[2]):=by kernel_rfl
@[simp] theorem Qs:KC.gO 94 9=false:=by kernel_rfl
@[simp] theorem MG:KC.gN 104 3=some ([1,2,4,5],[2,4,5]):=by kernel_rfl
@[simp] theorem MH:KC.gO 104 3=false:=by kernel_rfl
@[simp] theorem MI:KC.gN 118 5=some ([2,4,7,8,19,20,21],[4,5,6,7]):=by kernel_rfl
@[simp] theorem MJ:KC.gO 118 5=false:=by kernel_rfl
@[simp] theorem J3:KC.gN 118 11=some ([2,4,7,8,9,10,11,19,20,21,35,36,37],[2,4,5,6,7,8,10,11,19,20,21]):=by kernel_rfl
@[simp] theorem J4:KC.gO 118 11=false:=by kernel_rfl
@[simp] theorem J5:KC.gN 118 17=some ([2,4,7,8,10,19,20,21,47,48,49],[2,4,7,8,10,19,20,21]):=by kernel_rfl
@[simp] theorem J6:KC.gO 118 17=false:=by kernel_rfl
@[simp] theorem MK:KC.gN 122 3=some ([0,1,5],[4]):=by kernel_rfl
@[simp] theorem MM:KC.gO 122 3=false:=by kernel_rfl
@[simp] theorem MO:KC.gN 122 6=some ([0,1,5,6],[0,1,4,5]):=by kernel_rfl
@[simp] theorem MQ:KC.gO 122 6=false:=by kernel_rfl
@[simp] theorem MS:KC.gN 123 3=some ([0,1,2,9,10,11],[6]):=by kernel_rfl
@[simp] theorem MT:KC.gO 123 3=false:=by kernel_rfl
@[simp] theorem MU:KC.gN 126 3=some ([0,1,7,8],[4]):=by kernel_rfl
@[simp] theorem MV:KC.gO 126 3=false:=by kernel_rfl
@[simp] theorem MW:KC.gN 128 3=some ([0,1,2,6,7,8],[0,1,2,6,7]):=by kernel_rfl
@[simp] theorem MY:KC.gO 128 3=false:=by kernel_rfl
@[simp] theorem MZ:KC.gN 128 8=some ([0,1,2,6],[]):=by kernel_rfl
@[simp] theorem M3:KC.gO 128 8=false:=by kernel_rfl
@[simp] theorem M4:KC.gN 131 3=some ([0,1,7,8],[4]):=by kernel_rfl
@[simp] theorem M5:KC.gO 131 3=false:=by kernel_rfl
@[simp] theorem M6:KC.gN 132 4=some ([1,2,4,5],[]):=by kernel_rfl
@[simp] theorem M7:KC.gO 132 4=false:=by kernel_rfl
@[simp] theorem M8:KC.gN 132 8=some ([1,2,4,5,18,19],[1,2,4,5]):=by kernel_rfl
@[simp] theorem M9:KC.gO 132 8=false:=by kernel_rfl
@[simp] theorem J7:KC.gN 132 13=some ([1,2,4,5,30],[1,2,4,5]):=by kernel_rfl
@[simp] theorem J8:KC.gO 132 13=false:=by kernel_rfl
@[simp] theorem J9:KC.gN 132 20=some ([1,2,4,5,8,30,47,48],[1,2,4,5,30]):=by kernel_rfl
@[simp] theorem Ka:KC.gO 132 20=false:=by kernel_rfl
@[simp] theorem Kb:KC.gN 132 26=some ([1,2,4,5,8,30,62,63],[1,2,4,5,30]):=by kernel_rfl
@[simp] theorem Kc:KC.gO 132 26=false:=by kernel_rfl
@[simp] theorem Na:KC.gN 151 2=some ([0,1,2,3,8],[]):=by kernel_rfl
@[simp] theorem Nb:KC.gO 151 2=false:=by kernel_rfl
@[simp] theorem Nc:KC.gN 151 5=some ([0,1,2,3,8,9],[0,1,2,3,8]):=by kernel_rfl
@[simp] theorem Nd:KC.gO 151 5=false:=by kernel_rfl
@[simp] theorem Qt:KC.up 11 62= .box 7:=by kernel_rfl
@[simp] theorem Nf:KC.up 11 102= .box 7:=by kernel_rfl
@[simp] theorem Ng:KC.up 11 140= .box 7:=by kernel_rfl
@[simp] theorem TE:KC.up 13 6= .scopes 0:=by kernel_rfl
@[simp] theorem Qu:KC.up 13 10= .scopes 0:=by kernel_rfl
@[simp] theorem Qv:KC.up 13 22= .scopes 0:=by kernel_rfl
@[simp] theorem Qw:KC.up 25 26= .scopes 1:=by kernel_rfl
@[simp] theorem Qx:KC.up 25 43= .scopes 2:=by kernel_rfl
@[simp] theorem Qy:KC.up 25 58= .scopes 3:=by kernel_rfl
@[simp] theorem Qz:KC.up 25 76= .scopes 3:=by kernel_rfl
@[simp] theorem QA:KC.up 33 24= .box 3:=by kernel_rfl
@[simp] theorem QB:KC.up 38 87= .scopes 1:=by kernel_rfl
@[simp] theorem QC:KC.up 47 46= .box 5:=by kernel_rfl
@[simp] theorem QD:KC.up 47 83= .box 5:=by kernel_rfl
@[simp] theorem QE:KC.up 47 96= .box 5:=by kernel_rfl
@[simp] theorem QF:KC.up 48 22= .box 3:=by kernel_rfl
@[simp] theorem QG:KC.up 48 27= .box 3:=by kernel_rfl
@[simp] theorem QH:KC.up 48 53= .box 3:=by kernel_rfl
@[simp] theorem QI:KC.up 49 35= .scopes 1:=by kernel_rfl
@[simp] theorem QJ:KC.up 49 52= .scopes 1:=by kernel_rfl
@[simp] theorem TF:KC.up 50 6= .scopes 0:=by kernel_rfl
@[simp] theorem QK:KC.up 50 10= .scopes 0:=by kernel_rfl
@[simp] theorem QL:KC.up 50 14= .scopes 0:=by kernel_rfl
@[simp] theorem TG:KC.up 56 5= .scopes 0:=by kernel_rfl
@[simp] theorem TH:KC.up 62 8= .box 1:=by kernel_rfl
@[simp] theorem TJ:KC.up 75 7= .scopes 0:=by kernel_rfl
@[simp] theorem QM:KC.up 83 20= .scopes 1:=by kernel_rfl
@[simp] theorem QN:KC.up 88 61= .box 5:=by kernel_rfl
@[simp] theorem QO:KC.up 92 23= .box 3:=by kernel_rfl
@[simp] theorem QP:KC.up 92 31= .box 3:=by kernel_rfl
@[simp] theorem QQ:KC.up 92 51= .box 3:=by kernel_rfl
@[simp] theorem TK:KC.up 99 7= .scopes 0:=by kernel_rfl
@[simp] theorem QR:KC.up 100 7= .scopes 0:=by kernel_rfl
@[simp] theorem QS:KC.up 101 7= .scopes 0:=by kernel_rfl
@[simp] theorem Nh:KC.up 109 26= .scopes 0:=by kernel_rfl
@[simp] theorem Ni:KC.up 116 64= .scopes 0:=by kernel_rfl
@[simp] theorem Nj:KC.up 134 27= .scopes 0:=by kernel_rfl
@[simp] theorem Nk:KC.up 134 35= .scopes 0:=by kernel_rfl
@[simp] theorem Nl:KC.up 134 43= .scopes 0:=by kernel_rfl
@[simp] theorem Nn:KC.up 134 53= .scopes 0:=by kernel_rfl
@[simp] theorem Np:KC.up 134 60= .scopes 0:=by kernel_rfl
@[simp] theorem Wa:aw 6 11=[(22,18)]:=by kernel_rfl
@[simp] theorem TL:aw 11 20=[(4,0)]:=by kernel_rfl
@[simp] theorem TM:aw 11 34=[(20,4)]:=by kernel_rfl
@[simp] theorem Wb:aw 12 5=[]:=by kernel_rfl
@[simp] theorem Wc:aw 13 1=[(6,3)]:=by kernel_rfl
@[simp] theorem Wd:aw 13 2=[(4,2),(8,2),(8,5)]:=by kernel_rfl
@[simp] theorem We:aw 21 6=[]:=by kernel_rfl
@[simp] theorem TN:aw 21 11=[]:=by kernel_rfl
@[simp] theorem Wf:aw 38 6=[]:=by kernel_rfl
@[simp] theorem TP:aw 38 10=[(24,4)]:=by kernel_rfl
@[simp] theorem TQ:aw 38 21=[]:=by kernel_rfl
@[simp] theorem Wg:aw 39 7=[]:=by kernel_rfl
@[simp] theorem Wh:aw 40 5=[]:=by kernel_rfl
@[simp] theorem TU:aw 40 10=[]:=by kernel_rfl
@[simp] theorem Wi:aw 47 6=[(3,1),(6,3),(7,3),(9,3)]:=by kernel_rfl
@[simp] theorem TV:aw 47 10=[(6,1),(11,1),(11,9),(13,1),(13,9)]:=by kernel_rfl
@[simp] theorem Wj:aw 48 5=[(11,9)]:=by kernel_rfl
@[simp] theorem Wk:aw 48 9=[]:=by kernel_rfl
@[simp] theorem Wl:aw 49 6=[]:=by kernel_rfl
@[simp] theorem Wm:aw 49 9=[]:=by kernel_rfl
@[simp] theorem Wn:aw 50 1=[(6,3),(10,3),(10,7)]:=by kernel_rfl
@[simp] theorem Wo:aw 51 1=[]:=by kernel_rfl
@[simp] theorem Wp:aw 51 6=[(14,7),(14,9)]:=by kernel_rfl
@[simp] theorem Wq:aw 51 8=[(17,7)]:=by kernel_rfl
@[simp] theorem TW:aw 51 10=[(7,1),(7,3),(9,7),(11,7),(13,7),(17,9),(17,11),(17,13)]:=by kernel_rfl
@[simp] theorem Wr:aw 53 1=[(3,2),(4,2)]:=by kernel_rfl
@[simp] theorem TX:aw 57 11=[]:=by kernel_rfl
@[simp] theorem Ws:aw 58 1=[(3,1)]:=by kernel_rfl
@[simp] theorem Wt:aw 58 3=[(4,2),(4,3)]:=by kernel_rfl
@[simp] theorem Wu:aw 62 1=[(2,0)]:=by kernel_rfl
@[simp] theorem Wv:aw 63 1=[(6,3),(10,3),(10,7)]:=by kernel_rfl
@[simp] theorem Ww:aw 68 6=[]:=by kernel_rfl
@[simp] theorem Wx:aw 70 5=[(6,2)]:=by kernel_rfl
@[simp] theorem Wy:aw 73 1=[]:=by kernel_rfl
@[simp] theorem Wz:aw 79 1=[(5,3),(9,3),(12,5),(12,9)]:=by kernel_rfl
@[simp] theorem WA:aw 79 3=[(2,1),(3,1)]:=by kernel_rfl
@[simp] theorem WC:aw 83 7=[]:=by kernel_rfl
@[simp] theorem WD:aw 84 1=[]:=by kernel_rfl
@[simp] theorem WE:aw 84 7=[]:=by kernel_rfl
@[simp] theorem WG:aw 84 9=[]:=by kernel_rfl
@[simp] theorem TY:aw 84 11=[]:=by kernel_rfl
@[simp] theorem TZ:aw 84 15=[]:=by kernel_rfl
@[simp] theorem WH:aw 86 3=[]:=by kernel_rfl
@[simp] theorem WI:aw 86 4=[]:=by kernel_rfl
@[simp] theorem WJ:aw 88 2=[]:=by kernel_rfl
@[simp] theorem WK:aw 88 6=[]:=by kernel_rfl
@[simp] theorem WL:aw 93 5=[]:=by kernel_rfl
@[simp] theorem WM:aw 93 7=[]:=by kernel_rfl
@[simp] theorem T0:aw 94 10=[]:=by kernel_rfl
@[simp] theorem T3:aw 104 2=[]:=by kernel_rfl
@[simp] theorem T4:aw 104 4=[(3,1)]:=by kernel_rfl
@[simp] theorem T5:aw 105 1=[(4,2),(5,2)]:=by kernel_rfl
@[simp] theorem T6:aw 109 5=[]:=by kernel_rfl
@[simp] theorem T7:aw 114 1=[]:=by kernel_rfl
@[simp] theorem T8:aw 116 2=[]:=by kernel_rfl
@[simp] theorem QT:aw 116 10=[(8,5),(8,6),(9,8),(11,5),(11,6),(12,8),(12,11)]:=by kernel_rfl
@[simp] theorem QU:aw 118 20=[(4,2),(5,2)]:=by kernel_rfl
@[simp] theorem T9:aw 120 1=[]:=by kernel_rfl
@[simp] theorem Ua:aw 122 7=[]:=by kernel_rfl
@[simp] theorem Ub:aw 134 4=[]:=by kernel_rfl
@[simp] theorem Uc:aw 135 1=[]:=by kernel_rfl
@[simp] theorem Ud:aw 137 1=[]:=by kernel_rfl
@[simp] theorem Ue:aw 138 1=[]:=by kernel_rfl
@[simp] theorem Uf:aw 140 1=[(5,2),(8,5),(10,5),(12,5)]:=by kernel_rfl
@[simp] theorem Ug:aw 140 2=[]:=by kernel_rfl
@[simp] theorem Uh:aw 141 1=[]:=by kernel_rfl
@[simp] theorem Ui:aw 142 1=[(8,2),(8,4),(9,8),(10,8),(11,2),(11,4)]:=by kernel_rfl
@[simp] theorem Uj:aw 142 2=[]:=by kernel_rfl
@[simp] theorem Uk:aw 143 1=[(10,7)]:=by kernel_rfl
@[simp] theorem Ul:aw 144 1=[(5,2)]:=by kernel_rfl
@[simp] theorem Um:aw 145 1=[(14,11),(21,18),(29,26),(37,34)]:=by kernel_rfl
@[simp] theorem Un:aw 146 1=[(5,2)]:=by kernel_rfl
@[simp] theorem Uo:aw 146 2=[(5,2)]:=by kernel_rfl
@[simp] theorem Uq:aw 147 1=[(8,5)]:=by kernel_rfl
@[simp] theorem Ur:aw 148 1=[(5,2)]:=by kernel_rfl
@[simp] theorem Us:aw 149 1=[(8,5)]:=by kernel_rfl
@[simp] theorem Ut:aw 150 1=[(5,2)]:=by kernel_rfl
@[simp] theorem Uu:aw 151 4=[]:=by kernel_rfl
@[simp] theorem Uv:aw 151 6=[]:=by kernel_rfl
@[simp] theorem Uw:aw 153 1=[]:=by kernel_rfl
@[simp] theorem Ux:aw 154 1=[]:=by kernel_rfl
@[simp] theorem Uy:aw 155 1=[]:=by kernel_rfl
@[simp] theorem acG {t:Nat}:KC.eqs t=yo t:= .trans rfl rfl
@[simp] theorem Uz (x0 x1:Int):jq KC 170 (.agg [.int .i64 x0, .int .i64 x1])=true:=by kernel_rfl
end
@[simp] theorem abF:eG Tryz.prog 3=some false:=by kernel_rfl
@[simp] theorem ZM:bu Tryz.prog 3=some 1:=by kernel_rfl
@[simp] theorem ZN:ct Tryz.prog 3=some (.pure (.int .i64 0)):=by kernel_rfl
@[simp] theorem abG:eG Tryz.prog 4=some false:=by kernel_rfl
@[simp] theorem ZO:bu Tryz.prog 4=some 1:=by kernel_rfl
@[simp] theorem ZP:ct Tryz.prog 4=some (.pure (.bool false)):=by kernel_rfl
@[simp] theorem ZQ:eG Tryz.prog 22=some false:=by kernel_rfl
@[simp] theorem WN:bu Tryz.prog 22=some 1:=by kernel_rfl
@[simp] theorem WO:gJ Tryz.prog 22=some (some 2):=by kernel_rfl
@[simp] theorem ZR:fQ Tryz.prog 22=none:=by kernel_rfl
@[simp] theorem ZS:wz Tryz.prog 22=some ((some 2),(some 16),(some 2)):=by kernel_rfl
@[simp] theorem ZT:xk Tryz.prog 22=some ((some 2),(some [(.pure (.int .i64 0)),(.pure (.int .i64 0))])):=by kernel_rfl
@[simp] theorem QV:ey Tryz.prog (some 22)=true:=by kernel_rfl
@[simp] theorem ZU:eG Tryz.prog 23=some false:=by kernel_rfl
@[simp] theorem WQ:bu Tryz.prog 23=some 1:=by kernel_rfl
@[simp] theorem WR:gJ Tryz.prog 23=some (some 5):=by kernel_rfl
@[simp] theorem ZV:fQ Tryz.prog 23=none:=by kernel_rfl
@[simp] theorem ZW:wz Tryz.prog 23=some ((some 5),(some 40),(some 5)):=by kernel_rfl
@[simp] theorem ZX:xk Tryz.prog 23=some ((some 5),(some [(.pure (.int .i64 0)),(.pure (.int .i64 0)),(.pure (.int .i64 0)),(.pure (.int .i64 0)),(.pure (.bool false))])):=by kernel_rfl
@[simp] theorem QW:ey Tryz.prog (some 23)=true:=by kernel_rfl
@[simp] theorem ZY:eG Tryz.prog 24=some false:=by kernel_rfl
@[simp] theorem WS:bu Tryz.prog 24=some 1:=by kernel_rfl
@[simp] theorem WT:gJ Tryz.prog 24=some (some 1):=by kernel_rfl
@[simp] theorem ZZ:fQ Tryz.prog 24=none:=by kernel_rfl
@[simp] theorem Z0:wz Tryz.prog 24=some ((some 1),(some 8),(some 1)):=by kernel_rfl
@[simp] theorem Z1:xk Tryz.prog 24=some ((some 1),(some [(.pure (.int .i64 0))])):=by kernel_rfl
@[simp] theorem abH:tmk Tryz.prog 24=some ((some 1),(some 8),(some [(.int .i64 0)])):=by kernel_rfl
@[simp] theorem QX:ey Tryz.prog (some 24)=true:=by kernel_rfl
@[simp] theorem Z2:eG Tryz.prog 25=some false:=by kernel_rfl
@[simp] theorem WU:bu Tryz.prog 25=some 1:=by kernel_rfl
@[simp] theorem WV:ct Tryz.prog 25=some .aS:=by kernel_rfl
@[simp] theorem WW:gJ Tryz.prog 25=some (some 9):=by kernel_rfl
@[simp] theorem Z3:fQ Tryz.prog 25=none:=by kernel_rfl
@[simp] theorem Z4:wz Tryz.prog 25=some ((some 9),(some 72),(some 9)):=by kernel_rfl
@[simp] theorem Z5:xk Tryz.prog 25=some ((some 9),(some [(.pure (.int .i64 0)),(.pure (.int .i64 0)),(.pure (.int .i64 0)),(.pure (.int .i64 0)),(.pure (.int .i64 0)),(.pure (.int .i64 0)),(.pure (.int .i64 0)),(.pure (.int .i64 0)),(.pure (.int .i64 0))])):=by kernel_rfl
@[simp] theorem QY:ey Tryz.prog (some 25)=true:=by kernel_rfl
@[simp] theorem Z6:eG Tryz.prog 27=some true:=by kernel_rfl
@[simp] theorem WX:bu Tryz.prog 27=some 7:=by kernel_rfl
@[simp] theorem WY:ct Tryz.prog 27=some (.agg [(.pure (.int .i64 0)),(.pure (.int .i64 0)), .aS, .aS, .aS, .aS, .aS]):=by kernel_rfl
@[simp] theorem Z7:fQ Tryz.prog 27=none:=by kernel_rfl
@[simp] theorem QZ:fM Tryz.prog 27=some [(0,1),(1,1),(2,1),(3,1),(4,1),(5,1),(6,1)]:=by kernel_rfl
@[simp] theorem Z8:eG Tryz.prog 29=some true:=by kernel_rfl
@[simp] theorem WZ:bu Tryz.prog 29=some 9:=by kernel_rfl
@[simp] theorem W0:ct Tryz.prog 29=some (.pure (.agg [(.int .i64 0),(.int .i64 0),(.int .i64 0),(.int .i64 0),(.int .i64 0),(.int .i64 0),(.int .i64 0),(.int .i64 0),(.int .i64 0)])):=by kernel_rfl
@[simp] theorem Z9:fQ Tryz.prog 29=none:=by kernel_rfl
@[simp] theorem Q0:fM Tryz.prog 29=some [(0,1),(1,1),(2,1),(3,1),(4,1),(5,1),(6,1),(7,1),(8,1)]:=by kernel_rfl
@[simp] theorem aaa:eG Tryz.prog 38=some false:=by kernel_rfl
@[simp] theorem W9:bu Tryz.prog 38=some 1:=by kernel_rfl
@[simp] theorem Xa:gJ Tryz.prog 38=some (some 2):=by kernel_rfl
@[simp] theorem aab:fQ Tryz.prog 38=none:=by kernel_rfl
@[simp] theorem aac:wz Tryz.prog 38=some ((some 2),(some 16),(some 2)):=by kernel_rfl
@[simp] theorem aad:xk Tryz.prog 38=some ((some 2),(some [(.pure (.int .i64 0)),(.pure (.int .i64 0))])):=by kernel_rfl
@[simp] theorem Q1:ey Tryz.prog (some 38)=true:=by kernel_rfl
@[simp] theorem aae:eG Tryz.prog 39=some false:=by kernel_rfl
@[simp] theorem Xc:bu Tryz.prog 39=some 1:=by kernel_rfl
@[simp] theorem Xd:gJ Tryz.prog 39=some (some 2):=by kernel_rfl
@[simp] theorem aaf:fQ Tryz.prog 39=none:=by kernel_rfl
@[simp] theorem aag:wz Tryz.prog 39=some ((some 2),(some 16),(some 2)):=by kernel_rfl
@[simp] theorem aah:xk Tryz.prog 39=some ((some 2),(some [(.pure (.int .i64 0)),(.pure (.int .i64 0))])):=by kernel_rfl
@[simp] theorem Q2:ey Tryz.prog (some 39)=true:=by kernel_rfl
@[simp] theorem aai:eG Tryz.prog 41=some true:=by kernel_rfl
@[simp] theorem Xe:bu Tryz.prog 41=some 3:=by kernel_rfl
@[simp] theorem Xf:ct Tryz.prog 41=some (.agg [.aS, .aS, .aS]):=by kernel_rfl
@[simp] theorem aaj:fQ Tryz.prog 41=none:=by kernel_rfl
@[simp] theorem Q3:fM Tryz.prog 41=some [(0,1),(1,1),(2,1)]:=by kernel_rfl
@[simp] theorem aak:eG Tryz.prog 45=some false:=by kernel_rfl
@[simp] theorem Xh:bu Tryz.prog 45=some 1:=by kernel_rfl
@[simp] theorem Xi:ct Tryz.prog 45=some .aS:=by kernel_rfl
@[simp] theorem Xj:gJ Tryz.prog 45=some (some 3):=by kernel_rfl
@[simp] theorem aal:fQ Tryz.prog 45=none:=by kernel_rfl
@[simp] theorem aam:wz Tryz.prog 45=some ((some 3),(some 72),(some 3)):=by kernel_rfl
@[simp] theorem aan:xk Tryz.prog 45=some ((some 3),(some [.aS, .aS, .aS])):=by kernel_rfl
@[simp] theorem Q4:ey Tryz.prog (some 45)=true:=by kernel_rfl
@[simp] theorem aao:eG Tryz.prog 74=some true:=by kernel_rfl
@[simp] theorem Xk:bu Tryz.prog 74=some 2:=by kernel_rfl
@[simp] theorem Xl:ct Tryz.prog 74=some (.pure (.agg [(.int .i64 0),(.int .i64 0)])):=by kernel_rfl
@[simp] theorem aap:fQ Tryz.prog 74=none:=by kernel_rfl
@[simp] theorem Q5:fM Tryz.prog 74=some [(0,1),(1,1)]:=by kernel_rfl
@[simp] theorem aaq:eG Tryz.prog 84=some true:=by kernel_rfl
@[simp] theorem Xm:bu Tryz.prog 84=some 2:=by kernel_rfl
@[simp] theorem Xn:ct Tryz.prog 84=some (.pure (.agg [(.int .i64 0),(.int .i64 0)])):=by kernel_rfl
@[simp] theorem aar:fQ Tryz.prog 84=some (2,(some 1),(some false)):=by kernel_rfl
@[simp] theorem aas:eG Tryz.prog 86=some true:=by kernel_rfl
@[simp] theorem Xo:bu Tryz.prog 86=some 5:=by kernel_rfl
@[simp] theorem Xp:ct Tryz.prog 86=some (.pure (.agg [(.int .i64 0),(.int .i64 0),(.int .i64 0),(.int .i64 0),(.bool false)])):=by kernel_rfl
@[simp] theorem aat:fQ Tryz.prog 86=none:=by kernel_rfl
@[simp] theorem Q6:fM Tryz.prog 86=some [(0,1),(1,1),(2,1),(3,1),(4,1)]:=by kernel_rfl
@[simp] theorem aau:eG Tryz.prog 87=some false:=by kernel_rfl
@[simp] theorem Xq:bu Tryz.prog 87=some 1:=by kernel_rfl
@[simp] theorem Xr:ct Tryz.prog 89=some (.pure (.agg [(.int .u64 0)])):=by kernel_rfl
@[simp] theorem aav:fQ Tryz.prog 89=none:=by kernel_rfl
@[simp] theorem Q7:fM Tryz.prog 89=some [(0,1)]:=by kernel_rfl
@[simp] theorem aaw:eG Tryz.prog 94=some true:=by kernel_rfl
@[simp] theorem Xs:bu Tryz.prog 94=some 10:=by kernel_rfl
@[simp] theorem Xt:ct Tryz.prog 94=some (.agg [(.pure (.int .i64 0)),(.pure (.int .i64 0)), .aS, .aS, .aS, .aS, .aS, .aS, .aS, .aS]):=by kernel_rfl
@[simp] theorem aax:fQ Tryz.prog 94=none:=by kernel_rfl
@[simp] theorem Q8:fM Tryz.prog 94=some [(0,7),(7,3)]:=by kernel_rfl
@[simp] theorem Xu:eG Tryz.prog 105=some true:=by kernel_rfl
@[simp] theorem UA:bu Tryz.prog 105=some 2:=by kernel_rfl
@[simp] theorem UB:ct Tryz.prog 105=some (.pure (.agg [(.int .i64 0),(.int .i64 0)])):=by kernel_rfl
@[simp] theorem Xv:fQ Tryz.prog 105=none:=by kernel_rfl
@[simp] theorem Nq:fM Tryz.prog 105=some [(0,1),(1,1)]:=by kernel_rfl
@[simp] theorem Xw:eG Tryz.prog 130=some true:=by kernel_rfl
@[simp] theorem UC:bu Tryz.prog 130=some 3:=by kernel_rfl
@[simp] theorem UD:ct Tryz.prog 130=some (.agg [.aS, .aS, .aS]):=by kernel_rfl
@[simp] theorem Xx:fQ Tryz.prog 130=none:=by kernel_rfl
@[simp] theorem Nr:fM Tryz.prog 130=some [(0,1),(1,1),(2,1)]:=by kernel_rfl
@[simp] theorem Xy:eG Tryz.prog 133=some false:=by kernel_rfl
@[simp] theorem UE:bu Tryz.prog 133=some 1:=by kernel_rfl
@[simp] theorem Xz:eG Tryz.prog 146=some false:=by kernel_rfl
@[simp] theorem UF:bu Tryz.prog 146=some 1:=by kernel_rfl
@[simp] theorem UG:ct Tryz.prog 146=some (.pure .fZ):=by kernel_rfl
@[simp] theorem XA:eG Tryz.prog 147=some false:=by kernel_rfl
@[simp] theorem UH:bu Tryz.prog 147=some 1:=by kernel_rfl
@[simp] theorem UI:ct Tryz.prog 147=some (.pure .fZ):=by kernel_rfl
@[simp] theorem XB:eG Tryz.prog 161=some true:=by kernel_rfl
@[simp] theorem UJ:bu Tryz.prog 161=some 2:=by kernel_rfl
@[simp] theorem UK:ct Tryz.prog 161=some (.pure (.agg [.fZ, .fZ])):=by kernel_rfl
@[simp] theorem XC:fQ Tryz.prog 161=none:=by kernel_rfl
@[simp] theorem Ns:fM Tryz.prog 161=some [(0,1),(1,1)]:=by kernel_rfl
@[simp] theorem aay:tmz Tryz.prog 166=some (170,(some (.pure (.bool false)))):=by kernel_rfl
@[simp] theorem XD:xe Tryz.prog 166=some (170,4):=by kernel_rfl
@[simp] theorem UL:gJ Tryz.prog 167=some (some 2):=by kernel_rfl
@[simp] theorem XE:fQ Tryz.prog 167=none:=by kernel_rfl
@[simp] theorem XF:wz Tryz.prog 167=some ((some 2),(some 16),(some 2)):=by kernel_rfl
@[simp] theorem XG:xk Tryz.prog 167=some ((some 2),(some [(.pure (.int .i64 0)),(.pure (.int .i64 0))])):=by kernel_rfl
@[simp] theorem Nt:ey Tryz.prog (some 167)=true:=by kernel_rfl
@[simp] theorem XH:eG Tryz.prog 170=some true:=by kernel_rfl
@[simp] theorem UM:bu Tryz.prog 170=some 2:=by kernel_rfl
@[simp] theorem UN:ct Tryz.prog 170=some (.pure (.agg [(.int .i64 0),(.int .i64 0)])):=by kernel_rfl
@[simp] theorem XI:fQ Tryz.prog 170=none:=by kernel_rfl
@[simp] theorem Nu:fM Tryz.prog 170=some [(0,1),(1,1)]:=by kernel_rfl
@[simp] theorem UO:bu Tryz.prog 172=some 18:=by kernel_rfl
@[simp] theorem UP:ct Tryz.prog 172=some (.pure (.agg [.fZ, .fZ, .fZ, .fZ, .fZ, .fZ, .fZ, .fZ, .fZ, .fZ, .fZ, .fZ, .fZ, .fZ, .fZ, .fZ, .fZ, .fZ])):=by kernel_rfl
@[simp] theorem XJ:fQ Tryz.prog 172=some (9,(some 2),(some true)):=by kernel_rfl
@[simp] theorem aaz:Jc Tryz.prog 25=some ((some 9),(some [(.int .i64 0),(.int .i64 0),(.int .i64 0),(.int .i64 0),(.int .i64 0),(.int .i64 0),(.int .i64 0),(.int .i64 0),(.int .i64 0)])):=by kernel_rfl
@[simp] theorem XK:ow Tryz.prog 27 0=some (0,(some 1)):=by kernel_rfl
@[simp] theorem XL:ow Tryz.prog 27 1=some (1,(some 1)):=by kernel_rfl
@[simp] theorem XM:ow Tryz.prog 27 2=some (2,(some 1)):=by kernel_rfl
@[simp] theorem XN:ow Tryz.prog 27 3=some (3,(some 1)):=by kernel_rfl
@[simp] theorem XO:ow Tryz.prog 27 4=some (4,(some 1)):=by kernel_rfl
@[simp] theorem XP:ow Tryz.prog 27 5=some (5,(some 1)):=by kernel_rfl
@[simp] theorem XQ:ow Tryz.prog 27 6=some (6,(some 1)):=by kernel_rfl
@[simp] theorem XR:ow Tryz.prog 29 0=some (0,(some 1)):=by kernel_rfl
@[simp] theorem XS:ow Tryz.prog 29 1=some (1,(some 1)):=by kernel_rfl
@[simp] theorem XT:ow Tryz.prog 29 2=some (2,(some 1)):=by kernel_rfl
@[simp] theorem XU:ow Tryz.prog 29 3=some (3,(some 1)):=by kernel_rfl
@[simp] theorem XV:ow Tryz.prog 29 4=some (4,(some 1)):=by kernel_rfl
@[simp] theorem XW:ow Tryz.prog 29 5=some (5,(some 1)):=by kernel_rfl
@[simp] theorem XX:ow Tryz.prog 29 6=some (6,(some 1)):=by kernel_rfl
@[simp] theorem XY:ow Tryz.prog 29 7=some (7,(some 1)):=by kernel_rfl
@[simp] theorem XZ:ow Tryz.prog 29 8=some (8,(some 1)):=by kernel_rfl
@[simp] theorem X0:ow Tryz.prog 41 0=some (0,(some 1)):=by kernel_rfl
@[simp] theorem X1:ow Tryz.prog 41 1=some (1,(some 1)):=by kernel_rfl
@[simp] theorem X2:ow Tryz.prog 41 2=some (2,(some 1)):=by kernel_rfl
@[simp] theorem X3:ow Tryz.prog 74 0=some (0,(some 1)):=by kernel_rfl
@[simp] theorem X4:ow Tryz.prog 74 1=some (1,(some 1)):=by kernel_rfl
@[simp] theorem X5:ow Tryz.prog 86 0=some (0,(some 1)):=by kernel_rfl
@[simp] theorem X6:ow Tryz.prog 86 1=some (1,(some 1)):=by kernel_rfl
@[simp] theorem X7:ow Tryz.prog 86 2=some (2,(some 1)):=by kernel_rfl
@[simp] theorem X8:ow Tryz.prog 86 3=some (3,(some 1)):=by kernel_rfl
@[simp] theorem X9:ow Tryz.prog 86 4=some (4,(some 1)):=by kernel_rfl
@[simp] theorem Ya:ow Tryz.prog 89 0=some (0,(some 1)):=by kernel_rfl
@[simp] theorem Yb:ow Tryz.prog 94 0=some (0,(some 7)):=by kernel_rfl
@[simp] theorem Yc:ow Tryz.prog 94 1=some (7,(some 3)):=by kernel_rfl
@[simp] theorem Yd:YN Tryz.prog 94 1=some (7,(some true),(some 3)):=by kernel_rfl
@[simp] theorem UQ:ow Tryz.prog 105 0=some (0,(some 1)):=by kernel_rfl
@[simp] theorem UR:ow Tryz.prog 105 1=some (1,(some 1)):=by kernel_rfl
@[simp] theorem US:ow Tryz.prog 130 0=some (0,(some 1)):=by kernel_rfl
@[simp] theorem UT:ow Tryz.prog 130 1=some (1,(some 1)):=by kernel_rfl
@[simp] theorem UU:ow Tryz.prog 130 2=some (2,(some 1)):=by kernel_rfl
@[simp] theorem UW:YN Tryz.prog 161 0=some (0,(some false),(some 1)):=by kernel_rfl
@[simp] theorem UX:YN Tryz.prog 161 1=some (1,(some false),(some 1)):=by kernel_rfl
attribute [simp] Tryz.results2 Tryz.ntmps2
attribute [simp] Tryz.results3 Tryz.ntmps3
attribute [simp] Tryz.results4 Tryz.ntmps4
attribute [simp] Tryz.results5 Tryz.ntmps5
attribute [simp] Tryz.results6 Tryz.ntmps6
attribute [simp] Tryz.results7 Tryz.ntmps7
attribute [simp] Tryz.results8 Tryz.ntmps8
attribute [simp] Tryz.results9 Tryz.ntmps9
attribute [simp] Tryz.results10 Tryz.ntmps10
attribute [simp] Tryz.results11 Tryz.ntmps11
attribute [simp] Tryz.results12 Tryz.ntmps12
attribute [simp] Tryz.results13 Tryz.ntmps13
attribute [simp] Tryz.results14 Tryz.ntmps14
attribute [simp] Tryz.results15 Tryz.ntmps15
attribute [simp] Tryz.results16 Tryz.ntmps16
attribute [simp] Tryz.results17 Tryz.ntmps17
attribute [simp] Tryz.results18 Tryz.ntmps18
attribute [simp] Tryz.results19 Tryz.ntmps19
attribute [simp] Tryz.results20 Tryz.ntmps20
attribute [simp] Tryz.results21 Tryz.ntmps21
attribute [simp] Tryz.results22 Tryz.ntmps22
attribute [simp] Tryz.results23 Tryz.ntmps23
attribute [simp] Tryz.results24 Tryz.ntmps24
attribute [simp] Tryz.results25 Tryz.ntmps25
attribute [simp] Tryz.results26 Tryz.ntmps26
attribute [simp] Tryz.results27 Tryz.ntmps27
attribute [simp] Tryz.results28 Tryz.ntmps28
attribute [simp] Tryz.results29 Tryz.ntmps29
attribute [simp] Tryz.results30 Tryz.ntmps30
attribute [simp] Tryz.results31 Tryz.ntmps31
attribute [simp] Tryz.results32 Tryz.ntmps32
attribute [simp] Tryz.results33 Tryz.ntmps33
attribute [simp] Tryz.results34 Tryz.ntmps34
attribute [simp] Tryz.results35 Tryz.ntmps35
attribute [simp] Tryz.results36 Tryz.ntmps36
attribute [simp] Tryz.results37 Tryz.ntmps37
attribute [simp] Tryz.results38 Tryz.ntmps38
attribute [simp] Tryz.results39 Tryz.ntmps39
attribute [simp] Tryz.results40 Tryz.ntmps40
attribute [simp] Tryz.results41 Tryz.ntmps41
attribute [simp] Tryz.results42 Tryz.ntmps42
attribute [simp] Tryz.results43 Tryz.ntmps43
attribute [simp] Tryz.results44 Tryz.ntmps44
attribute [simp] Tryz.results45 Tryz.ntmps45
attribute [simp] Tryz.results46 Tryz.ntmps46
attribute [simp] Tryz.results47 Tryz.ntmps47
attribute [simp] Tryz.results48 Tryz.ntmps48
attribute [simp] Tryz.results49 Tryz.ntmps49
attribute [simp] Tryz.results50 Tryz.ntmps50
attribute [simp] Tryz.results51 Tryz.ntmps51
attribute [simp] Tryz.results52 Tryz.ntmps52
attribute [simp] Tryz.results53 Tryz.ntmps53
attribute [simp] Tryz.results54 Tryz.ntmps54
attribute [simp] Tryz.results55 Tryz.ntmps55
attribute [simp] Tryz.results56 Tryz.ntmps56
attribute [simp] Tryz.results57 Tryz.ntmps57
attribute [simp] Tryz.results58 Tryz.ntmps58
attribute [simp] Tryz.results59 Tryz.ntmps59
attribute [simp] Tryz.results60 Tryz.ntmps60
attribute [simp] Tryz.results61 Tryz.ntmps61
attribute [simp] Tryz.results62 Tryz.ntmps62
attribute [simp] Tryz.results63 Tryz.ntmps63
attribute [simp] Tryz.results64 Tryz.ntmps64
attribute [simp] Tryz.results65 Tryz.ntmps65
attribute [simp] Tryz.results66 Tryz.ntmps66
attribute [simp] Tryz.results67 Tryz.ntmps67
attribute [simp] Tryz.results68 Tryz.ntmps68
attribute [simp] Tryz.results69 Tryz.ntmps69
attribute [simp] Tryz.results70 Tryz.ntmps70
attribute [simp] Tryz.results71 Tryz.ntmps71
attribute [simp] Tryz.results72 Tryz.ntmps72
attribute [simp] Tryz.results73 Tryz.ntmps73
attribute [simp] Tryz.results74 Tryz.ntmps74
attribute [simp] Tryz.results75 Tryz.ntmps75
attribute [simp] Tryz.results76 Tryz.ntmps76
attribute [simp] Tryz.results77 Tryz.ntmps77
attribute [simp] Tryz.results78 Tryz.ntmps78
attribute [simp] Tryz.results79 Tryz.ntmps79
attribute [simp] Tryz.results80 Tryz.ntmps80
attribute [simp] Tryz.results81 Tryz.ntmps81
attribute [simp] Tryz.results82 Tryz.ntmps82
attribute [simp] Tryz.results83 Tryz.ntmps83
attribute [simp] Tryz.results84 Tryz.ntmps84
attribute [simp] Tryz.results85 Tryz.ntmps85
attribute [simp] Tryz.results86 Tryz.ntmps86
attribute [simp] Tryz.results87 Tryz.ntmps87
attribute [simp] Tryz.results88 Tryz.ntmps88
attribute [simp] Tryz.results89 Tryz.ntmps89
attribute [simp] Tryz.results90 Tryz.ntmps90
attribute [simp] Tryz.results91 Tryz.ntmps91
attribute [simp] Tryz.results92 Tryz.ntmps92
attribute [simp] Tryz.results93 Tryz.ntmps93
attribute [simp] Tryz.results94 Tryz.ntmps94
attribute [simp] Tryz.results95 Tryz.ntmps95
attribute [simp] Tryz.results96 Tryz.ntmps96
attribute [simp] Tryz.results97 Tryz.ntmps97
attribute [simp] Tryz.results98 Tryz.ntmps98
attribute [simp] Tryz.results99 Tryz.ntmps99
attribute [simp] Tryz.results100 Tryz.ntmps100
attribute [simp] Tryz.results101 Tryz.ntmps101
attribute [simp] Tryz.results102 Tryz.ntmps102
attribute [simp] Tryz.results103 Tryz.ntmps103
attribute [simp] Tryz.results104 Tryz.ntmps104
attribute [simp] Tryz.results105 Tryz.ntmps105
attribute [simp] Tryz.results106 Tryz.ntmps106
attribute [simp] Tryz.results107 Tryz.ntmps107
attribute [simp] Tryz.results108 Tryz.ntmps108
attribute [simp] Tryz.results109 Tryz.ntmps109
attribute [simp] Tryz.results110 Tryz.ntmps110
attribute [simp] Tryz.results111 Tryz.ntmps111
attribute [simp] Tryz.results112 Tryz.ntmps112
attribute [simp] Tryz.results113 Tryz.ntmps113
attribute [simp] Tryz.results114 Tryz.ntmps114
attribute [simp] Tryz.results115 Tryz.ntmps115
attribute [simp] Tryz.results116 Tryz.ntmps116
attribute [simp] Tryz.results117 Tryz.ntmps117
attribute [simp] Tryz.results118 Tryz.ntmps118
attribute [simp] Tryz.results119 Tryz.ntmps119
attribute [simp] Tryz.results120 Tryz.ntmps120
attribute [simp] Tryz.results121 Tryz.ntmps121
attribute [simp] Tryz.results122 Tryz.ntmps122
attribute [simp] Tryz.results123 Tryz.ntmps123
attribute [simp] Tryz.results124 Tryz.ntmps124
attribute [simp] Tryz.results125 Tryz.ntmps125
attribute [simp] Tryz.results126 Tryz.ntmps126
attribute [simp] Tryz.results127 Tryz.ntmps127
attribute [simp] Tryz.results128 Tryz.ntmps128
attribute [simp] Tryz.results129 Tryz.ntmps129
attribute [simp] Tryz.results130 Tryz.ntmps130
attribute [simp] Tryz.results131 Tryz.ntmps131
attribute [simp] Tryz.results132 Tryz.ntmps132
attribute [simp] Tryz.results133 Tryz.ntmps133
attribute [simp] Tryz.results134 Tryz.ntmps134
attribute [simp] Tryz.results135 Tryz.ntmps135
attribute [simp] Tryz.results136 Tryz.ntmps136
attribute [simp] Tryz.results137 Tryz.ntmps137
attribute [simp] Tryz.results138 Tryz.ntmps138
attribute [simp] Tryz.results139 Tryz.ntmps139
attribute [simp] Tryz.results140 Tryz.ntmps140
attribute [simp] Tryz.results141 Tryz.ntmps141
attribute [simp] Tryz.results142 Tryz.ntmps142
attribute [simp] Tryz.results143 Tryz.ntmps143
attribute [simp] Tryz.results144 Tryz.ntmps144
attribute [simp] Tryz.results145 Tryz.ntmps145
attribute [simp] Tryz.results146 Tryz.ntmps146
attribute [simp] Tryz.results147 Tryz.ntmps147
attribute [simp] Tryz.results148 Tryz.ntmps148
attribute [simp] Tryz.results149 Tryz.ntmps149
attribute [simp] Tryz.results150 Tryz.ntmps150
attribute [simp] Tryz.results151 Tryz.ntmps151
attribute [simp] Tryz.results152 Tryz.ntmps152
attribute [simp] Tryz.results153 Tryz.ntmps153
attribute [simp] Tryz.results154 Tryz.ntmps154
attribute [simp] Tryz.results155 Tryz.ntmps155
attribute [simp] Tryz.results156 Tryz.ntmps156
attribute [simp] Tryz.results157 Tryz.ntmps157
attribute [simp] Tryz.results158 Tryz.ntmps158
attribute [simp] Tryz.results159 Tryz.ntmps159
section
def jT:Code→List Code
 | .seq a b=>jT a++jT b
 | .cond _ a b=>jT a++jT b
 | .block _ a=>jT a
 | .scope a=>jT a
 | .loop a=>a::jT a
 | .rangeFunc _ _ a b=>jT a++jT b
 |_=> []
def lp (g:Func)(k:Nat):Code:=((jT (g.body.getD .skip))[k]?).getD .skip
noncomputable def ov {α:Type}(a:α):α:=Classical.choose (⟨a,rfl⟩: ∃x,x=a)
theorem cN {α:Type}(a:α):ov a=a:=Classical.choose_spec (⟨a,rfl⟩: ∃x,x=a)
section
variable {K:Ctx} {fn:FuncId} {H:ai}
def saV (v:GV)(x:Option (GV×ai)):Bool:=match x with|some (v',_)=>GV.beq v' v|none=>false
@[simp] theorem aaA {v v':GV}:saV v (some (v',H))=GV.beq v' v:=rfl
@[simp] theorem UY {o:Oper}{s:aZ}{v:GV}:sameAt K fn o s v H=saV v (ez K fn o s H):=by
 unfold sameAt saV;rfl
@[simp] theorem Hc (n:Nat):((n:Int)<0)=False:=by simp
theorem c8 {x:Int}(h1: -9223372036854775808≤x)(h2:x≤9223372036854775807):IntKind.i64.wrap x=x:=IntWalk.i64_in x ⟨h1,h2⟩
def bw (w:Int):dB:= .box [.pure (.int .u64 w)]
def fI (H:ai)(nm:Nm):Prop:= ∃w,H.get nm=some (bw w)∧H.set nm (bw w)=H
def bE (H:ai)(nm:Nm):Int:=match H.get nm with|some (.box [.pure (.int _ w)])=>w|_=>0
theorem yp {nm:Nm}(h:fI H nm):H.get nm=some (bw (bE H nm)):=by
 obtain⟨w,h1,h2⟩:=h;simp only [bE,h1,bw]
theorem jJ {nm:Nm}(h:fI H nm):H.set nm (bw (bE H nm))=H:=by
 obtain⟨w,h1,h2⟩:=h;simp only [bE,h1,bw];exact h2
theorem gE {nm:Nm}(h:fI H nm):nm.1<H.length:=by
 obtain⟨w,h1,h2⟩:=h;exact ai.bQ h1
theorem Fr.cP {q : Nat} {x y : dB} : ∀ f : Fr, (f.ins q x).ins q y = f.ins q y
  | [] => by simp [Fr.ins]
  | (k, b) :: r => by
    simp only [Fr.ins]
    split
    · simp [Fr.ins]
    · rename_i h
      split
      · simp [Fr.ins]
      · rename_i h2
        simp only [Fr.ins, h, h2, if_false, Fr.cP r]
@[simp] theorem ai.set_set {nm:Nm}{x y:dB}: ∀{H:ai},(H.set nm x).set nm y=H.set nm y
 | []=>rfl
 |f::H=>by
  simp only [ai.set];split
  ·rename_i h;simp only [ai.set,h,if_true,Fr.cP]
  ·rename_i h;simp only [ai.set,ai.length_set,h,if_false,ai.set_set]
attribute [simp] ai.length_set
@[simp] theorem ai.il {nm:Nm}{b:dB}(h:nm.1<H.length):(H.set nm b).get nm=some b:=ai.dX b h
@[simp] theorem lq {nm:Nm}{w:Int}(h:nm.1<H.length):bE (H.set nm (bw w)) nm=w:=by
 simp only [bE,ai.il h,bw]
@[simp] theorem lk {nm:Nm}{w:Int}(h:nm.1<H.length):fI (H.set nm (bw w)) nm:=⟨w,ai.il h,ai.set_set⟩
theorem dW {nm:Nm}{fr:Fr}(h:fI H nm):fI (fr::H) nm:=by
 have hl:=gE h;obtain⟨w,h1,h2⟩:=h;have: ¬nm.1=H.length:=(by omega);exact⟨w,by simp [this,h1],by simp [this,h2]⟩
theorem dy {nm:Nm}{fr:Fr}(h:nm.1<H.length):bE (fr::H) nm=bE H nm:=by
 have: ¬nm.1=H.length:=(by omega);simp [bE,this]
theorem ai.dJ {nm:Nm}{fr:Fr}{b:dB}(h:nm.1<H.length):ai.set (fr::H) nm b=fr::H.set nm b:=by
 have: ¬nm.1=H.length:=(by omega);simp [this]
end
end
theorem Zf:bF KC aw 6 (Tryz.f6.body.getD .skip)=true:=by kernel_rfl
theorem Td:bF KC aw 11 (Tryz.f11.body.getD .skip)=true:=by kernel_rfl
theorem UZ:bF KC aw 12 (Tryz.f12.body.getD .skip)=true:=by kernel_rfl
theorem Th:bF KC aw 13 (Tryz.f13.body.getD .skip)=true:=by kernel_rfl
theorem HF:bF KC aw 15 (Tryz.f15.body.getD .skip)=true:=by kernel_rfl
theorem HG:bF KC aw 17 (Tryz.f17.body.getD .skip)=true:=by kernel_rfl
theorem U0:bF KC aw 21 (Tryz.f21.body.getD .skip)=true:=by kernel_rfl
theorem U1:bF KC aw 24 (Tryz.f24.body.getD .skip)=true:=by kernel_rfl
theorem Sp:bF KC aw 25 (Tryz.f25.body.getD .skip)=true:=by kernel_rfl
theorem U2:bF KC aw 26 (Tryz.f26.body.getD .skip)=true:=by kernel_rfl
theorem SU:bF KC aw 33 (Tryz.f33.body.getD .skip)=true:=by kernel_rfl
theorem SQ:bF KC aw 34 (Tryz.f34.body.getD .skip)=true:=by kernel_rfl
theorem SR:bF KC aw 36 (Tryz.f36.body.getD .skip)=true:=by kernel_rfl
theorem SZ:bF KC aw 38 (Tryz.f38.body.getD .skip)=true:=by kernel_rfl
theorem S8:bF KC aw 39 (Tryz.f39.body.getD .skip)=true:=by kernel_rfl
theorem S5:bF KC aw 40 (Tryz.f40.body.getD .skip)=true:=by kernel_rfl
theorem S7:bF KC aw 44 (Tryz.f44.body.getD .skip)=true:=by kernel_rfl
theorem SJ:bF KC aw 47 (Tryz.f47.body.getD .skip)=true:=by kernel_rfl
theorem Sv:bF KC aw 48 (Tryz.f48.body.getD .skip)=true:=by kernel_rfl
theorem Sr:bF KC aw 49 (Tryz.f49.body.getD .skip)=true:=by kernel_rfl
theorem HN:bF KC aw 50 (Tryz.f50.body.getD .skip)=true:=by kernel_rfl
theorem gL:bF KC aw 51 (Tryz.f51.body.getD .skip)=true:=by kernel_rfl
theorem U3:bF KC aw 52 (Tryz.f52.body.getD .skip)=true:=by kernel_rfl
theorem SD:bF KC aw 53 (Tryz.f53.body.getD .skip)=true:=by kernel_rfl
theorem U4:bF KC aw 54 (Tryz.f54.body.getD .skip)=true:=by kernel_rfl
theorem U5:bF KC aw 55 (Tryz.f55.body.getD .skip)=true:=by kernel_rfl
theorem Te:bF KC aw 56 (Tryz.f56.body.getD .skip)=true:=by kernel_rfl
theorem Sm:bF KC aw 57 (Tryz.f57.body.getD .skip)=true:=by kernel_rfl
theorem Tr:bF KC aw 58 (Tryz.f58.body.getD .skip)=true:=by kernel_rfl
theorem R8:bF KC aw 59 (Tryz.f59.body.getD .skip)=true:=by kernel_rfl
theorem R9:bF KC aw 62 (Tryz.f62.body.getD .skip)=true:=by kernel_rfl
theorem I4:bF KC aw 63 (Tryz.f63.body.getD .skip)=true:=by kernel_rfl
theorem U6:bF KC aw 64 (Tryz.f64.body.getD .skip)=true:=by kernel_rfl
theorem U7:bF KC aw 68 (Tryz.f68.body.getD .skip)=true:=by kernel_rfl
theorem Sf:bF KC aw 69 (Tryz.f69.body.getD .skip)=true:=by kernel_rfl
theorem Sd:bF KC aw 70 (Tryz.f70.body.getD .skip)=true:=by kernel_rfl
theorem U8:bF KC aw 73 (Tryz.f73.body.getD .skip)=true:=by kernel_rfl
theorem Sc:bF KC aw 74 (Tryz.f74.body.getD .skip)=true:=by kernel_rfl
theorem Tj:bF KC aw 75 (Tryz.f75.body.getD .skip)=true:=by kernel_rfl
theorem SP:bF KC aw 79 (Tryz.f79.body.getD .skip)=true:=by kernel_rfl
theorem SH:bF KC aw 83 (Tryz.f83.body.getD .skip)=true:=by kernel_rfl
theorem Ic:bF KC aw 84 (Tryz.f84.body.getD .skip)=true:=by kernel_rfl
theorem So:bF KC aw 85 (Tryz.f85.body.getD .skip)=true:=by kernel_rfl
theorem Sy:bF KC aw 86 (Tryz.f86.body.getD .skip)=true:=by kernel_rfl
theorem SC:bF KC aw 87 (Tryz.f87.body.getD .skip)=true:=by kernel_rfl
theorem Ih:bF KC aw 88 (Tryz.f88.body.getD .skip)=true:=by kernel_rfl
theorem U9:bF KC aw 89 (Tryz.f89.body.getD .skip)=true:=by kernel_rfl
theorem Sk:bF KC aw 90 (Tryz.f90.body.getD .skip)=true:=by kernel_rfl
theorem Sl:bF KC aw 91 (Tryz.f91.body.getD .skip)=true:=by kernel_rfl
theorem Tl:bF KC aw 92 (Tryz.f92.body.getD .skip)=true:=by kernel_rfl
theorem Tq:bF KC aw 93 (Tryz.f93.body.getD .skip)=true:=by kernel_rfl
theorem Tk:bF KC aw 94 (Tryz.f94.body.getD .skip)=true:=by kernel_rfl
theorem Ti:bF KC aw 99 (Tryz.f99.body.getD .skip)=true:=by kernel_rfl
theorem LB:bF KC aw 100 (Tryz.f100.body.getD .skip)=true:=by kernel_rfl
theorem LC:bF KC aw 101 (Tryz.f101.body.getD .skip)=true:=by kernel_rfl
theorem KV:bF KC aw 104 (Tryz.f104.body.getD .skip)=true:=by kernel_rfl
theorem Nv:bF KC aw 105 (Tryz.f105.body.getD .skip)=true:=by kernel_rfl
theorem KU:bF KC aw 106 (Tryz.f106.body.getD .skip)=true:=by kernel_rfl
theorem KR:bF KC aw 107 (Tryz.f107.body.getD .skip)=true:=by kernel_rfl
theorem KP:bF KC aw 108 (Tryz.f108.body.getD .skip)=true:=by kernel_rfl
theorem KN:bF KC aw 109 (Tryz.f109.body.getD .skip)=true:=by kernel_rfl
theorem Nw:bF KC aw 112 (Tryz.f112.body.getD .skip)=true:=by kernel_rfl
theorem K7:bF KC aw 114 (Tryz.f114.body.getD .skip)=true:=by kernel_rfl
theorem Nx:bF KC aw 115 (Tryz.f115.body.getD .skip)=true:=by kernel_rfl
theorem Ea:bF KC aw 116 (Tryz.f116.body.getD .skip)=true:=by kernel_rfl
theorem K6:bF KC aw 117 (Tryz.f117.body.getD .skip)=true:=by kernel_rfl
theorem Ex:bF KC aw 118 (Tryz.f118.body.getD .skip)=true:=by kernel_rfl
theorem Lb:bF KC aw 120 (Tryz.f120.body.getD .skip)=true:=by kernel_rfl
theorem Lc:bF KC aw 121 (Tryz.f121.body.getD .skip)=true:=by kernel_rfl
theorem Lj:bF KC aw 122 (Tryz.f122.body.getD .skip)=true:=by kernel_rfl
theorem Ny:bF KC aw 123 (Tryz.f123.body.getD .skip)=true:=by kernel_rfl
theorem Nz:bF KC aw 124 (Tryz.f124.body.getD .skip)=true:=by kernel_rfl
theorem NA:bF KC aw 125 (Tryz.f125.body.getD .skip)=true:=by kernel_rfl
theorem La:bF KC aw 126 (Tryz.f126.body.getD .skip)=true:=by kernel_rfl
theorem NB:bF KC aw 127 (Tryz.f127.body.getD .skip)=true:=by kernel_rfl
theorem KT:bF KC aw 128 (Tryz.f128.body.getD .skip)=true:=by kernel_rfl
theorem KO:bF KC aw 129 (Tryz.f129.body.getD .skip)=true:=by kernel_rfl
theorem NC:bF KC aw 130 (Tryz.f130.body.getD .skip)=true:=by kernel_rfl
theorem ND:bF KC aw 131 (Tryz.f131.body.getD .skip)=true:=by kernel_rfl
theorem K5:bF KC aw 132 (Tryz.f132.body.getD .skip)=true:=by kernel_rfl
theorem K4:bF KC aw 133 (Tryz.f133.body.getD .skip)=true:=by kernel_rfl
theorem NF:bF KC aw 134 (Tryz.f134.body.getD .skip)=true:=by kernel_rfl
theorem NG:bF KC aw 135 (Tryz.f135.body.getD .skip)=true:=by kernel_rfl
theorem Ey:bF KC aw 136 (Tryz.f136.body.getD .skip)=true:=by kernel_rfl
theorem NH:bF KC aw 137 (Tryz.f137.body.getD .skip)=true:=by kernel_rfl
theorem NI:bF KC aw 138 (Tryz.f138.body.getD .skip)=true:=by kernel_rfl
theorem NJ:bF KC aw 139 (Tryz.f139.body.getD .skip)=true:=by kernel_rfl
theorem NK:bF KC aw 140 (Tryz.f140.body.getD .skip)=true:=by kernel_rfl
theorem NL:bF KC aw 141 (Tryz.f141.body.getD .skip)=true:=by kernel_rfl
theorem EA:bF KC aw 142 (Tryz.f142.body.getD .skip)=true:=by kernel_rfl
theorem NM:bF KC aw 143 (Tryz.f143.body.getD .skip)=true:=by kernel_rfl
theorem NN:bF KC aw 144 (Tryz.f144.body.getD .skip)=true:=by kernel_rfl
theorem NO:bF KC aw 145 (Tryz.f145.body.getD .skip)=true:=by kernel_rfl
theorem NP:bF KC aw 146 (Tryz.f146.body.getD .skip)=true:=by kernel_rfl
theorem NQ:bF KC aw 147 (Tryz.f147.body.getD .skip)=true:=by kernel_rfl
theorem NR:bF KC aw 148 (Tryz.f148.body.getD .skip)=true:=by kernel_rfl
theorem NS:bF KC aw 149 (Tryz.f149.body.getD .skip)=true:=by kernel_rfl
theorem NT:bF KC aw 150 (Tryz.f150.body.getD .skip)=true:=by kernel_rfl
theorem KS:bF KC aw 151 (Tryz.f151.body.getD .skip)=true:=by kernel_rfl
theorem NU:bF KC aw 153 (Tryz.f153.body.getD .skip)=true:=by kernel_rfl
theorem NV:bF KC aw 154 (Tryz.f154.body.getD .skip)=true:=by kernel_rfl
theorem NW:bF KC aw 155 (Tryz.f155.body.getD .skip)=true:=by kernel_rfl
theorem NX:bF KC aw 156 (Tryz.f156.body.getD .skip)=true:=by kernel_rfl
theorem NY:bF KC aw 157 (Tryz.f157.body.getD .skip)=true:=by kernel_rfl
section
@[simp] theorem abI (n:Nat):(n=n+1+1)=False:=by simp;omega
@[simp] theorem abJ (n:Nat):(n=n+1+1+1)=False:=by simp;omega
@[simp] theorem abK (n:Nat):(n=n+1+1+1+1)=False:=by simp;omega
@[simp] theorem aaB (n:Nat):(n+1+1=n)=False:=by simp;omega
@[simp] theorem aaC (n:Nat):(n+1+1+1=n)=False:=by simp;omega
@[simp] theorem aaD (n:Nat):(n+1+1≤n)=False:=by simp;omega
@[simp] theorem abL (n:Nat):(n≤n+1+1)=True:=by simp;omega
@[simp] theorem abM (n:Nat):(n≤n+1+1+1)=True:=by simp;omega
def dh (nm:Nm)(es:Nat)(rows:List (List PV)):GV:=if rows=[]then .aS else .bd nm es rows.length 0 rows.length
def fD (key es:Nat)(rows:List (List PV))(fr:Fr):Fr:=if rows=[]then fr else fr.ins key (.arr es rows 0 false)
theorem gQ {nm:Nm}{es:Nat}:dh nm es []= .aS:=rfl
theorem gP {key es:Nat}{fr:Fr}:fD key es [] fr=fr:=rfl
theorem Fr.vC {q p : Nat} (x y : dB) (h : q ≠ p) : ∀ f : Fr, (f.ins p y).ins q x = (f.ins q x).ins p y
  | [] => by
    simp only [Fr.ins, h, Ne.symm h, if_false]
    split
    · rename_i h1; rw [if_neg (by omega)]
    · rename_i h1; rw [if_pos (by omega)]
  | (k, b) :: r => by
    have hp : ¬ p = q := fun e => h e.symm
    by_cases h1 : p = k
    · subst h1
      by_cases h3 : q < p
      · simp [Fr.ins, h, h3, hp, show ¬ p < q by omega]
      · simp [Fr.ins, h, h3]
    · by_cases h2 : q = k
      · subst h2
        by_cases h3 : p < q
        · simp [Fr.ins, h, h3, hp, show ¬ q < p by omega]
        · simp [Fr.ins, h1, h3]
      · by_cases h3 : p < k
        · by_cases h4 : q < k
          · by_cases h5 : q < p
            · simp [Fr.ins, h, hp, h1, h2, h3, h4, h5, show ¬ p < q by omega]
            · simp [Fr.ins, h, hp, h1, h2, h3, h4, h5, show p < q by omega]
          · simp [Fr.ins, h, hp, h1, h2, h3, h4, show ¬ q < p by omega]
        · by_cases h4 : q < k
          · simp [Fr.ins, h, hp, h1, h2, h3, h4, show ¬ p < q by omega]
          · simp [Fr.ins, h1, h2, h3, h4, Fr.vC x y h r]
section
variable {key es:Nat} {rows:List (List PV)} {fr:Fr} {H:ai} {nm:Nm}
@[simp] theorem bO {k:Nat}(h:k≠key):(fD key es rows fr).get k=fr.get k:=by
 unfold fD;split
 ·rfl
 ·exact Fr.ax _ h _
@[simp] theorem LF {k:Nat}{b:dB}(h:k≠key):(fD key es rows fr).ins k b=fD key es rows (fr.ins k b):=by
 unfold fD;split
 ·rfl
 ·exact Fr.vC _ _ h _
theorem dH (h:rows≠[]):(fD key es rows fr).get key=some (.arr es rows 0 false):=by
 unfold fD;rw [if_neg h];exact Fr.bc _ _ _
@[simp] theorem Va:bG (dh nm es rows)=some [dh nm es rows]:=by
 unfold dh;split<;>rfl
@[simp] theorem Kd {l0:Nat}(h:nm.1≤l0):dP H l0 (dh nm es rows)=(dh nm es rows,H):=by
 unfold dh;split
 ·rfl
 ·simp [h]
@[simp] theorem Q9 {r:List GV}:bp (dh nm es rows::r)=none:=by
 unfold dh;split<;>rfl
@[simp] theorem Jk {l0:Nat}(h:nm.1≤l0):clean H l0 (dh nm es rows)=dh nm es rows:=by
 unfold dh;split
 ·rfl
 ·simp [h]
theorem rb {l bytes:Nat}{r:List PV}{H':ai}(hg:rows=[]→H'.get (l,key)=none)(hg2:rows≠[]→H'.get (l,key)=some (.arr es rows 0 false))(hl:l<H'.length)(hb:(rows.length+1)*bytes≤1099511627776):
  zW l key (dh (l,key) es rows) es bytes [r] H'=some (dh (l,key) es (rows++[r]),H'.set (l,key) (.arr es (rows++[r]) 0 false)):=by
 unfold dh;by_cases h:rows=[]
 ·subst h;have h1:=hg rfl;have h2: ¬H'.length≤l:=(by omega);have h3:bytes≤1099511627776:=(by simpa using hb);simp [h1,h2,h3]
 ·have h1:=hg2 h;simp [h,h1,hb]
@[simp] theorem Eh {l bytes:Nat}{r:List PV}{f0:Fr}(hl:H.length=l)(hf:fr.get key=none)(hb:(rows.length+1)*bytes≤1099511627776):
  zW l key (dh (l,key) es rows) es bytes [r] (f0::fD key es rows fr::H)=some (dh (l,key) es (rows++[r]),f0::fD key es (rows++[r]) fr::H):=by
 subst hl;rw [rb (fun h=>by subst h;simp [fD,hf]) (fun h=>by simp [dH h]) (by simp;omega) hb];simp [fD];split
 ·rfl
 ·rw [Fr.cP]
theorem Tf {l l0:Nat}(hl:H.length=l)(h:l0<l):canon (clean (fD key es rows fr::H) l0 (dh (l,key) es rows))= .pure (.slice rows):=by
 subst hl;unfold dh;by_cases hr:rows=[]
 ·subst hr;simp
 ·have: ¬H.length≤l0:=(by omega);simp [hr,this,dH hr]
theorem fE {l l0:Nat}{F:Fr}(hl:H.length=l)(h:l0<l)(hF:rows≠[]→F.get key=some (.arr es rows 0 false)):cz (F::H) l0 (dh (l,key) es rows)=if rows=[]then .aS else .pure (.slice rows):=by
 subst hl;unfold dh;by_cases hr:rows=[]
 ·subst hr;simp
 ·have: ¬H.length≤l0:=(by omega);simp [hr,this,hF hr]
end
end
section
def hdQ (h:ai)(k:Fr→ai→Prop):Prop:=match h with|fr::H1=>k fr H1| []=>False
@[simp] theorem aaF {fr:Fr}{H:ai}{k:Fr→ai→Prop}:hdQ (fr::H) k=k fr H:= .trans rfl rfl
def Pa (x:Option dB)(k:fS→Prop):Prop:=match x with|some (.loop l)=>k l|_=>False
@[simp] theorem Ip {l:fS}{k:fS→Prop}:Pa (some (.loop l)) k=k l:= .trans rfl rfl
def lV:Code→Option (Code×Code)
 | .seq a b=>match lV a with|some x=>some x|none=>lV b
 | .cond _ a b=>match lV a with|some x=>some x|none=>lV b
 | .block _ a=>lV a
 | .loop a=>lV a
 | .rangeFunc _ _ a b=>some (a,b)
 |_=>none
def rgA (g:Func):Code:=((lV (g.body.getD .skip)).getD (.skip, .skip)).1
def rgB (g:Func):Code:=((lV (g.body.getD .skip)).getD (.skip, .skip)).2
section
variable (K:Ctx) (N:FuncId→Nat→List (Nat×Nat))
def oT (nm:Nm)(R:GV×ai→Prop)(e:GX)(st:bM):Prop:=
 hdQ st.h fun _ H2=>Pa (ai.get H2 nm) fun l2=>
  R (match e with
   | .normal=>(.pure (.bool true),ai.set H2 nm (.loop {l2 with state:= .ready,pending:=none}))
   |e=>(.pure (.bool false),ai.set H2 nm (.loop {l2 with state:= .done,pending:=some e})))
def AN (nm:Nm)(l:fS)(R:GV×ai→Prop)(e:GX)(st:bM):Prop:=
 e= .normal∧hdQ st.h fun fr H1=>Pa (ai.get H1 nm) fun l1=>l1.state= .ready∧
  wp K N l.fn l.body ⟨st.s,fr::ai.set H1 nm (.loop {l1 with state:= .busy}),l.nt⟩ (oT nm R)
theorem Fp {nm:Nm} {args:List GV} {H:ai} {l:fS} {s:aZ} {R:GV×ai→Prop} (hl:H.get nm=some (.loop l)) (hr:l.state= .ready) (hp:iw l.eA l.nt l.params (args.map canon)=some s)
  (ha:bF K N l.fn l.assign=true) (hb:bF K N l.fn l.body=true) (h:wp K N l.fn l.assign ⟨s,[]::H,l.nt⟩ (AN K N nm l R)):mE (ground (aF K) nm args H) R:=by
 obtain⟨e,st,h1,rfl,h2⟩:=hY K N l.fn l.assign h ha;unfold hdQ at h2;split at h2
 ·rename_i fr H1 hst;unfold Pa at h2;split at h2
  ·rename_i l1 hg1;obtain⟨h3,h4⟩:=h2;obtain⟨e2,st2,h5,h6⟩:=hY K N l.fn l.body h4 hb;unfold oT hdQ at h6;split at h6
   ·rename_i fr2 H2 hst2;unfold Pa at h6;split at h6
    ·rename_i l2 hg2;refine⟨_, ?_,h6⟩;simp only [ground,hl,hr,if_true,hp,h1,hst,hg1,h3,ne_eq,not_true_eq_false,if_false,h5,hst2,hg2];cases e2<;>rfl
    ·exact h6.elim
   ·exact h6.elim
  ·exact h2.elim
 ·exact h2.elim
def vJ (nm:Nm)(st:bM)(Q:GX→bM→Prop)(H:ai):Prop:=
 Pa (ai.get H nm) fun l=>l.state≠ .busy∧Q (match l.pending with|none=> .normal|some e=>e) {st with h:=ai.set H nm (.loop {l with state:= .exhausted})}
theorem Io {fn:FuncId} {f:Operand} {ps:Array Tmp} {assign body:Code} {st:bM} {Q:GX→bM→Prop} {nm:Nm} {H1 H2:ai} {v:GV}
  (h1:iD st.h (10000000+aY body) (.loop {eA:=st.s,nt:=st.nt,params:=ps.toList,assign:=assign,body:=body,fn:=fn,state:= .ready,pending:=none})=some (nm,H1))
  (h2:ng K (aF K) (ev st.s f) [.yield nm] 0 H1=some (v,H2)) (h3:vJ nm st Q H2):WP K N fn (.rangeFunc f ps assign body) st Q:=fun _=>by
 rw [fj];unfold vJ Pa at h3;split at h3
 ·rename_i l hg;obtain⟨h4,h5⟩:=h3;simp only [cK,h1,h2,hg,h4,if_false]
  cases hp:l.pending with
  |none=>rw [hp]at h5;exact⟨_,_,rfl,h5⟩
  |some e=>rw [hp]at h5;exact⟨_,_,rfl,h5⟩
 ·exact h3.elim
end
end
section
structure aV where
 role:Int
 cell:Int
 deriving DecidableEq
structure a8 where
 cell:Int
 state:Int
 home:Int
 want:Int
 mI:Bool
 deriving DecidableEq
structure au where
 bR:Int
 aR:Int
 kind:Int
 hand:Int
 bf:Int
 cell:Int
 other:Int
 dQ:Int
 mH:Int
 deriving DecidableEq
structure br where
 cell:Int
 state:Int
 deriving DecidableEq
structure aI where
 l:Int
 r:Int
 deriving DecidableEq
structure aC where
 wide:Int
 deep:Int
 ae:List aV
 aa:List a8
 seen:List Int
 a7:List Int
 aj:List au
 deriving DecidableEq
structure ay where
 ae:List Int
 ao:List aI
 aa:List br
 deriving DecidableEq
def aV.row (p:aV):List PV:=[.int .i64 p.role, .int .i64 p.cell]
def a8.row (t:a8):List PV:=[.int .i64 t.cell, .int .i64 t.state, .int .i64 t.home, .int .i64 t.want, .bool t.mI]
def au.row (a:au):List PV:=[.int .i64 a.bR, .int .i64 a.aR, .int .i64 a.kind, .int .i64 a.hand, .int .i64 a.bf, .int .i64 a.cell, .int .i64 a.other, .int .i64 a.dQ, .int .i64 a.mH]
def br.row (s:br):List PV:=[.int .i64 s.cell, .int .i64 s.state]
def aI.row (h:aI):List PV:=[.int .i64 h.l, .int .i64 h.r]
def aD (n:Int):List PV:=[.int .i64 n]
def aC.row (r:aC):List PV:=[.int .i64 r.wide, .int .i64 r.deep, .slice (r.ae.map aV.row), .slice (r.aa.map a8.row), .slice (r.seen.map aD), .slice (r.a7.map aD), .slice (r.aj.map au.row)]
def ay.row (s:ay):List PV:=[.slice (s.ae.map aD), .slice (s.ao.map aI.row), .slice (s.aa.map br.row)]
@[simp] theorem NZ {f:Nat}:KC.HD f=Jj.contains f:= .trans rfl rfl
attribute [simp] Jj
section
variable {f c:Nat} {H:ai} {args:List GV} {p:PV}
theorem eC (hc:KC.zV f=false) (hb:KC.Ai f=true) (hz:(bz H args).1.map canon=args) (hq:ni args=some none) (hfl:iY p=true) (hH:0<H.length)
  (h0: ∀H:ai,0<H.length→bJ KC (aF KC) f args c H=some (.pure p,H)):aN KC (aF KC) f args c H=some (.pure p,H):=fO KC hc hb hz hq hH h0 hfl
end
theorem Bz {K:Ctx}{n:Nat}{f:FuncId}{args:List GV}{c:Nat}{H:ai}{r:GV×ai}(h:aN K (da K n) f args c H=some r):aN K (aF K) f args c H=some r:=by
 obtain⟨N,hN⟩:=su K (F:=fun _=>aF K) (rec:=da K n) (fun fn c st r h=>⟨0,fun _ _=>(kG K).2 (nh K n _ _ _ _ h)⟩) h;exact hN N (Nat.le_refl _)
variable {c:Nat} {H:ai}
def cV (x lo hi:Int):Bool:=decide (lo≤x) && decide (x≤hi)
theorem cZ {x lo hi:Int}(hH:0<H.length):aN KC (aF KC) 64 [.pure (.int .i64 x), .pure (.int .i64 lo), .pure (.int .i64 hi)] c H=some (.pure (.bool (cV x lo hi)),H):=by
 refine eC rfl rfl rfl rfl rfl hH fun H hH=> ?_;refine aM (aK KC aw Tryz.func64 rfl rfl U6 (by simp) hH ?_);by_cases h:lo≤x
 ·simp [h,cV,ah]
 ·simp [h,cV,ah]
theorem pz {x lo hi:Int}:cV x lo hi=true↔lo≤x∧x≤hi:=by simp [cV]
theorem Gz (fr:Fr)(c:Nat):aN KC (da KC 4000) 10 [] c [fr,[]]=some (.pure (.bool true),[fr,[]]):=by
 kernel_rfl
theorem IJ (fr:Fr)(c:Nat):aN KC (aF KC) 10 [] c [fr,[]]=some (.pure (.bool true),[fr,[]]):=Bz (Gz fr c)
end
section
variable {c:Nat} {H:ai}
noncomputable def BA:Int→Int:=ov fun w=>IntKind.u64.wrap (w+11507291218515648293)
theorem GA (w:Int):BA w=IntKind.u64.wrap (w+11507291218515648293):=by rw [BA,cN]
def Du (x n:Int):Int:=RI .u64 x (x.fdiv n)
noncomputable def qd:Int→Int:=ov fun w=>Du (IntKind.u64.wrap (Du (IntKind.u64.wrap (Du (IntKind.u64.wrap (w+11507291218515648293)) 4294967296*15485907386658061715)) 536870912*14029467366897019727)) 4294967296
theorem yq (w:Int):qd w=Du (IntKind.u64.wrap (Du (IntKind.u64.wrap (Du (IntKind.u64.wrap (w+11507291218515648293)) 4294967296*15485907386658061715)) 536870912*14029467366897019727)) 4294967296:=by rw [qd,cN]
theorem N0 (x:Int):0≤IntKind.u64.wrap x∧IntKind.u64.wrap x≤18446744073709551615:=by rw [IntKind.wrap_u64];omega
theorem GB (w:Int):0≤qd w∧qd w≤18446744073709551615:=by rw [yq];exact N0 _
@[simp] theorem aaG:IntKind.u64.bits=64:=rfl
@[simp] theorem aaH:IntKind.i64.bits=64:=rfl
theorem EB {nm:Nm}(hB:fI H nm):aN KC (aF KC) 55 [.aA nm 0] c H=some (.pure (.int .u64 (qd (bE H nm))),H.set nm (bw (BA (bE H nm)))):=by
 have hl:=gE hB;have hg:=yp hB;refine aM (ba KC aw Tryz.func55 rfl rfl U5 rfl rfl rfl (by simp) (by omega) ?_);have hne: ¬nm.1=H.length:=(by omega);have h1:(IntKind.u64.wrap 32)=32:=rfl;generalize bE H nm=w at*;unfold bw at*;simp [hne,hl,hg,ah,yq,GA,Du]
noncomputable def lj:Int→Int→Int×Int:=ov fun w n=>
 if n<2 then (0,w)else (IntKind.i64.wrap (((qd w).fdiv 2).tmod (IntKind.u64.wrap n)),BA w)
theorem zF (w:Int)(n:Int):lj w n=
 (if n<2 then (0,w)else (IntKind.i64.wrap (((qd w).fdiv 2).tmod (IntKind.u64.wrap n)),BA w)):=by rw [lj,cN]
theorem kB (w n:Int)(h:n≤9223372036854775807):0≤(lj w n).1∧((lj w n).1<n∨(lj w n).1=0):=by
 rw [zF];split
 ·simp
 ·have h1:=GB w;have h2:IntKind.u64.wrap n=n:=(by rw [IntKind.wrap_u64];omega);have h3:0≤(qd w).fdiv 2:=Int.fdiv_nonneg h1.1 (by omega);rw [h2,Int.tmod_eq_emod_of_nonneg h3];have h4:=Int.emod_nonneg ((qd w).fdiv 2) (show n≠0 by omega)
  have h5:=Int.emod_lt_of_pos ((qd w).fdiv 2) (show 0<n by omega)
  rw [c8 (by omega) (by omega)];exact⟨h4, .inl h5⟩
theorem kx {nm:Nm}{n:Int}(hB:fI H nm)(hn:n≤9223372036854775807):aN KC (aF KC) 24 [.aA nm 0, .pure (.int .i64 n)] c H=some (.pure (.int .i64 (lj (bE H nm) n).1),H.set nm (bw (lj (bE H nm) n).2)):=by
 have hl:=gE hB;have hs:=jJ hB;refine aM (ba KC aw Tryz.func24 rfl rfl U1 rfl rfl rfl (by simp) (by omega) ?_);have hne: ¬nm.1=H.length:=(by omega);by_cases h:n<2
 ·simp [h,zF,hs,ah]
 ·have h2:IntKind.u64.wrap n=n:=(by rw [IntKind.wrap_u64];omega);have h3: ¬n=0:=(by omega);have h4: ¬IntKind.u64.wrap n=0:=(by rw [h2];exact h3);simp [h,zF,EB (dW hB),dy hl,ai.dJ hl,ah,h4]
noncomputable def uv:Int→Int→Int→Int×Int:=ov fun w lo hi=>
 let r:=lj w (IntKind.i64.wrap (IntKind.i64.wrap (hi-lo)+1))
 (IntKind.i64.wrap (lo+r.1),r.2)
theorem BB (w:Int)(lo:Int)(hi:Int):uv w lo hi=
 (let r:=lj w (IntKind.i64.wrap (IntKind.i64.wrap (hi-lo)+1))
 (IntKind.i64.wrap (lo+r.1),r.2)):=by rw [uv,cN]
theorem N4 (x:Int): -9223372036854775808≤IntKind.i64.wrap x∧IntKind.i64.wrap x≤9223372036854775807:=by rw [IntKind.wrap_i64];omega
theorem AM (w lo hi:Int)(h0: -4611686018427387903≤lo)(h1:hi≤4611686018427387903)(h:lo≤hi):lo≤(uv w lo hi).1∧(uv w lo hi).1≤hi:=by
 rw [BB];rw [c8 (x:=hi-lo) (by omega) (by omega),c8 (x:=hi-lo+1) (by omega) (by omega)];have:=kB w (hi-lo+1) (by omega);simp only;rw [c8 (by omega) (by omega)];omega
theorem sM {nm:Nm}{lo hi:Int}(hB:fI H nm):aN KC (aF KC) 26 [.aA nm 0, .pure (.int .i64 lo), .pure (.int .i64 hi)] c H=some (.pure (.int .i64 (uv (bE H nm) lo hi).1),H.set nm (bw (uv (bE H nm) lo hi).2)):=by
 have hl:=gE hB;refine aM (ba KC aw Tryz.func26 rfl rfl U2 rfl rfl rfl (by simp) (by omega) ?_);have hr:=(N4 (IntKind.i64.wrap (hi-lo)+1)).2;simp [BB,kx (dW hB) hr,dy hl,ai.dJ hl,ah]
noncomputable def yY:Int→Int→Bool×Int:=ov fun w n=>
 ((lj w n).1==0,(lj w n).2)
theorem Jl (w:Int)(n:Int):yY w n=
 (((lj w n).1==0,(lj w n).2)):=by rw [yY,cN]
theorem ny {nm:Nm}{n:Int}(hB:fI H nm)(hn:n≤9223372036854775807):aN KC (aF KC) 52 [.aA nm 0, .pure (.int .i64 n)] c H=some (.pure (.bool (yY (bE H nm) n).1),H.set nm (bw (yY (bE H nm) n).2)):=by
 have hl:=gE hB;refine aM (ba KC aw Tryz.func52 rfl rfl U3 rfl rfl rfl (by simp) (by omega) ?_);simp [Jl,kx (dW hB) hn,dy hl,ai.dJ hl,ah]
noncomputable def yf:Int→List Int→Int×Int:=ov fun w l=>
 if l.length=0 then (0,w)else (l.getD (lj w l.length).1.toNat 0,(lj w l.length).2)
theorem sW (w:Int)(l:List Int):yf w l=
 (if l.length=0 then (0,w)else (l.getD (lj w l.length).1.toNat 0,(lj w l.length).2)):=by rw [yf,cN]
theorem Ek {nm:Nm}{l:List Int}(hB:fI H nm)(hn:l.length<4611686018427387904):aN KC (aF KC) 54 [.aA nm 0, .pure (.slice (l.map aD))] c H=some (.pure (.int .i64 (yf (bE H nm) l).1),H.set nm (bw (yf (bE H nm) l).2)):=by
 have hl:=gE hB;have hs:=jJ hB;refine aM (ba KC aw Tryz.func54 rfl rfl U4 rfl rfl rfl (by simp) (by omega) ?_);by_cases h:l.length=0
 ·obtain rfl:l=[]:=List.length_eq_zero_iff.1 h;simp [sW,hs,ah]
 ·have h2:((l.length:Int)==0)=false:=beq_eq_false_iff_ne.2 (by omega);have hr:=kB (bE H nm) l.length (by omega);have h3: ¬(lj (bE H nm) l.length).1<0:=(by omega);have h4:(lj (bE H nm) l.length).1.toNat<l.length:=(by have:=hr;clear hl hs hB;omega);simp [h,h2,sW,kx (dW hB) (show (l.length:Int)≤9223372036854775807 by omega),dy hl,ai.dJ hl,ah,h3,h4,aD]
theorem bT {K:Ctx}{f:Nat}{c:Nat}{r:GV}{fr:Fr}(h:K.HD f=true):fY K f c r (fr::H)=(match cH (tz c fr H (dedup (cv fr H.length (refs H.length r))) (H.length-1)) fr H c (dedup (cv fr H.length (refs H.length r))) H with|some H'=>some (uD H.length c r,H')|none=>none):=by
 unfold fY;simp only [h,if_true];rfl
theorem Jm (l:List Int)(hn:l.length≤9223372036854775807)(Q:GX→bM→Prop)(hH:0<H.length): ∀(k i:Nat) (w:Int),i+k=l.length→
  (∀w',Q (.exit 0) ⟨[(3, .aA (H.length,6) 0)],[(6,bw w')]::H,30⟩)→
  gZ KC aw 12 (lp Tryz.f12 0) [0,3,4] [3] Q [(0, .pure (.slice (l.map aD))),(3, .aA (H.length,6) 0),(4, .pure (.int .i64 i))] ([(6,bw w)]::H) 30:=by
 intro k
 induction k with
 |zero=>
  intro i w hi h1;have hia: ¬i<l.length:=(by omega);apply az;conv=>arg 4;whnf
  simp [hia,hH];exact h1 w
 |succ k ih=>
  intro i w hi h1;have hia:i<l.length:=(by omega);have hw:=c8 (x:=(i:Int)+1) (by omega) (by omega);have ih':=fun w=>ih (i+1) w (by omega) h1;apply az;conv=>arg 4;whnf
  have T:=fun(v:Int) (c:Nat)=>EB (c:=c) (H:=[]::[(6,bw v)]::H) (nm:=(H.length,6)) ⟨v,by simp,by simp⟩;simp [bE,bw]at T;simp [hia,hH,aD,hw,bw,T];simpa [bw]using ih' _
theorem II (l:List Int)(hn:l.length≤9223372036854775807)(hH:0<H.length)(hfree:H.get (H.length-1,ak c 6)=none):
  ∃w,aN KC (aF KC) 12 [.pure (.slice (l.map aD))] c H=some (.aA (H.length-1,ak c 6) 0,H.set (H.length-1,ak c 6) (bw w)):=by
 have key:mE (aN KC (aF KC) 12 [.pure (.slice (l.map aD))] c H) (fun x=> ∃w,x=(.aA (H.length-1,ak c 6) 0,H.set (H.length-1,ak c 6) (bw w))):=by
  refine ba KC aw Tryz.func12 rfl rfl UZ rfl rfl rfl (by simp) hH ?_;have h0:=fun Q hq=>Jm l hn Q hH l.length 0 2685821657736338717 (by omega) hq;simp [bw]at h0;simp;refine h0 _ (fun w=> ?_);simp [bT,NZ,refs,dN,cY,cv,dq,dr,dedup,cH,cb,tz,hfree,uD,j3,ie];exact⟨w,rfl⟩
 obtain⟨r,e1,w,e2⟩:=key;exact⟨w,by rw [e1,e2]⟩
end
section
variable {c:Nat} {H:ai}
@[simp] theorem acI:IntKind.i64.wrap 1=1:=rfl
@[simp] theorem acJ:IntKind.i64.wrap 0=0:=rfl
noncomputable def cW:Int→Int→Int:=ov fun w d=>IntKind.i64.wrap (IntKind.i64.wrap (w*d)-1)
theorem Ap (w d:Int):cW w d=IntKind.i64.wrap (IntKind.i64.wrap (w*d)-1):=by rw [cW,cN]
theorem AA {w d:Int}{x1 x2 x3 x4 x5:PV}(hH:0<H.length):aN KC (aF KC) 130 [.pure (.agg [.int .i64 w, .int .i64 d,x1,x2,x3,x4,x5])] c H=some (.pure (.int .i64 (IntKind.i64.wrap (w*d))),H):=by
 refine eC rfl rfl rfl rfl rfl hH fun H hH=> ?_;refine aM (aK KC aw Tryz.func130 rfl rfl NC (by simp) hH ?_);simp [ah]
theorem fW {w d n:Int}{x1 x2 x3 x4 x5:PV}(hH:0<H.length):aN KC (aF KC) 112 [.pure (.agg [.int .i64 w, .int .i64 d,x1,x2,x3,x4,x5]), .pure (.int .i64 n)] c H=some (.pure (.bool (cV n 0 (cW w d))),H):=by
 refine eC rfl rfl rfl rfl rfl hH fun H hH=> ?_;refine aM (aK KC aw Tryz.func112 rfl rfl Nw (by simp) hH ?_);simp [ah,AA,cZ,Ap]
def bI (g:Nat→Int):Nat→Nat→Int
 |0,_=>0
 |k+1,i=>if g i≠0 then g i else bI g k (i+1)
theorem jm {g h:Nat→Int}: ∀(k i:Nat),(∀j,i≤j→j<i+k→g j=h j)→bI g k i=bI h k i
 |0,_,_=>rfl
 |k+1,i,hj=>by
  unfold bI;rw [hj i (by omega) (by omega),jm k (i+1) fun j h1 h2=>hj j (by omega) (by omega)]
noncomputable def mf:(Int→Bool)→Int→List Int→Nat→Int:=ov fun p e l i=>if p (l.getD i 0)=false then e else if 0<i∧l.getD i 0≤l.getD (i-1) 0 then 11 else 0
theorem oL (p:Int→Bool)(e:Int)(l:List Int)(i:Nat):mf p e l i=if p (l.getD i 0)=false then e else if 0<i∧l.getD i 0≤l.getD (i-1) 0 then 11 else 0:=by rw [mf,cN]
theorem Jn (l:List Int) (hn:l.length≤4611686018427387904) (p:Int→Bool) (e:Int) (he0:e≠0) (g:GV) (hg: ∀(x:Int) (c:Nat) (fr:Fr),dM KC (aF KC) g [.pure (.int .i64 x)] c (fr::H)=some (.pure (.bool (p x)),fr::H))
  (hcl: ∀fr,clean (fr::H) (H.length-1) g=g) (Q:GX→bM→Prop) (hH:0<H.length): ∀k i:Nat,i+k=l.length→
  (bI (mf p e l) k i=0→Q (.exit 0) ⟨[(6,aO)],H,35⟩)→(bI (mf p e l) k i≠0→Q .ret ⟨[(6, .pure (.int .i64 (bI (mf p e l) k i)))],H,35⟩)→
  gZ KC aw 123 (lp Tryz.f123 0) [0,1,2,9,10,11] [6] Q [(0, .pure (.slice (l.map aD))),(1,g),(2, .pure (.int .i64 e)),(9, .pure (.slice (l.map aD))),(10, .pure (.int .i64 l.length)),(11, .pure (.int .i64 i))] H 35:=by
 intro k
 induction k with
 |zero=>
  intro i hi h1 h2;apply az;conv=>arg 4;whnf
  have: ¬i<l.length:=(by omega);simp [this,hH];exact h1 rfl
 |succ k ih=>
  intro i hi h1 h2;have hia:i<l.length:=(by omega);have hw:=c8 (x:=(i:Int)+1) (by omega) (by omega);have hw2:=c8 (x:=(i:Int)-1) (by omega) (by omega);have ih':=ih (i+1) (by omega);unfold bI at h1 h2;have hf:=oL p e l i;have hgi:l.getD i 0=l[i]:=(by simp [List.getD_eq_getElem?_getD,hia]);rw [hgi]at hf;apply az;conv=>arg 4;whnf
  by_cases hp:p l[i]=true
  ·by_cases h0:0<i
   ·have h0':(0:Int)<i:=(by omega);have hi1:i-1<l.length:=(by omega);have hgi1:l.getD (i-1) 0=l[i-1]:=(by simp [List.getD_eq_getElem?_getD,hi1]);have hnn: ¬(i:Int)-1<0:=(by omega);have htn:((i:Int)-1).toNat=i-1:=(by omega);rw [hgi1]at hf;by_cases hle:l[i]≤l[i-1]
    ·simp [hp,h0,hle]at hf;simp [hf]at h1 h2;simp [hia,hH,aD,hg,hp,hw,hw2,h0,h0',hnn,htn,hi1,hle];exact h2
    ·simp [hp,h0,hle]at hf;simp [hf]at h1 h2;simp [hia,hH,aD,hg,hp,hw,hw2,h0,h0',hnn,htn,hi1,hle,hcl];simpa [aD]using ih' h1 h2
   ·have h00:i=0:=(by omega);simp [hp,h0]at hf;simp [hf]at h1 h2;subst h00;simp [hia,hH,aD,hg,hp,hw,hcl];simpa [aD]using ih' h1 h2
  ·have hp':p l[i]=false:=(by simpa using hp);simp [hp']at hf;simp [hf,he0]at h1 h2;simp [hia,hH,aD,hg,hp'];exact h2
theorem Jo (l:List Int) (hn:l.length≤4611686018427387904) (p:Int→Bool) (e:Int) (he0:e≠0) (g:GV) (hcan:canon g=g) (hfz: ∀H,dx H g=(g,H)) (hg: ∀(x:Int) (c:Nat) (f0 fr:Fr),dM KC (aF KC) g [.pure (.int .i64 x)] c (f0::fr::H)=some (.pure (.bool (p x)),f0::fr::H))
  (hcl: ∀f0 fr,clean (f0::fr::H) (H.length) g=g) (hH:0<H.length):
  aN KC (aF KC) 123 [.pure (.slice (l.map aD)),g, .pure (.int .i64 e)] c H=some (.pure (.int .i64 (bI (mf p e l) l.length 0)),H):=by
 refine aM (ba KC aw Tryz.func123 rfl rfl Ny (by simp [bz,hfz]) rfl rfl (by simp) hH ?_);simp [hcan];refine Jn (H:=[]::H) l hn p e he0 g (fun x c fr=>hg x c fr []) (fun fr=>by simpa using hcl fr []) _ (by simp) l.length 0 (by omega) (fun h=> ?_) (fun h=> ?_)
 ·simp [h,ah]
 ·simp [ah]
theorem Jp {w d x:Int}{x1 x2 x3 x4 x5:PV}{nm:Nm}(hg:H.get nm=some (.box [.pure (.int .i64 w), .pure (.int .i64 d), .pure x1, .pure x2, .pure x3, .pure x4, .pure x5])):
  aN KC (aF KC) 124 [.pure (.int .i64 x), .aA nm 0] c H=some (.pure (.bool (cV x 0 (cW w d))),H):=by
 have hl:nm.1<H.length:=ai.bQ hg;have hne: ¬nm.1=H.length:=(by omega);refine aM (ba KC aw Tryz.func124 rfl rfl Nz rfl rfl rfl (by simp) (by omega) ?_);simp [ah,fW,hg,hne]
theorem Jq {x:Int}(hH:0<H.length):
  aN KC (aF KC) 125 [.pure (.int .i64 x)] c H=some (.pure (.bool (cV x 1 3)),H):=by
 refine aM (ba KC aw Tryz.func125 rfl rfl NA rfl rfl rfl (by simp) hH ?_);simp [ah,cZ]
def du (ps:List aV)(i:Nat)(x:Int):Bool:=(ps.take i).any fun q=>q.cell==x
noncomputable def iu:Int→List aV→Nat→Int:=ov fun t ps i=>
 if cV (ps.getD i ⟨0,0⟩).role 1 3=false then 4 else if cV (ps.getD i ⟨0,0⟩).cell 0 t=false then 7 else if du ps i (ps.getD i ⟨0,0⟩).cell=true then 12 else 0
theorem j6 (t:Int)(ps:List aV)(i:Nat):iu t ps i=
 if cV (ps.getD i ⟨0,0⟩).role 1 3=false then 4 else if cV (ps.getD i ⟨0,0⟩).cell 0 t=false then 7 else if du ps i (ps.getD i ⟨0,0⟩).cell=true then 12 else 0:=by rw [iu,cN]
noncomputable def jF:Int→List a8→Nat→Int:=ov fun t ts i=>
 if cV (ts.getD i ⟨0,0,0,0,false⟩).cell 0 t=false∨cV (ts.getD i ⟨0,0,0,0,false⟩).home 0 t=false then 7 else if cV (ts.getD i ⟨0,0,0,0,false⟩).state 0 15=false∨cV (ts.getD i ⟨0,0,0,0,false⟩).want 0 15=false then 2 else 0
theorem jG (t:Int)(ts:List a8)(i:Nat):jF t ts i=
 if cV (ts.getD i ⟨0,0,0,0,false⟩).cell 0 t=false∨cV (ts.getD i ⟨0,0,0,0,false⟩).home 0 t=false then 7 else if cV (ts.getD i ⟨0,0,0,0,false⟩).state 0 15=false∨cV (ts.getD i ⟨0,0,0,0,false⟩).want 0 15=false then 2 else 0:=by rw [jF,cN]
noncomputable def lS:aC→Int:=ov fun r=>
 if cV r.wide 1 6=false∨cV r.deep 1 6=false then 2 else if r.ae.length=0 then 6 else if 4<r.ae.length then 8
 else if bI (iu (cW r.wide r.deep) r.ae) r.ae.length 0≠0 then bI (iu (cW r.wide r.deep) r.ae) r.ae.length 0
 else if 8<r.aa.length then 8
 else if bI (jF (cW r.wide r.deep) r.aa) r.aa.length 0≠0 then bI (jF (cW r.wide r.deep) r.aa) r.aa.length 0
 else if bI (mf (fun x=>cV x 0 (cW r.wide r.deep)) 7 r.seen) r.seen.length 0≠0 then bI (mf (fun x=>cV x 0 (cW r.wide r.deep)) 7 r.seen) r.seen.length 0
 else bI (mf (fun x=>cV x 1 3) 4 r.a7) r.a7.length 0
theorem jE (r:aC):lS r=
 if cV r.wide 1 6=false∨cV r.deep 1 6=false then 2 else if r.ae.length=0 then 6 else if 4<r.ae.length then 8
 else if bI (iu (cW r.wide r.deep) r.ae) r.ae.length 0≠0 then bI (iu (cW r.wide r.deep) r.ae) r.ae.length 0
 else if 8<r.aa.length then 8
 else if bI (jF (cW r.wide r.deep) r.aa) r.aa.length 0≠0 then bI (jF (cW r.wide r.deep) r.aa) r.aa.length 0
 else if bI (mf (fun x=>cV x 0 (cW r.wide r.deep)) 7 r.seen) r.seen.length 0≠0 then bI (mf (fun x=>cV x 0 (cW r.wide r.deep)) 7 r.seen) r.seen.length 0
 else bI (mf (fun x=>cV x 1 3) 4 r.a7) r.a7.length 0:=by rw [lS,cN]
def aX (r:aC):dB:= .box [.pure (.int .i64 r.wide), .pure (.int .i64 r.deep), .pure (.slice (r.ae.map aV.row)), .pure (.slice (r.aa.map a8.row)), .pure (.slice (r.seen.map aD)), .pure (.slice (r.a7.map aD)), .pure (.slice (r.aj.map au.row))]
theorem xl (ps:List aV)(i:Nat)(h:i<ps.length)(x:Int):du ps (i+1) x=(du ps i x||ps[i].cell==x):=by
 unfold du;rw [List.take_succ_eq_append_getElem h,List.any_append];simp
theorem GC (ps:List aV)(n:Nat)(hn:n≤ps.length)(hl:ps.length≤4)(p:aV)(r:aC)(g30 g31 g32:PV)(Q:GX→bM→Prop)(f0:Fr)(hf0:f0=[(4, .box [.pure (.int .i64 p.role), .pure (.int .i64 p.cell)])]):
  ∀k i:Nat,i+k=n→du ps i p.cell=false→
  (du ps n p.cell=false→Q (.exit 4) ⟨[(1, .aA (H.length,1) 0),(2,aO),(30, .pure g30),(31, .pure g31),(32, .pure g32)],f0::[(1,aX r)]::H,106⟩)→
  (du ps n p.cell=true→Q .ret ⟨[(1, .aA (H.length,1) 0),(2, .pure (.int .i64 12)),(30, .pure g30),(31, .pure g31),(32, .pure g32)],f0::[(1,aX r)]::H,106⟩)→
  gZ KC aw 89 (lp Tryz.f89 1) [1,4,30,31,32,51,52,53] [1,2,30,31,32] Q
   [(1, .aA (H.length,1) 0),(4, .aA (H.length+1,4) 0),(30, .pure g30),(31, .pure g31),(32, .pure g32),(51, .pure (.slice ((ps.take n).map aV.row))),(52, .pure (.int .i64 n)),(53, .pure (.int .i64 i))] (f0::[(1,aX r)]::H) 106:=by
 subst hf0;intro k
 induction k with
 |zero=>
  intro i hi hs h1 h2;have e:i=n:=(by omega);subst e;apply az;conv=>arg 4;whnf
  simp [aX];exact h1 hs
 |succ k ih=>
  intro i hi hs h1 h2;have hin:i<n:=(by omega);have hil:i<ps.length:=(by omega);have hw:=c8 (x:=(i:Int)+1) (by omega) (by omega);have hs1:=xl ps i hil p.cell;apply az;conv=>arg 4;whnf
  by_cases he:ps[i].cell=p.cell
  ·have ht:du ps n p.cell=true:=by
    unfold du;rw [List.any_eq_true];exact⟨ps[i],List.mem_take_iff_getElem.2 ⟨i,by omega,rfl⟩,by simp [he]⟩
   simp [hin,hil,hw,aX,aV.row,he];exact h2 ht
  ·have hs':du ps (i+1) p.cell=false:=(by rw [hs1,hs];simpa using he);have he':(ps[i].cell==p.cell)=false:=(by simpa using he);simp [hin,hil,hw,aX,aV.row,he'];simpa [aX]using ih (i+1) (by omega) hs' h1 h2
end
section
variable {c:Nat} {H:ai}
theorem BC (r:aC)(hl:r.ae.length≤4)(Q:GX→bM→Prop): ∀k i:Nat,i+k=r.ae.length→
  (bI (iu (cW r.wide r.deep) r.ae) k i=0→Q (.exit 1) ⟨[(1, .aA (H.length,1) 0),(2,aO)],[(1,aX r)]::H,106⟩)→
  (bI (iu (cW r.wide r.deep) r.ae) k i≠0→Q .ret ⟨[(1, .aA (H.length,1) 0),(2, .pure (.int .i64 (bI (iu (cW r.wide r.deep) r.ae) k i)))],[(1,aX r)]::H,106⟩)→
  gZ KC aw 89 (lp Tryz.f89 0) [1,30,31,32] [1,2] Q
   [(1, .aA (H.length,1) 0),(30, .pure (.slice (r.ae.map aV.row))),(31, .pure (.int .i64 r.ae.length)),(32, .pure (.int .i64 i))] ([(1,aX r)]::H) 106:=by
 intro k
 induction k with
 |zero=>
  intro i hi h1 h2;apply az;conv=>arg 4;whnf
  have: ¬i<r.ae.length:=(by omega);simp [this];exact h1 rfl
 |succ k ih=>
  intro i hi h1 h2;have hia:i<r.ae.length:=(by omega);have hw:=c8 (x:=(i:Int)+1) (by omega) (by omega);have ih':=ih (i+1) (by omega);unfold bI at h1 h2;have hf:=j6 (cW r.wide r.deep) r.ae i;have hgi:r.ae.getD i ⟨0,0⟩=r.ae[i]:=(by simp [List.getD_eq_getElem?_getD,hia]);rw [hgi]at hf;have hmin:min i r.ae.length=i:=(by omega);have hile:i≤r.ae.length:=(by omega);have hnn: ¬(r.ae.length:Int)<i:=(by omega);apply az;conv=>arg 4;whnf
  by_cases h3:cV r.ae[i].role 1 3=true
  ·by_cases h4:cV r.ae[i].cell 0 (cW r.wide r.deep)=true
   ·simp [hia,hile,hmin,aV.row,aX,cZ,fW,h3,h4];have L:=fun Q=>GC (H:=H) r.ae i (by omega) hl r.ae[i] r (.slice (r.ae.map aV.row)) (.int .i64 r.ae.length) (.int .i64 i) Q _ rfl i 0 (by omega) (by simp [du]);simp [aX]at L;refine L _ (fun h5=> ?_) (fun h5=> ?_)
    ·simp [h3,h4,h5]at hf;simp [hf]at h1 h2;simp [hw];simpa [aX]using ih' h1 h2
    ·simp [h3,h4,h5]at hf;simp [hf]at h1 h2;simp;simpa [aX]using h2
   ·have h4':cV r.ae[i].cell 0 (cW r.wide r.deep)=false:=(by simpa using h4);simp [h3,h4']at hf;simp [hf]at h1 h2;simp [hia,aV.row,aX,cZ,fW,h3,h4'];simpa [aX]using h2
  ·have h3':cV r.ae[i].role 1 3=false:=(by simpa using h3);simp [h3']at hf;simp [hf]at h1 h2;simp [hia,aV.row,aX,cZ,fW,h3'];simpa [aX]using h2
theorem Dv (r:aC)(hl:r.aa.length≤8)(Q:GX→bM→Prop): ∀k i:Nat,i+k=r.aa.length→
  (bI (jF (cW r.wide r.deep) r.aa) k i=0→Q (.exit 6) ⟨[(1, .aA (H.length,1) 0),(2,aO)],[(1,aX r)]::H,106⟩)→
  (bI (jF (cW r.wide r.deep) r.aa) k i≠0→Q .ret ⟨[(1, .aA (H.length,1) 0),(2, .pure (.int .i64 (bI (jF (cW r.wide r.deep) r.aa) k i)))],[(1,aX r)]::H,106⟩)→
  gZ KC aw 89 (lp Tryz.f89 2) [1,69,70,71] [1,2] Q
   [(1, .aA (H.length,1) 0),(69, .pure (.slice (r.aa.map a8.row))),(70, .pure (.int .i64 r.aa.length)),(71, .pure (.int .i64 i))] ([(1,aX r)]::H) 106:=by
 intro k
 induction k with
 |zero=>
  intro i hi h1 h2;apply az;conv=>arg 4;whnf
  have: ¬i<r.aa.length:=(by omega);simp [this];exact h1 rfl
 |succ k ih=>
  intro i hi h1 h2;have hia:i<r.aa.length:=(by omega);have hw:=c8 (x:=(i:Int)+1) (by omega) (by omega);have ih':=ih (i+1) (by omega);unfold bI at h1 h2;have hf:=jG (cW r.wide r.deep) r.aa i;have hgi:r.aa.getD i ⟨0,0,0,0,false⟩=r.aa[i]:=(by simp [List.getD_eq_getElem?_getD,hia]);rw [hgi]at hf;apply az;conv=>arg 4;whnf
  cases h3:cV r.aa[i].cell 0 (cW r.wide r.deep)with
  |false=>
   simp [h3]at hf;simp [hf]at h1 h2;simp [hia,a8.row,aX,cZ,fW,h3];simpa [aX]using h2
  |true=>
   cases h4:cV r.aa[i].home 0 (cW r.wide r.deep)with
   |false=>
    simp [h3,h4]at hf;simp [hf]at h1 h2;simp [hia,a8.row,aX,cZ,fW,h3,h4];simpa [aX]using h2
   |true=>
    cases h5:cV r.aa[i].state 0 15 with
    |false=>
     simp [h3,h4,h5]at hf;simp [hf]at h1 h2;simp [hia,a8.row,aX,cZ,fW,h3,h4,h5];simpa [aX]using h2
    |true=>
     cases h6:cV r.aa[i].want 0 15 with
     |false=>
      simp [h3,h4,h5,h6]at hf;simp [hf]at h1 h2;simp [hia,a8.row,aX,cZ,fW,h3,h4,h5,h6];simpa [aX]using h2
     |true=>
      simp [h3,h4,h5,h6]at hf;simp [hf]at h1 h2;simp [hia,a8.row,aX,cZ,fW,h3,h4,h5,h6,hw];simpa [aX]using ih' h1 h2
theorem gK (r:aC):r.row=[.int .i64 r.wide, .int .i64 r.deep, .slice (r.ae.map aV.row), .slice (r.aa.map a8.row), .slice (r.seen.map aD), .slice (r.a7.map aD), .slice (r.aj.map au.row)]:=rfl
theorem N5 (r:aC){x:Int}{nm:Nm}(hg:H.get nm=some (aX r)):aN KC (aF KC) 124 [.pure (.int .i64 x), .aA nm 0] c H=some (.pure (.bool (cV x 0 (cW r.wide r.deep))),H):=Jp hg
theorem yT (r:aC)(h1:r.seen.length≤1000000)(h2:r.a7.length≤1000000)(h3:r.ae.length≤1000000)(h4:r.aa.length≤1000000)(hH:0<H.length):
  aN KC (aF KC) 89 [.pure (.agg r.row)] c H=some (.pure (.int .i64 (lS r)),H):=by
 refine eC rfl rfl rfl rfl rfl hH fun H hH=> ?_;refine aM (aK KC aw Tryz.func89 rfl rfl U9 (by simp) hH ?_);have hr:=jE r;rw [gK]
 cases e1:cV r.wide 1 6 with
 |false=>
  simp [e1]at hr;simp [cZ,e1,ah,hr]
 |true=>
 cases e2:cV r.deep 1 6 with
 |false=>
  simp [e1,e2]at hr;simp [cZ,e1,e2,ah,hr]
 |true=>
 by_cases e3:r.ae.length=0
 ·have e3':r.ae=[]:=List.length_eq_zero_iff.1 e3;simp [e1,e2,e3,e3']at hr;simp [cZ,e1,e2,e3,e3',ah,hr]
 have e3':((r.ae.length:Int)==0)=false:=beq_eq_false_iff_ne.2 (by omega);by_cases e4:4<r.ae.length
 ·have e4':(4:Int)<r.ae.length:=(by omega);simp [e1,e2,e3,e4]at hr;simp [cZ,e1,e2,e3,e3',e4,e4',ah,hr]
 have e4': ¬(4:Int)<r.ae.length:=(by omega);simp only [e1,e2,e3,e4,Bool.true_eq_false,or_self,if_false]at hr;simp [cZ,e1,e2,e3,e3',e4,e4'];have L:=fun Q=>BC (H:=H) r (by omega) Q r.ae.length 0 (by omega);simp [aX]at L;refine L _ (fun z1=> ?_) (fun z1=> ?_)
 ·by_cases e5:8<r.aa.length
  ·have e5':(8:Int)<r.aa.length:=(by omega);simp [z1,e5]at hr;simp [e5',e5,ah,hr]
  ·have e5': ¬(8:Int)<r.aa.length:=(by omega);simp only [z1,e5,ne_eq,not_true_eq_false,if_false]at hr;simp [e5',e5];have L2:=fun Q=>Dv (H:=H) r (by omega) Q r.aa.length 0 (by omega);simp [aX]at L2;refine L2 _ (fun z2=> ?_) (fun z2=> ?_)
   ·simp only [z2,ne_eq,not_true_eq_false,if_false]at hr;have A:=fun c=>Jo (c:=c) (H:=[(1,aX r)]::H) r.seen (by omega) (fun x=>cV x 0 (cW r.wide r.deep)) 7 (by decide) (.func 124 [] [.aA (H.length,1) 0]) rfl (fun _=>rfl) (fun x c f0 fr=>by
     rw [nj];exact N5 r (by simp)) (fun f0 fr=>by simp) (by simp)
    have B:=fun(H:ai) c (hH:0<H.length)=>Jo (c:=c) (H:=H) r.a7 (by omega) (fun x=>cV x 1 3) 4 (by decide) (.pure (.fn 125)) rfl (fun _=>rfl) (fun x c f0 fr=>by
     rw [uZ];exact Jq (by simp)) (fun f0 fr=>by simp) hH
    simp [aX]at A;by_cases z3:bI (mf (fun x=>cV x 0 (cW r.wide r.deep)) 7 r.seen) r.seen.length 0=0
    ·simp only [z3,ne_eq,not_true_eq_false,if_false]at hr;simp [A,z3,B,ah,hr]
    ·have z3':(bI (mf (fun x=>cV x 0 (cW r.wide r.deep)) 7 r.seen) r.seen.length 0 !=0)=true:=(by simpa using z3);simp only [z3,ne_eq,not_false_eq_true,if_true]at hr;simp [A,z3,z3',ah,hr]
   ·simp [z2]at hr;simp [ah,hr]
 ·simp [z1]at hr;simp [ah,hr]
end
section
variable {c:Nat} {H:ai}
def kY (a:au):Bool:=
 if a.kind=1 then decide (a.hand=0∧a.bf=0∧a.other=0)
 else if a.kind=2 then decide (a.cell=0∧a.other=0)
 else if a.kind=4 then decide (a.bf=0∧a.cell=0)
 else decide (a.bf=0∧a.cell=0∧a.other=0)
noncomputable def fo:Int→Int→Int→au→Int:=ov fun t nt np a=>
 if cV a.kind 1 8=false then 4 else if kY a=false then 3 else if a.kind=1∧cV a.cell 0 t=false then 7 else if cV a.hand 0 1=false then 2
 else if a.kind=2∧cV a.bf 0 (nt-1)=false then 7 else if a.kind=4∧cV a.other 0 (np-1)=false then 7 else if a.kind=4∧a.other=a.aR then 3 else 0
theorem j5 (t nt np:Int)(a:au):fo t nt np a=
 if cV a.kind 1 8=false then 4 else if kY a=false then 3 else if a.kind=1∧cV a.cell 0 t=false then 7 else if cV a.hand 0 1=false then 2
 else if a.kind=2∧cV a.bf 0 (nt-1)=false then 7 else if a.kind=4∧cV a.other 0 (np-1)=false then 7 else if a.kind=4∧a.other=a.aR then 3 else 0:=by rw [fo,cN]
theorem Dw (k:Int):k=1∨k=2∨k=4∨(k=3∨k=5∨k=6∨k=7∨k=8)∨(cV k 1 8=false∧k≠1∧k≠2∧k≠3∧k≠4∧k≠5∧k≠6∧k≠7∧k≠8):=by
 by_cases h:1≤k∧k≤8
 ·omega
 ·refine .inr (.inr (.inr (.inr ⟨?_,by omega,by omega,by omega,by omega,by omega,by omega,by omega,by omega⟩)));simp [cV];omega
theorem vu {r:aC}{q1 q2 kind hand bf cell other q3 q4:Int}(h1:r.ae.length≤1000000)(h2:r.aa.length≤1000000)(hH:0<H.length):
  aN KC (aF KC) 73 [.pure (.agg r.row), .pure (.agg [.int .i64 q1, .int .i64 q2, .int .i64 kind, .int .i64 hand, .int .i64 bf, .int .i64 cell, .int .i64 other, .int .i64 q3, .int .i64 q4])] c H=
   some (.pure (.int .i64 (fo (cW r.wide r.deep) r.aa.length r.ae.length ⟨q1,q2,kind,hand,bf,cell,other,q3,q4⟩)),H):=by
 refine eC rfl rfl rfl rfl rfl hH fun H hH=> ?_;refine aM (aK KC aw Tryz.func73 rfl rfl U8 (by simp) hH ?_);have hr:=j5 (cW r.wide r.deep) r.aa.length r.ae.length ⟨q1,q2,kind,hand,bf,cell,other,q3,q4⟩;simp only [kY]at hr;rw [gK];have w1:=c8 (x:=(r.ae.length:Int)-1) (by omega) (by omega);have w2:=c8 (x:=(r.aa.length:Int)-1) (by omega) (by omega);have i0:cV 0 0 1=true:=rfl;rcases Dw kind with rfl|rfl|rfl|hk|⟨hk,n1,n2,n3,n4,n5,n6,n7,n8⟩
 ·have i1:cV 1 1 8=true:=rfl;by_cases a1:hand=0
  ·by_cases a2:bf=0
   ·by_cases a3:other=0
    ·subst a1;subst a2;subst a3
     cases a4:cV cell 0 (cW r.wide r.deep)with
     |false=>
      simp [a4,i1,i0]at hr;simp [cZ,fW,a4,ah,hr]
     |true=>
      simp [a4,i1,i0]at hr;simp [cZ,fW,a4,i0,ah,hr]
    ·have a3':(other==0)=false:=(by simpa using a3);subst a1;subst a2;simp [a3,i1]at hr;simp [a3',bne,ah,hr]
   ·have a2':(bf==0)=false:=(by simpa using a2);subst a1;simp [a2,i1]at hr;simp [a2',bne,ah,hr]
  ·have a1':(hand==0)=false:=(by simpa using a1);simp [a1,i1]at hr;simp [a1',bne,ah,hr]
 ·have i1:cV 2 1 8=true:=rfl;by_cases a1:cell=0
  ·by_cases a2:other=0
   ·subst a1;subst a2
    cases a3:cV hand 0 1 with
    |false=>
     simp [a3,i1]at hr;simp [cZ,a3,ah,hr]
    |true=>
     cases a4:cV bf 0 ((r.aa.length:Int)-1)with
     |false=>
      simp [a3,a4,i1]at hr;simp [cZ,a3,a4,w2,ah,hr]
     |true=>
      simp [a3,a4,i1]at hr;simp [cZ,a3,a4,w2,ah,hr]
   ·have a2':(other==0)=false:=(by simpa using a2);subst a1;simp [a2,i1]at hr;simp [a2',bne,ah,hr]
  ·have a1':(cell==0)=false:=(by simpa using a1);simp [a1,i1]at hr;simp [a1',bne,ah,hr]
 ·have i1:cV 4 1 8=true:=rfl;by_cases a1:bf=0
  ·by_cases a2:cell=0
   ·subst a1;subst a2
    cases a3:cV hand 0 1 with
    |false=>
     simp [a3,i1]at hr;simp [cZ,a3,ah,hr]
    |true=>
     cases a4:cV other 0 ((r.ae.length:Int)-1)with
     |false=>
      simp [a3,a4,i1]at hr;simp [cZ,a3,a4,w1,ah,hr]
     |true=>
      by_cases a5:other=q2
      ·subst a5;simp [a3,a4,i1]at hr;simp [cZ,a3,a4,w1,ah,hr]
      ·have a5':(other==q2)=false:=(by simpa using a5);simp [a3,a4,a5,i1]at hr;simp [cZ,a3,a4,a5',w1,ah,hr]
   ·have a2':(cell==0)=false:=(by simpa using a2);subst a1;simp [a2,i1]at hr;simp [a2',bne,ah,hr]
  ·have a1':(bf==0)=false:=(by simpa using a1);simp [a1,i1]at hr;simp [a1',bne,ah,hr]
 ·have i1:cV kind 1 8=true:=(by simp [cV];omega);have m1:kind≠1:=(by omega);have m2:kind≠2:=(by omega);have m4:kind≠4:=(by omega);by_cases a1:bf=0
  ·by_cases a2:cell=0
   ·by_cases a3:other=0
    ·subst a1;subst a2;subst a3
     cases a4:cV hand 0 1 with
     |false=>
      simp [a4,i1,m1,m2,m4]at hr;rcases hk with rfl|rfl|rfl|rfl|rfl<;>simp [cZ,a4,ah,hr]
     |true=>
      simp [a4,i1,m1,m2,m4]at hr;rcases hk with rfl|rfl|rfl|rfl|rfl<;>simp [cZ,a4,ah,hr]
    ·have a3':(other==0)=false:=(by simpa using a3);subst a1;subst a2;simp [a3,i1,m1,m2,m4]at hr;rcases hk with rfl|rfl|rfl|rfl|rfl<;>simp [a3',bne,ah,hr]
   ·have a2':(cell==0)=false:=(by simpa using a2);subst a1;simp [a2,i1,m1,m2,m4]at hr;rcases hk with rfl|rfl|rfl|rfl|rfl<;>simp [a2',bne,ah,hr]
  ·have a1':(bf==0)=false:=(by simpa using a1);simp [a1,i1,m1,m2,m4]at hr;rcases hk with rfl|rfl|rfl|rfl|rfl<;>simp [a1',bne,ah,hr]
 ·have e1:(kind==1)=false:=(by simpa using n1);have e2:(kind==2)=false:=(by simpa using n2);have e3:(kind==3)=false:=(by simpa using n3);have e4:(kind==4)=false:=(by simpa using n4);have e5:(kind==5)=false:=(by simpa using n5);have e6:(kind==6)=false:=(by simpa using n6);have e7:(kind==7)=false:=(by simpa using n7);have e8:(kind==8)=false:=(by simpa using n8);simp [hk]at hr;simp [e1,e2,e3,e4,e5,e6,e7,e8,ah,hr]
end
end Go.Gh
