/- Texts joined: the evaluator over ghost values, its soundness, the walks. Spaces struck and names made short by a program, for the size. -/
import Derived.Test.YtkcmcjohoockcaaGreatGc7e
import Derived.Test.YtkcmcjohoockcaaGreatProg
import Derived.KernelRfl
import Derived.IntWalk
namespace Go.Gh
open Go.Proofs
set_option linter.unusedVariables false
set_option linter.unusedSimpArgs false
set_option linter.unnecessarySimpa false
set_option maxRecDepth 100000
set_option maxHeartbeats 8000000
section
section
variable {K:Ctx} {fn:FuncId} {rec:Rec} {dst:Option Tmp} {ty:TypeId} {pos:String} {af:Array Edge} {gu:Option (Nat×Bool)} {s:aZ} {H:aj}
def ve (P:Program)(t:TypeId):Option (Option Nat×Option Nat×Option Nat):=(dr P t).map fun e=>(bp P e,jH P e,tz P e)
def apV (lv:Option Nat)(k:Nat→Option (GV×aj)):Option (GV×aj):=match lv with|some l=>k l|none=>none
@[congr] theorem abG {lv lv':Option Nat}{k:Nat→Option (GV×aj)}(h: ∀_:Unit,lv=lv'):apV lv k=apV lv' k:=by rw [h ()]
@[simp] theorem Yc {l:Nat}{k:Nat→Option (GV×aj)}:apV (some l) k=k l:= .trans rfl rfl
def EY (ta:Option (Option Nat×Option Nat×Option Nat))(xs:Option (List (List PV)×aj))(k:Nat→Nat→List (List PV)→aj→Option (GV×aj)):Option (GV×aj):=
 match ta,xs with
 |some (some size,some bytes,zs),some (xs,H)=>
  if zs=some size∧(xs.all fun r=>r.length==size)=true∧0<size∧0<bytes∧bytes≤1048576 then k size bytes xs H else none
 |_,_=>none
@[congr] theorem aaJ {ta ta':Option (Option Nat×Option Nat×Option Nat)}{xs xs':Option (List (List PV)×aj)}{k:Nat→Nat→List (List PV)→aj→Option (GV×aj)}(h: ∀_:Unit,ta=ta')(h': ∀_:Unit,xs=xs'):EY ta xs k=EY ta' xs' k:=by rw [h (),h' ()]
@[simp] theorem U9 {size bytes:Nat}{zs:Option Nat}{xs:List (List PV)}{k:Nat→Nat→List (List PV)→aj→Option (GV×aj)}:EY (some (some size,some bytes,zs)) (some (xs,H)) k=
  if zs=some size∧(xs.all fun r=>r.length==size)=true∧0<size∧0<bytes∧bytes≤1048576 then k size bytes xs H else none:= .trans rfl rfl
def zW (l key:Nat)(s:GV)(size bytes:Nat)(xs:List (List PV))(H:aj):Option (GV×aj):=
 match s with
 | .aV=>
  if xs.length*bytes≤1099511627776 then (if xs.isEmpty then some (.aV,H)else rn (km H l key (.arr size xs 0 false)) fun nm=> .a8 nm size xs.length 0 xs.length)else none
 | .a8 nm es top lo len=>
  (match H.get nm with
  |some (.arr es' elems vf ro)=>
   if es'=size∧es=size∧top=elems.length∧lo=0∧len=top∧vf≤top∧ro=false∧(len+xs.length)*bytes≤1099511627776 then
    (if xs.isEmpty then some (.a8 nm es top lo len,H)else some (.a8 nm es (top+xs.length) 0 (top+xs.length),H.set nm (.arr es' (elems++xs) vf false)))
   else if es'=size∧es=size∧top=elems.length∧vf≤top∧ro=false∧lo+len+xs.length≤top then
    (if xs.isEmpty then some (.a8 nm es top lo len,H)else some (.a8 nm es top lo (len+xs.length),H.set nm (.arr es' (aD elems (lo+len) xs) top false)))
   else none
  |_=>none)
 |_=>none
@[simp] theorem vg {l key size bytes:Nat}{xs:List (List PV)}:zW l key .aV size bytes xs H=
  if xs.length*bytes≤1099511627776 then (if xs.isEmpty then some (.aV,H)else rn (km H l key (.arr size xs 0 false)) fun nm=> .a8 nm size xs.length 0 xs.length)else none:= .trans rfl rfl
def Yd (H:aj)(nm:Nm)(es top lo len size bytes:Nat)(xs:List (List PV))(b:Option dH):Option (GV×aj):=match b with
  |some (.arr es' elems vf ro)=>
   if es'=size∧es=size∧top=elems.length∧lo=0∧len=top∧vf≤top∧ro=false∧(len+xs.length)*bytes≤1099511627776 then
    (if xs.isEmpty then some (.a8 nm es top lo len,H)else some (.a8 nm es (top+xs.length) 0 (top+xs.length),H.set nm (.arr es' (elems++xs) vf false)))
   else if es'=size∧es=size∧top=elems.length∧vf≤top∧ro=false∧lo+len+xs.length≤top then
    (if xs.isEmpty then some (.a8 nm es top lo len,H)else some (.a8 nm es top lo (len+xs.length),H.set nm (.arr es' (aD elems (lo+len) xs) top false)))
   else none
  |_=>none
@[congr] theorem abH {nm:Nm}{es top lo len size bytes:Nat}{xs:List (List PV)}{b b':Option dH}(h: ∀_:Unit,b=b'):Yd H nm es top lo len size bytes xs b=Yd H nm es top lo len size bytes xs b':=by rw [h ()]
@[simp] theorem aaK {nm:Nm}{es top lo len size bytes:Nat}{xs:List (List PV)}{es' vf:Nat}{elems:List (List PV)}{ro:Bool}:Yd H nm es top lo len size bytes xs (some (.arr es' elems vf ro))=
      if es'=size∧es=size∧top=elems.length∧lo=0∧len=top∧vf≤top∧ro=false∧(len+xs.length)*bytes≤1099511627776 then
        (if xs.isEmpty then some (.a8 nm es top lo len,H)else some (.a8 nm es (top+xs.length) 0 (top+xs.length),H.set nm (.arr es' (elems++xs) vf false)))
      else if es'=size∧es=size∧top=elems.length∧vf≤top∧ro=false∧lo+len+xs.length≤top then
        (if xs.isEmpty then some (.a8 nm es top lo len,H)else some (.a8 nm es top lo (len+xs.length),H.set nm (.arr es' (aD elems (lo+len) xs) top false)))
      else none:= .trans rfl rfl
@[simp] theorem aaL {l key size bytes:Nat}{xs:List (List PV)}{nm:Nm}{es top lo len:Nat}:zW l key (.a8 nm es top lo len) size bytes xs H=Yd H nm es top lo len size bytes xs (H.get nm):=by
 unfold zW Yd;rfl
theorem Ah {l key:Nat}{t:TypeId}{a x:GV}:pA K H l key t a x=EY (ve K.P t) (gU H x) (zW l key a):=by
 unfold pA ve
 cases dr K.P t with
 |none=>rfl
 |some e=>
  simp only [Option.map_some]
  cases bp K.P e with
  |none=>rfl
  |some size=>
   cases jH K.P e with
   |none=>rfl
   |some bytes=>
    cases gU H x with
    |none=>rfl
    |some y=>
     obtain⟨xs,H1⟩:=y;simp only [EY];by_cases hc:tz K.P e=some size∧(xs.all fun r=>r.length==size)=true∧0<size∧0<bytes∧bytes≤1048576
     ·obtain⟨h1,h2,h3,h4,h5⟩:=hc;simp only [h1,h2,h3,h4,h5,decide_true,Bool.and_self,and_self,if_true];unfold zW
      cases a with
      |aV=>
       simp only;split
       ·split
        ·rfl
        ·cases km H1 l key (.arr size xs 0 false)<;>rfl
       ·rfl
      |a8 nm es top lo len=>rfl
      |_=>rfl
     ·rw [if_neg hc,if_neg];intro h;simp only [Bool.and_eq_true,decide_eq_true_eq]at h;exact hc ⟨h.1.1.1.1,h.1.1.1.2,h.1.1.2,h.1.2,h.2⟩
def apR (r:Option Nat)(x:Option (GV×aj))(y:Nat→Option (GV×aj)):Option (GV×aj):=match r with|none=>x|some key=>y key
@[simp] theorem Ye {x:Option (GV×aj)}{y:Nat→Option (GV×aj)}:apR none x y=x:= .trans rfl rfl
def upX (bn:Option Nm)(k:Nm→Option (GV×aj)):Option (GV×aj):=match bn with|some l=>k l|none=>none
@[congr] theorem abJ {lv lv':Option Nm}{k:Nm→Option (GV×aj)}(h: ∀_:Unit,lv=lv'):upX lv k=upX lv' k:=by rw [h ()]
@[simp] theorem Yf {l:Nm}{k:Nm→Option (GV×aj)}:upX (some l) k=k l:= .trans rfl rfl
def upN:GV→Option Nm| .ay nm _=>some nm|_=>none
@[simp] theorem Yg {nm:Nm}{o:Nat}:upN (.ay nm o)=some nm:= .trans rfl rfl
@[simp] theorem Va {t:Nat}:pP s (.box t)=upN (look s t):=by
 unfold pP upN;rfl
@[simp] theorem Rg {d:Nat}{x y:Operand}{t t2:TypeId}:dZ K fn ⟨some d, .call ⟨.builtin .append,#[x,y],#[t,t2]⟩,ty,pos,af,gu⟩ s H=
  if dS K.P (some t2)=true then apR (K.row fn d) (apV (jT H s (K.up fn d)) fun l=>EY (ve K.P t) (gU H (ev s y)) (zW l d (ev s x))) fun key=>upX (pP s (K.up fn d)) fun bn=>oo K H bn key t (ev s x) (ev s y)else none:=by
 show (if dS K.P (some t2)=true then (match K.row fn d with|none=>(match jT H s (K.up fn d)with|some l=>pA K H l d t (ev s x) (ev s y)|none=>none)|some key=>(match pP s (K.up fn d)with|some bn=>oo K H bn key t (ev s x) (ev s y)|none=>none))else none)=_
 split
 ·cases K.row fn d with
  |none=>
   simp only [apR]
   cases jT H s (K.up fn d)with
   |none=>rfl
   |some l=>exact Ah
  |some key=>rfl
 ·rfl
@[simp] theorem Hh {n:Nat}:jT H s (.scopes n)=if H.length≤n then none else some (H.length-1-n):= .trans rfl rfl
def upB:GV→Option Nat| .ay nm _=>some nm.1|_=>none
@[simp] theorem Yh {nm:Nm}{o:Nat}:upB (.ay nm o)=some nm.1:= .trans rfl rfl
@[simp] theorem Oj {t:Nat}:jT H s (.box t)=upB (look s t):=by
 unfold jT upB;rfl
@[simp] theorem Rh {l key:Nat}{b:dH}:km H l key b=if H.length≤l then none else if (H.get (l,key)).isSome then none else some ((l,key),H.set (l,key) b):=by
 unfold km;split
 ·rfl
 ·cases H.get (l,key)<;>simp
@[simp] theorem Ok {l:List (List PV)}:gU H (.pure (.slice l))=some (l,H):= .trans rfl rfl
@[simp] theorem Ol {l:List (List GV)}:gU H (.lits l)=some (cT H l):= .trans rfl rfl
def elH (H:aj)(x:PV):Option (List (List PV)×aj):=match x with| .slice l=>some (l,H)|_=>none
@[simp] theorem Vb {l:List (List PV)}:elH H (.slice l)=some (l,H):= .trans rfl rfl
@[simp] theorem Ri {nm:Nm}{es top lo len:Nat}:gU H (.a8 nm es top lo len)=elH H (Yi es top lo len (H.get nm)):=by
 rw [←tB];unfold gU elH;simp only;generalize jU H nm es top lo len=q;cases q<;>rfl
@[simp] theorem Ka:cT H []=([],H):= .trans rfl rfl
def prC (r:List (List GV))(x:List PV×aj):List (List PV)×aj:=(x.1::(cT x.2 r).1,(cT x.2 r).2)
@[congr] theorem abN {r:List (List GV)}{x y:List PV×aj}(h: ∀_:Unit,x=y):prC r x=prC r y:=by rw [h ()]
@[simp] theorem Yj {r:List (List GV)}{g:List PV}:prC r (g,H)=(g::(cT H r).1,(cT H r).2):= .trans rfl rfl
@[simp] theorem Jo {g:List GV}{r:List (List GV)}:cT H (g::r)=prC r (bO H g):= .trans rfl rfl
@[simp] theorem Vc {t:TypeId}{x:Operand}{lo hi mx:Option Operand}:dZ K fn ⟨dst, .slice t x lo hi mx,ty,pos,af,gu⟩ s H=rv H (kn K t (ev s x) (lo.map (ev s)) (hi.map (ev s)) (mx.map (ev s))):=by
 simp only [dZ,rv];rfl
def slP (es:Option (Option Nat))(a b:Option Nat)(l:List (List PV)):Option GV:=
 match es,a,b with
 |some (some es),some a,some b=>if a≤b∧b≤l.length∧(l.all fun r=>r.length==es)=true then some (.pure (.slice ((l.take b).drop a)))else none
 |_,_,_=>none
@[simp] theorem Yk {es a b:Nat}{l:List (List PV)}:slP (some (some es)) (some a) (some b) l=if a≤b∧b≤l.length∧(l.all fun r=>r.length==es)=true then some (.pure (.slice ((l.take b).drop a)))else none:= .trans rfl rfl
@[simp] theorem Om {t:TypeId}{l:List (List PV)}{lo hi:Option GV}:kn K t (.pure (.slice l)) lo hi none=slP (gH K.P t) (cQ lo 0) (cQ hi l.length) l:=by
 unfold kn slP gH;simp only [Option.isSome_none,Bool.false_eq_true,if_false];generalize cQ lo 0=a;generalize cQ hi l.length=b;rcases a with _|a<;>rcases b with _|b
 ·cases dr K.P t with
  |none=>rfl
  |some e=>simp only [Option.map_some];cases bp K.P e<;>rfl
 ·cases dr K.P t with
  |none=>rfl
  |some e=>simp only [Option.map_some];cases bp K.P e<;>rfl
 ·cases dr K.P t with
  |none=>rfl
  |some e=>simp only [Option.map_some];cases bp K.P e<;>rfl
 ·cases dr K.P t with
  |none=>rfl
  |some e=>
   simp only [Option.map_some]
   cases bp K.P e with
   |none=>simp
   |some es=>
    simp only;by_cases h:a≤b∧b≤l.length
    ·rw [if_pos h];simp only [h.1,h.2,true_and]
    ·rw [if_neg h,if_neg (fun h'=>h ⟨h'.1,h'.2.1⟩)]
def slH (es:Option (Option Nat))(a b:Option Nat)(nm:Nm)(es' top l0 len:Nat):Option GV:=
 match es,a,b with
 |some es,some a,some b=>if a≤b∧(b≤len∨l0+b≤top)∧es=some es' then (if a=b∧0<a then some (.pure (.slice []))else some (.a8 nm es' top (l0+a) (b-a)))else none
 |_,_,_=>none
@[simp] theorem Yl {es:Option Nat}{a b:Nat}{nm:Nm}{es' top l0 len:Nat}:slH (some es) (some a) (some b) nm es' top l0 len=if a≤b∧(b≤len∨l0+b≤top)∧es=some es' then (if a=b∧0<a then some (.pure (.slice []))else some (.a8 nm es' top (l0+a) (b-a)))else none:= .trans rfl rfl
@[simp] theorem Rj {t:TypeId}{nm:Nm}{es top l0 len:Nat}{lo hi:Option GV}:kn K t (.a8 nm es top l0 len) lo hi none=slH (gH K.P t) (cQ lo 0) (cQ hi len) nm es top l0 len:=by
 unfold kn slH gH;simp only [Option.isSome_none,Bool.false_eq_true,if_false];generalize cQ lo 0=a;generalize cQ hi len=b
 cases dr K.P t with
 |none=>cases a<;>cases b<;>rfl
 |some e=>cases a<;>cases b<;>rfl
def slX (es:Option (Option Nat))(a:Option Nat)(b m:Int)(x:GV):Option GV:=
 match es,a with
 |some (some es'),some a=>
  (match x with
  | .aV=>if a=0∧b=0∧m=0 then some .aV else none
  | .pure (.slice _)=>if a=0∧b=0∧m=0 then some .aV else none
  | .a8 nm es top l0 len=>
   if a=0∧b=0∧m=0 then some .aV
   else if (a:Int)<b∧b≤m∧m=len∧l0+len=top∧es'=es then some (.a8 nm es top (l0+a) (b.toNat-a))else none
  |_=>none)
 |_,_=>none
@[simp] theorem aaO {es' a:Nat}{b m:Int}{nm:Nm}{es top l0 len:Nat}:slX (some (some es')) (some a) b m (.a8 nm es top l0 len)=
  if a=0∧b=0∧m=0 then some .aV
  else if (a:Int)<b∧b≤m∧m=len∧l0+len=top∧es'=es then some (.a8 nm es top (l0+a) (b.toNat-a))else none:= .trans rfl rfl
@[simp] theorem Rk {t:TypeId}{x:GV}{lo:Option GV}{k k':IntKind}{b m:Int}:kn K t x lo (some (.pure (.int k b))) (some (.pure (.int k' m)))=slX (gH K.P t) (cQ lo 0) b m x:=by
 unfold kn slX gH;simp only [Option.isSome_some,if_true];generalize cQ lo 0=a
 cases dr K.P t with
 |none=>cases a<;>rfl
 |some e=>
  simp only [Option.map_some]
  cases a with
  |none=>cases bp K.P e<;>rfl
  |some a=>
   simp only
   cases bp K.P e with
   |none=>rfl
   |some es=>
    cases x with
    |pure p=>cases p<;>rfl
    |_=>rfl
def EZ (e:Option Nat)(z:Option (List PV))(H:aj)(x:GV):Option aj:=
 match e,z,x with
 |some size,some ps, .a8 nm es top lo len=>
  (match H.get nm with
  |some (.arr es' elems vf ro)=>if es'=size∧es=size∧ps.length=size∧top=elems.length∧vf≤top∧ro=false∧lo+len≤top∧0<len then some (H.set nm (.arr es' (aD elems lo (List.replicate len ps)) top false))else none
  |_=>none)
 |_,_,_=>none
def Hi (P:Program)(t:TypeId):Option (Option Nat×Option (List PV)):=(dr P t).map fun e=>(bp P e,match cw P e with|some z=>(match bC z with|some zs=>bm (zs.map cj)|none=>none)|none=>none)
def Hj (r:Option (Option Nat×Option (List PV)))(H:aj)(x:GV):Option aj:=match r with|some (e,z)=>EZ e z H x|none=>none
@[simp] theorem Vd {e:Option Nat}{z:Option (List PV)}{x:GV}:Hj (some (e,z)) H x=EZ e z H x:= .trans rfl rfl
def Kb (H:aj)(size:Nat)(ps:List PV)(nm:Nm)(es top lo len:Nat)(b:Option dH):Option aj:=match b with
  |some (.arr es' elems vf ro)=>if es'=size∧es=size∧ps.length=size∧top=elems.length∧vf≤top∧ro=false∧lo+len≤top∧0<len then some (H.set nm (.arr es' (aD elems lo (List.replicate len ps)) top false))else none
  |_=>none
@[congr] theorem aaP {size:Nat}{ps:List PV}{nm:Nm}{es top lo len:Nat}{b b':Option dH}(h: ∀_:Unit,b=b'):Kb H size ps nm es top lo len b=Kb H size ps nm es top lo len b':=by rw [h ()]
@[simp] theorem Ym {size:Nat}{ps:List PV}{nm:Nm}{es top lo len:Nat}{es' vf:Nat}{elems:List (List PV)}{ro:Bool}:Kb H size ps nm es top lo len (some (.arr es' elems vf ro))=
  if es'=size∧es=size∧ps.length=size∧top=elems.length∧vf≤top∧ro=false∧lo+len≤top∧0<len then some (H.set nm (.arr es' (aD elems lo (List.replicate len ps)) top false))else none:= .trans rfl rfl
@[simp] theorem Yn {size:Nat}{ps:List PV}{nm:Nm}{es top lo len:Nat}:EZ (some size) (some ps) H (.a8 nm es top lo len)=Kb H size ps nm es top lo len (H.get nm):= .trans rfl rfl
theorem Cl {t:TypeId}{x:GV}:sF K t H x=Hj (Hi K.P t) H x:=by
 unfold sF Hi
 cases dr K.P t with
 |none=>rfl
 |some e=>
  simp only [Option.map_some,Hj]
  cases bp K.P e with
  |none=>rfl
  |some size=>
   cases cw K.P e with
   |none=>cases x<;>rfl
   |some z=>
    cases x with
    |a8 nm es top lo len=>
     simp only
     cases bC z with
     |none=>rfl
     |some zs=>
      simp only
      cases hg:H.get nm with
      |none=>cases bm (zs.map cj)<;>simp only [EZ,hg]
      |some b=>
       cases b with
       |arr es' elems vf ro=>simp only;cases bm (zs.map cj)<;>simp only [EZ,hg]
       |_=>cases bm (zs.map cj)<;>simp only [EZ,hg]
    |_=>
     simp only;generalize (match bC z with|some zs=>bm (zs.map cj)|none=>none)=ps
     cases ps<;>rfl
@[simp] theorem Ve {x:Operand}{t:TypeId}:dZ K fn ⟨dst, .call ⟨.builtin .clear,#[x],#[t]⟩,ty,pos,af,gu⟩ s H=(Hj (Hi K.P t) H (ev s x)).map fun H=>(GV.pure (.tuple []),H):=by
 show (match sF K t H (ev s x)with|some H=>some (GV.pure (.tuple []),H)|none=>none)=_
 rw [Cl];cases Hj (Hi K.P t) H (ev s x)<;>rfl
@[simp] theorem On {d:Nat}:cQ none d=some d:= .trans rfl rfl
@[simp] theorem Oo {k:IntKind}{i:Int}{d:Nat}:cQ (some (.pure (.int k i))) d=if i<0 then none else some i.toNat:= .trans rfl rfl
def wY (P:Program)(t:TypeId):Option (Option Nat×Option (List GV)):=(dr P t).map fun e=>(bp P e,rE (cw P e))
def Vf (own:Bool)(d:Nat)(H:aj)(size len:Nat)(cs:List GV)(ps:Option (List PV)):Option (GV×aj):=
 match ps with
 |some ps=>if own then rn (iz H d (.arr size (chunks size len ps) 0 false)) (fun nm=> .a8 nm size len 0 len)else some (.pure (.slice (chunks size len ps)),H)
 |none=>if own then rn (iz (bO H cs).2 d (.arr size (chunks size len (bO H cs).1) 0 false)) (fun nm=> .a8 nm size len 0 len)else some (.lits (chunks size len cs),H)
def blL (own:Bool)(d:Nat)(H:aj)(size len:Nat)(x:Option (List GV)):Option (GV×aj):=match x with
 |some cs=>if len=0 then some (.aV,H)else Vf own d H size len cs (bm (cs.map cj))
 |none=>none
def blV (own:Bool)(d:Nat)(H:aj)(len:Nat)(ps:List (Nat×GV))(tl:Option (Option Nat×Option (List GV))):Option (GV×aj):=match tl with
 |some (some size,some zs)=>if zs.length=size∧0<size∧len*size≤16777216 then blL own d H size len (eH (fun i=>some (i*size,size)) (List.replicate len zs).flatten ps)else none
 |_=>none
@[simp] theorem Kc {d size len:Nat}{cs:List GV}{ps:List PV}:Vf true d H size len cs (some ps)=rn (iz H d (.arr size (chunks size len ps) 0 false)) (fun nm=> .a8 nm size len 0 len):= .trans rfl rfl
@[simp] theorem Yo {d size len:Nat}{cs:List GV}{ps:List PV}:Vf false d H size len cs (some ps)=some (.pure (.slice (chunks size len ps)),H):= .trans rfl rfl
@[simp] theorem Yp {d size len:Nat}{cs:List GV}:Vf false d H size len cs none=some (.lits (chunks size len cs),H):= .trans rfl rfl
@[simp] theorem Ai {d size len:Nat}{cs:List GV}:Vf true d H size len cs none=rn (iz (bO H cs).2 d (.arr size (chunks size len (bO H cs).1) 0 false)) (fun nm=> .a8 nm size len 0 len):= .trans rfl rfl
@[simp] theorem Hk {own:Bool}{d size len:Nat}{cs:List GV}:blL own d H size len (some cs)=if len=0 then some (.aV,H)else Vf own d H size len cs (bm (cs.map cj)):= .trans rfl rfl
@[simp] theorem Hl {own:Bool}{d size len:Nat}{zs:List GV}{ps:List (Nat×GV)}:blV own d H len ps (some (some size,some zs))=
  if zs.length=size∧0<size∧len*size≤16777216 then blL own d H size len (eH (fun i=>some (i*size,size)) (List.replicate len zs).flatten ps)else none:= .trans rfl rfl
@[simp] theorem Hn {d:Nat}{t:TypeId}{n:Nat}{ps:Array (Nat×Operand)}:dZ K fn ⟨some d, .buildSlice t n ps,ty,pos,af,gu⟩ s H=blV (K.own fn d) d H n (ps.toList.map (uA s)) (wY K.P t):=by
 simp only [dZ,wY]
 cases dr K.P t with
 |none=>rfl
 |some e=>
  simp only [Option.map_some]
  cases bp K.P e with
  |none=>rfl
  |some size=>
   cases cw K.P e with
   |none=>rfl
   |some z=>
    simp only [kD]
    cases bC z with
    |none=>rfl
    |some zs=>
     simp only [Hl];split
     ·cases eH (fun i=>some (i*size,size)) (List.replicate n zs).flatten (ps.toList.map (uA s))with
      |none=>rfl
      |some cs=>
       simp only [Hk];split
       ·rfl
       ·cases bm (cs.map cj)with
        |none=>
         simp only
         cases K.own fn d with
         |true=>
          simp only [if_true,Ai];cases iz (bO H cs).2 d (.arr size (chunks size n (bO H cs).1) 0 false)<;>rfl
         |false=>rfl
        |some qs=>
         simp only
         cases K.own fn d with
         |true=>
          simp only [if_true,Kc];cases iz H d (.arr size (chunks size n qs) 0 false)<;>rfl
         |false=>rfl
     ·rfl
@[simp] theorem Oq {α:Type}{es:Nat}{l:List α}:chunks es 0 l=[]:= .trans rfl rfl
@[simp] theorem Ot {α:Type}{es n:Nat}{l:List α}:chunks es (n+1) l=l.take es::chunks es n (l.drop es):= .trans rfl rfl
def tmk (P:Program)(t:TypeId):Option (Option Nat×Option Nat×Option (List PV)):=(dr P t).map fun e=>(bp P e,jH P e,match rE (cw P e)with|some zs=>bm (zs.map cj)|none=>none)
def mkS (d:Nat)(H:aj)(a b:GV)(tm:Option (Option Nat×Option Nat×Option (List PV))):Option (GV×aj):=match tm,a,b with
 |some (some size,some bytes,some ps), .pure (.int _ l), .pure (.int _ c)=>if ps.length=size∧0<size∧0<bytes∧0≤l∧l≤c∧c*bytes≤1099511627776 then
   rn (iz H d (.arr size (List.replicate l.toNat ps) 0 false)) (fun nm=> .a8 nm size l.toNat 0 l.toNat)else none
 |_,_,_=>none
@[simp] theorem Ho {d size bytes:Nat}{ps:List PV}{k k':IntKind}{l c:Int}:mkS d H (.pure (.int k l)) (.pure (.int k' c)) (some (some size,some bytes,some ps))=
  if ps.length=size∧0<size∧0<bytes∧0≤l∧l≤c∧c*bytes≤1099511627776 then
   rn (iz H d (.arr size (List.replicate l.toNat ps) 0 false)) (fun nm=> .a8 nm size l.toNat 0 l.toNat)else none:= .trans rfl rfl
@[simp] theorem Jp {d : Nat} {t : TypeId} {l c : Operand} : dZ K fn ⟨some d, .makeSlice t l c, ty, pos, af, gu⟩ s H = mkS d H (ev s l) (ev s c) (tmk K.P t) := by
  simp only [dZ, tmk]
  generalize ev s l = a
  generalize ev s c = b
  cases dr K.P t with
  | none => rfl
  | some e =>
    simp only [Option.map_some]
    cases bp K.P e with
    | none => rfl
    | some size =>
      cases jH K.P e with
      | none => rfl
      | some bytes =>
        cases cw K.P e with
        | none => rfl
        | some z =>
          simp only [kD]
          cases a with
          | pure p =>
            cases p with
            | int k l =>
              cases b with
              | pure q =>
                cases q with
                | int k' c =>
                  simp only
                  cases bC z with
                  | none => rfl
                  | some zs =>
                    simp only
                    cases bm (zs.map cj) with
                    | none => rfl
                    | some ps =>
                      simp only [Ho]
                      split
                      · cases iz H d (.arr size (List.replicate l.toNat ps) 0 false) <;> rfl
                      · rfl
                | _ => cases bC z <;> try rfl
                       all_goals (rename_i zs; simp only; cases bm (zs.map cj) <;> rfl)
              | _ => cases bC z <;> try rfl
                     all_goals (rename_i zs; simp only; cases bm (zs.map cj) <;> rfl)
            | _ => cases bC z <;> try rfl
                   all_goals (rename_i zs; simp only; cases bm (zs.map cj) <;> rfl)
          | _ => cases bC z <;> try rfl
                 all_goals (rename_i zs; simp only; cases bm (zs.map cj) <;> rfl)
@[simp] theorem Ou {d:Nat}{t:TypeId}:dZ K fn ⟨some d, .makeMap t none,ty,pos,af,gu⟩ s H=rn (iz H d (.map [])) .map:=by
 simp only [dZ];cases iz H d (.map [])<;>rfl
def Yq (ok:Bool)(z:Option GV)(x:Option (Option (Nat×GV))):Option GV:=match x with
 |some (some (_,v))=>some (if ok then mkTuple [v, .pure (.bool true)]else v)
 |some none=>(match z with|some z=>some (if ok then mkTuple [z, .pure (.bool false)]else z)|none=>none)
 |none=>none
@[simp] theorem aaQ {ok:Bool}{z:Option GV}{i:Nat}{v:GV}:Yq ok z (some (some (i,v)))=some (if ok then mkTuple [v, .pure (.bool true)]else v):= .trans rfl rfl
@[simp] theorem Yr {ok:Bool}{z:GV}:Yq ok (some z) (some none)=some (if ok then mkTuple [z, .pure (.bool false)]else z):= .trans rfl rfl
def tmz (P:Program)(t:TypeId):Option (TypeId×Option GV):=(wZ P t).map fun x=>(x.1,cw P x.2)
def luK (K:Ctx)(ok:Bool)(tm:Option (TypeId×Option GV))(k:GV)(es:Option (List (PV×GV))):Option GV:=match tm,k,es with
 |some (kt,z), .pure k,some es=>if jn K kt k=false then none else Yq ok z (cH k es 0)
 |_,_,_=>none
@[simp] theorem Ys {K:Ctx}{ok:Bool}{kt:TypeId}{z:Option GV}{k:PV}{es:List (PV×GV)}:luK K ok (some (kt,z)) (.pure k) (some es)=if jn K kt k=false then none else Yq ok z (cH k es 0):= .trans rfl rfl
@[simp] theorem Rl {t:TypeId}{x k:Operand}{ok:Bool}:dZ K fn ⟨dst, .lookup t x k ok,ty,pos,af,gu⟩ s H=rv H (luK K ok (tmz K.P t) (ev s k) (mapOf H (ev s x))):=by
 have h:rF K t H (ev s x) (ev s k) ok=luK K ok (tmz K.P t) (ev s k) (mapOf H (ev s x)):=by
  unfold rF luK tmz;generalize ev s k=g;generalize mapOf H (ev s x)=m
  cases wZ K.P t with
  |none=>rfl
  |some p=>
   obtain⟨kt,e⟩:=p
   cases g with
   |pure q=>
    cases m with
    |none=>rfl
    |some es=>
     simp only [Option.map_some];split
     ·rfl
     ·unfold Yq
      cases cH q es 0 with
      |none=>rfl
      |some y=>cases y<;>rfl
   |_=>cases m<;>rfl
 simp only [dZ,h];rfl
def Kd (b:Option dH):Option (List (PV×GV)):=match b with|some (.map es)=>some es|_=>none
@[simp] theorem Yt {es:List (PV×GV)}:Kd (some (.map es))=some es:= .trans rfl rfl
def Yu (nm:Nm)(H:aj)(k:PV)(v:GV)(es:List (PV×GV))(x:Option (Option (Nat×GV))):Option aj:=match x with
 |some (some (i,_))=>some (H.set nm (.map (es.set i (k,v))))
 |some none=>some (H.set nm (.map (es++[(k,v)])))
 |none=>none
@[simp] theorem aaT {nm:Nm}{k:PV}{v v':GV}{es:List (PV×GV)}{i:Nat}:Yu nm H k v es (some (some (i,v')))=some (H.set nm (.map (es.set i (k,v)))):= .trans rfl rfl
@[simp] theorem Yv {nm:Nm}{k:PV}{v:GV}{es:List (PV×GV)}:Yu nm H k v es (some none)=some (H.set nm (.map (es++[(k,v)]))):= .trans rfl rfl
def muK (K:Ctx)(kt:TypeId)(nm:Nm)(k:PV)(x:Option (GV×aj)):Option aj:=match x with
 |some (v',H1)=>(match Kd (H1.get nm)with|some es=>if jn K kt k=false then none else Yu nm H1 k v' es (cH k es 0)|none=>none)
 |none=>none
@[simp] theorem Yw {K:Ctx}{kt:TypeId}{nm:Nm}{k:PV}{v:GV}:muK K kt nm k (some (v,H))=(match Kd (H.get nm)with|some es=>if jn K kt k=false then none else Yu nm H k v es (cH k es 0)|none=>none):= .trans rfl rfl
def Yb (K:Ctx)(tm:Option (TypeId×TypeId))(H:aj)(m k v:GV):Option aj:=match tm,m,k with
 |some (kt,_), .map nm, .pure k=>muK K kt nm k (kV H nm.1 v)
 |_,_,_=>none
@[simp] theorem Jq {t:TypeId}{m k v:Operand}:dZ K fn ⟨dst, .mapUpdate t m k v,ty,pos,af,gu⟩ s H=rh (Yb K (wZ K.P t) H (ev s m) (ev s k) (ev s v)):=by
 have h:jI K t H (ev s m) (ev s k) (ev s v)=Yb K (wZ K.P t) H (ev s m) (ev s k) (ev s v):=by
  unfold jI Yb;generalize ev s m=gm;generalize ev s k=gk
  cases wZ K.P t with
  |none=>rfl
  |some p=>
   obtain⟨kt,e⟩:=p
   cases gm with
   |map nm=>
    cases gk with
    |pure q=>
     simp only
     cases kV H nm.1 (ev s v)with
     |none=>rfl
     |some y=>
      obtain⟨v',H1⟩:=y;simp only [muK,Kd]
      cases H1.get nm with
      |none=>rfl
      |some b=>
       cases b with
       |map es=>
        simp only;split
        ·rfl
        ·unfold Yu
         cases cH q es 0 with
         |none=>rfl
         |some y=>cases y<;>rfl
       |_=>rfl
    |_=>rfl
   |_=>rfl
 simp only [dZ,h];rfl
@[simp] theorem Ke {f:Nat}{a c:Array Operand}:dZ K fn ⟨dst, .makeFunc (.func f) a c,ty,pos,af,gu⟩ s H=rv H (some (sG f (a.toList.map (ev s)) (c.toList.map (ev s)))):= .trans rfl rfl
@[simp] theorem Rm {f:Nat}{a:List GV}{g:GV}{c:List GV}:sG f a (g::c)= .func f a (g::c):=by unfold sG;simp
@[simp] theorem aaU {args:Array Operand}{ats:Array TypeId}:dZ K fn ⟨dst, .call ⟨.builtin .min,args,ats⟩,ty,pos,af,gu⟩ s H=rv H (ik false (args.toList.map (ev s))):=by
 simp only [dZ,rv];rfl
@[simp] theorem Ov {mx:Bool}{k:IntKind}{a:Int}:ik mx [.pure (.int k a)]=some (.pure (.int k a)):=by
 rw [ik]
@[simp] theorem Ow {mx:Bool}{k:IntKind}{a b:Int}{r:List GV}:ik mx (.pure (.int k a):: .pure (.int k b)::r)=ik mx (.pure (.int k (if mx=true then (if a<b then b else a)else (if b<a then b else a)))::r):=by
 rw [ik];simp
def Aj (x:Option GV)(r:Option (List GV)):Option (List GV):=match x,r with|some v,some l=>some (v::l)|_,_=>none
@[simp] theorem Rn {v:GV}{l:List GV}:Aj (some v) (some l)=some (v::l):= .trans rfl rfl
def Ak (K:Ctx)(st:bN):List ResultVar→Option (List GV)
 | []=>some []
 | .tmp t::r=>Aj (some (look st.s t)) (Ak K st r)
 | .cell a t::r=>Aj (kx K.P t st.h (look st.s a)) (Ak K st r)
@[simp] theorem Yx {st:bN}:Ak K st []=some []:= .trans rfl rfl
@[simp] theorem Hp {st:bN}{t:Nat}{r:List ResultVar}:Ak K st (.tmp t::r)=Aj (some (look st.s t)) (Ak K st r):= .trans rfl rfl
@[simp] theorem E0 {st:bN}{a:Nat}{t:TypeId}{r:List ResultVar}:Ak K st (.cell a t::r)=Aj (kx K.P t st.h (look st.s a)) (Ak K st r):= .trans rfl rfl
@[simp] theorem Kf {g:Func}{st:bN}:fh K g st=Ak K st g.results.toList:=by
 unfold fh;generalize g.results.toList=l
 induction l with
 |nil=>rfl
 |cons x r ih=>
  cases x with
  |tmp t=>
   simp only [List.mapM_cons,Hp,←ih];generalize List.mapM (m:=Option) _ r=q;cases q<;>rfl
  |cell a t=>
   simp only [List.mapM_cons,E0,←ih]
   cases kx K.P t st.h (look st.s a)with
   |none=>rfl
   |some v=>
    generalize List.mapM (m:=Option) _ r=q;cases q<;>rfl
@[simp] theorem Cm {id:Nat}{ops:Array Oper}{b:Bool}:aX (.region id ops b)=id+1:= .trans rfl rfl
@[simp] theorem GI {a b:Code}:aX (.seq a b)=if aX a=0 then aX b else aX a:= .trans rfl rfl
theorem aO {α:Type}{x:Option α}{a:α}(h:mh x (fun r=>r=a)):x=some a:=by
 obtain⟨r,h1,h2⟩:=h;rw [h1,h2]
end
end
def abU:List (Nat×Nat×List Nat×List Nat):=[(3,12,[3,4,16,17],[12]),(4,9,[1,2,3,5,11,12,13,14,15],[1,2,3,5,11,12,13,14]),(4,15,[17,18,19,20,21],[10]),(5,9,[12,13,14,15],[8]),(6,10,[3,4,5,6,8,10],[2,3,4,5]),(7,12,[4,5,6,7,8,9,10],[2]),(7,16,[4,5,6,7,8,9,10,11,12],[2,4,5,6,7,8,9,10]),(7,22,[4,5,6,7,8,9,10,11,13,14],[4,5,6,7,8,9,10,11,13]),(8,13,[4,10],[2]),(8,16,[4,10,11],[2,4,10]),(11,6,[0,6,7,8,9,10],[6,7,8,9]),(11,23,[6,7,8,9,18],[6,7,8]),(11,26,[6,7,8,9,18,19],[6,7,8,9,18]),(11,33,[6,7,8,21],[6,7]),(12,4,[0,3,4],[3]),(19,9,[1,2,3,6,9,28,29,30],[3,6,9]),(20,10,[1,2,3,6,9,10,11],[3,6,10]),(21,5,[2,3,5],[2,3,4]),(21,10,[2,3,6],[4]),(22,5,[0,1,5],[4]),(23,5,[2,3,5],[2,3,4]),(23,10,[2,3,6],[4]),(25,4,[1,2,5,6],[1,2,5]),(25,8,[1,2,5,7],[5]),(25,11,[1,2,5,7,8],[1,2,5,7]),(25,18,[1,2,5,7,8,9,10],[1,2,5,7,8]),(25,24,[1,2,5,7,8,9,11],[1,2,5,7,8]),(29,8,[1,2,3,4,8,34,35,36],[1,2,3,4,8,9]),(29,22,[3,4,8,14,15,16,17,90,91,92],[3,4,8,14,16,17]),(29,28,[3,4,8,17,109,110,111],[4,8,17]),(30,8,[1,2,3,4,8,10,12],[1,2,3,4,8,9,10]),(31,5,[0,1,5],[4]),(33,5,[0,3,4,5],[3,4]),(35,7,[3,10,11],[3,10]),(35,17,[10,12,13],[6,7]),(36,6,[1,24,25],[2,3,4]),(36,9,[1,8,24,25,29,30,31],[1,2,3,4,24,25]),(37,6,[1,8],[2,3,4]),(37,9,[1,8,9],[1,2,3,4,8]),(38,5,[1,2,3,4],[1,2,3]),(38,9,[1,2,3,5],[1,2,3]),(38,14,[1,2,3,6,7],[1,2,3,6]),(38,19,[1,2,3,8],[1,2]),(39,6,[2,3,5,6],[2,3,4,5]),(39,11,[2,3,5,6,7],[2,3,4,5,6]),(39,19,[2,3,5,9],[4]),(40,4,[1,2,4,5],[1,2,4]),(40,8,[1,2,4,6],[2,4]),(41,13,[3,4,9,11,13,14,15,16],[8]),(42,3,[0,1,5],[4]),(43,4,[1,2,3,4,5,11,12],[1,2,5,11]),(44,3,[0,1,5],[4]),(47,5,[0,4,5,6,7],[0,4,5]),(47,9,[0,4,5,8],[0,4,5]),(47,16,[0,4,5,10],[4,5]),(48,4,[1,2,3,4],[1,2,3]),(48,8,[1,2,3,5],[2,3]),(49,5,[0,5,6,8,10,11,12],[0,8,10]),(57,8,[1,17,18,19],[2]),(68,5,[0,1,5],[4]),(70,11,[7,8,9],[7]),(72,14,[9,10,11,12],[10,11]),(74,5,[3,8,9],[8,9]),(77,4,[0,1,2,7,8],[0,1,2,7,8]),(77,8,[0,1,2,7,8,9],[0,2,7,8]),(77,13,[0,2,7,8],[7]),(79,12,[12,16,17,51],[6,7]),(80,4,[2,3,4,9,10],[6,7,8,9]),(80,6,[2,3,4,9,10,11],[2,3,4,9,10,11]),(80,11,[2,3,4,9,11,12,13,14],[2,3,4,6,7,8,9,11,12]),(80,17,[2,3,4,9,11,12,13,14,15,16],[2,3,4,6,7,8,9,11,12,13,14,15]),(81,6,[0,2,3,5,13],[8,9]),(83,4,[0,1,5,6],[5]),(84,6,[3,4,5,9],[3,4,5,6]),(85,3,[1,2,5],[4]),(89,10,[1,30,31,32],[1,2]),(89,17,[1,4,30,31,32,51,52,53],[1,2,30,31,32]),(89,26,[1,69,70,71],[1,2]),(92,4,[1,2,3,11,12,13],[1,2,3]),(92,10,[2,3,36,37,38],[2,3]),(93,4,[1,2,3,6,9],[3,6,7,8]),(93,6,[1,2,3,6,9,10],[1,2,3,6,9,10]),(94,3,[1,9,10,11],[1,2]),(94,9,[1,21,22,23],[2]),(95,7,[1,3],[2]),(95,15,[1,3,4,5],[1,2,3]),(96,5,[1,3],[1,2]),(96,13,[1,5],[1,2]),(96,20,[1,6],[2]),(97,5,[1,3],[2]),(97,15,[1,3,4,5],[1,2,3,4]),(98,3,[2,3,5],[2,3,4]),(98,8,[2,3,6],[4]),(104,3,[1,2,4,5],[2,4,5]),(110,4,[1,2,3,6,7,8],[1,6,7]),(111,4,[0,3,4],[3]),(111,7,[0,3,4,5],[0,3,4,5]),(111,11,[0,3,4,5,6],[0,3,4,5]),(118,5,[2,4,7,8,19,20,21],[4,5,6,7]),(118,11,[2,4,7,8,9,10,11,19,20,21,35,36,37],[2,4,5,6,7,8,10,11,19,20,21]),(118,17,[2,4,7,8,10,19,20,21,47,48,49],[2,4,7,8,10,19,20,21]),(122,3,[0,1,5],[4]),(122,6,[0,1,5,6],[0,1,4,5]),(123,3,[0,1,2,9,10,11],[6]),(126,3,[0,1,7,8],[4]),(128,3,[0,1,2,6,7,8],[0,1,2,6,7]),(128,8,[0,1,2,6],[]),(128,10,[0,1,2,6,7,8],[0,1,2,6,7]),(131,3,[0,1,7,8],[4]),(132,4,[1,2,4,5],[]),(132,8,[1,2,4,5,18,19],[1,2,4,5]),(132,13,[1,2,4,5,30],[1,2,4,5]),(132,20,[1,2,4,5,8,30,47,48],[1,2,4,5,30]),(132,26,[1,2,4,5,8,30,62,63],[1,2,4,5,30]),(151,2,[0,1,2,3,8],[]),(151,5,[0,1,2,3,8,9],[0,1,2,3,8]),(152,4,[0,1,4,10,11],[0,1,10]),(152,10,[0,10,13],[]),(152,16,[0,2,4,14,15],[0,2,14]),(152,22,[0,14,17],[]),(152,34,[0,1,2,3,4,18,19,20,21,22],[0,1,2,3,4,18,19,20]),(158,3,[0,2,4,10,11],[0,2,4,10]),(159,2,[0,1,2,3,10],[])]
def upT:List (Nat×Nat×Up):=[(4,78, .scopes 1),(4,112, .scopes 0),(11,62, .box 7),(11,102, .box 7),(11,140, .box 7),(13,6, .scopes 0),(13,10, .scopes 0),(13,22, .scopes 0),(19,56, .scopes 1),(20,66, .scopes 1),(25,26, .scopes 1),(25,43, .scopes 2),(25,58, .scopes 3),(25,76, .scopes 3),(29,105, .scopes 1),(29,124, .scopes 1),(33,24, .box 3),(35,89, .box 10),(38,87, .scopes 1),(43,33, .scopes 1),(46,10, .scopes 0),(46,16, .scopes 0),(47,46, .box 5),(47,83, .box 5),(47,96, .box 5),(48,22, .box 3),(48,27, .box 3),(48,53, .box 3),(49,35, .scopes 1),(49,52, .scopes 1),(50,6, .scopes 0),(50,10, .scopes 0),(50,14, .scopes 0),(56,5, .scopes 0),(61,27, .scopes 0),(62,8, .box 1),(67,8, .scopes 0),(67,12, .scopes 0),(67,18, .scopes 0),(67,22, .scopes 0),(67,27, .scopes 0),(72,23, .scopes 0),(72,30, .scopes 0),(72,48, .scopes 0),(72,58, .scopes 0),(72,83, .scopes 0),(75,7, .scopes 0),(77,31, .scopes 1),(77,52, .scopes 1),(77,72, .scopes 1),(80,80, .scopes 1),(80,92, .scopes 1),(81,78, .scopes 0),(81,87, .scopes 0),(83,20, .scopes 1),(88,61, .box 5),(92,23, .box 3),(92,31, .box 3),(92,51, .box 3),(99,7, .scopes 0),(100,7, .scopes 0),(101,7, .scopes 0),(102,7, .scopes 0),(103,7, .scopes 0),(109,26, .scopes 0),(111,36, .scopes 1),(116,64, .scopes 0),(134,27, .scopes 0),(134,35, .scopes 0),(134,43, .scopes 0),(134,53, .scopes 0),(134,60, .scopes 0)]
def Yy (f r:Nat):Option (List Nat×List Nat):=(abU.find? fun x=>x.1==f && x.2.1==r).map fun x=>x.2.2
def abV (f d:Nat):Up:=((upT.find? fun x=>x.1==f && x.2.1==d).map fun x=>x.2.2).getD (.scopes 0)
def Yz:List (Nat×Nat×List (Nat×Nat)):=[(3,7,[(13,7),(13,11)]),(4,12,[(10,0),(10,1),(10,2)]),(4,16,[(9,4)]),(5,6,[(9,0),(9,1),(9,2),(12,9),(13,9),(14,0),(14,1),(14,2),(18,0),(18,1),(18,2)]),(6,11,[(22,18)]),(11,20,[(4,0)]),(11,34,[(20,4)]),(13,1,[(6,3)]),(13,2,[(4,2),(8,2),(8,5)]),(27,4,[(4,0)]),(28,4,[(5,0)]),(30,17,[(5,0),(6,5),(9,0),(11,0)]),(35,4,[(14,0),(14,2),(14,6),(15,14),(19,0),(19,2),(19,6),(20,14),(20,19),(23,0),(23,2),(23,6)]),(38,10,[(24,4)]),(46,2,[(7,5)]),(47,6,[(3,1),(6,3),(7,3),(9,3)]),(47,10,[(6,1),(11,1),(11,9),(13,1),(13,9)]),(48,5,[(11,9)]),(50,1,[(6,3),(10,3),(10,7)]),(51,6,[(14,7),(14,9)]),(51,8,[(17,7)]),(51,10,[(7,1),(7,3),(9,7),(11,7),(13,7),(17,9),(17,11),(17,13)]),(53,1,[(3,2),(4,2)]),(58,1,[(3,1)]),(58,3,[(4,2),(4,3)]),(62,1,[(2,0)]),(63,1,[(6,3),(10,3),(10,7)]),(65,1,[(4,2),(7,2),(7,5),(10,2),(10,5),(10,8)]),(67,1,[(6,3)]),(67,2,[(6,3)]),(70,5,[(6,2)]),(72,7,[(4,0),(5,4)]),(79,1,[(5,3),(9,3),(12,5),(12,9)]),(79,3,[(2,1),(3,1)]),(81,2,[(13,3)]),(81,10,[(4,1),(8,4),(11,4),(13,1)]),(104,4,[(3,1)]),(105,1,[(4,2),(5,2)]),(116,10,[(8,5),(8,6),(9,8),(11,5),(11,6),(12,8),(12,11)]),(118,20,[(4,2),(5,2)]),(140,1,[(5,2),(8,5),(10,5),(12,5)]),(142,1,[(8,2),(8,4),(9,8),(10,8),(11,2),(11,4)]),(143,1,[(10,7)]),(144,1,[(5,2)]),(145,1,[(14,11),(21,18),(29,26),(37,34)]),(146,1,[(5,2)]),(146,2,[(5,2)]),(147,1,[(8,5)]),(148,1,[(5,2)]),(149,1,[(8,5)]),(150,1,[(5,2)])]
def au (f r:Nat):List (Nat×Nat):=((Yz.find? fun x=>x.1==f && x.2.1==r).map fun x=>x.2.2).getD []
def vh:Nat→Option (List SK)
 |29=>some [.int .i64, .int .i64, .int .i64, .int .i64, .int .i64, .int .i64, .int .i64, .int .i64, .int .i64]
 |74=>some [.int .i64, .int .i64]
 |84=>some [.int .i64, .int .i64]
 |86=>some [.int .i64, .int .i64, .int .i64, .int .i64, .bool]
 |105=>some [.int .i64, .int .i64]
 |170=>some [.int .i64, .int .i64]
 |_=>none
@[simp] theorem YA:vh 29=some [.int .i64, .int .i64, .int .i64, .int .i64, .int .i64, .int .i64, .int .i64, .int .i64, .int .i64]:= .trans rfl rfl
@[simp] theorem YB:vh 74=some [.int .i64, .int .i64]:= .trans rfl rfl
@[simp] theorem YC:vh 84=some [.int .i64, .int .i64]:= .trans rfl rfl
def Hq:List Nat:=[13,12,47,48,50,63,45,46,99,100,101,102,103,75]
def abW:List Nat:=[17,15,34,25,88,134,79,93,58,118,16,18,61,80,20,67,27,29,28,30,71,72,77,111,70,104,110,78,19,65,33,38,40,35,81,13,116]
def abX:List Nat:=[48,9,14,57,60,23,39,21,22,31,49,53,89,64,73,66,95,96,97,68,44,36,84,85,87,112,113,76,94,115,69,120,121,122,130,82,74,105,153,154,135,137,139,141,143,145,147,149,131,155,156,157,98]
def Kg:List Nat:=[99,100,101,102,103,75]
def Ro:List (Nat×Nat):=[(134,9),(88,10),(45,3),(45,6),(45,7),(45,8),(45,14),(61,25)]
def abY:List (Nat×Nat):=[(11,6)]
def Cn (f d:Nat):Option Nat:=if f=11∧d=54 then some 8 else none
def rowOf (_ _:Nat):Option Nat:=none
noncomputable def Kh (cl:List Nat):Ctx:={P:=Tryz.prog,Hs:=fun f=>Hq.contains f,ig:=Yy,up:=abV,own:=fun f d=>Ro.contains (f,d),EP:=fun f=>abW.contains f,Aa:=fun f=>abX.contains f,ij:=fun f r=>abY.contains (f,r),wT:=fun f=>cl.contains f,lift:=Cn,row:=rowOf,eqs:=vh}
noncomputable def KC:Ctx:=Kh Kg
section
@[simp] theorem ER:KC.P=Tryz.prog:= .trans rfl rfl
@[simp] theorem abZ {f d:Nat}:KC.own f d=Ro.contains (f,d):= .trans rfl rfl
@[simp] theorem aaV {f d:Nat}:KC.lift f d=Cn f d:= .trans rfl rfl
@[simp] theorem ab0 {f d:Nat}:KC.row f d=rowOf f d:= .trans rfl rfl
attribute [simp] Cn Ro rowOf
@[simp] theorem Ox:KC.ig 7 12=some ([4,5,6,7,8,9,10],[2]):=by kernel_rfl
@[simp] theorem Oy:KC.ij 7 12=false:=by kernel_rfl
@[simp] theorem Oz:KC.ig 7 16=some ([4,5,6,7,8,9,10,11,12],[2,4,5,6,7,8,9,10]):=by kernel_rfl
@[simp] theorem OA:KC.ij 7 16=false:=by kernel_rfl
@[simp] theorem OB:KC.ig 7 22=some ([4,5,6,7,8,9,10,11,13,14],[4,5,6,7,8,9,10,11,13]):=by kernel_rfl
@[simp] theorem OC:KC.ij 7 22=false:=by kernel_rfl
@[simp] theorem OD:KC.ig 11 6=some ([0,6,7,8,9,10],[6,7,8,9]):=by kernel_rfl
@[simp] theorem OE:KC.ij 11 6=true:=by kernel_rfl
@[simp] theorem Ki:KC.ig 11 23=some ([6,7,8,9,18],[6,7,8]):=by kernel_rfl
@[simp] theorem Kj:KC.ij 11 23=false:=by kernel_rfl
@[simp] theorem Kk:KC.ig 11 26=some ([6,7,8,9,18,19],[6,7,8,9,18]):=by kernel_rfl
@[simp] theorem Kl:KC.ij 11 26=false:=by kernel_rfl
@[simp] theorem Km:KC.ig 11 33=some ([6,7,8,21],[6,7]):=by kernel_rfl
@[simp] theorem Ko:KC.ij 11 33=false:=by kernel_rfl
@[simp] theorem OG:KC.ig 12 4=some ([0,3,4],[3]):=by kernel_rfl
@[simp] theorem OH:KC.ij 12 4=false:=by kernel_rfl
@[simp] theorem OI:KC.ig 25 4=some ([1,2,5,6],[1,2,5]):=by kernel_rfl
@[simp] theorem OJ:KC.ij 25 4=false:=by kernel_rfl
@[simp] theorem OK:KC.ig 25 8=some ([1,2,5,7],[5]):=by kernel_rfl
@[simp] theorem OL:KC.ij 25 8=false:=by kernel_rfl
@[simp] theorem Kp:KC.ig 25 11=some ([1,2,5,7,8],[1,2,5,7]):=by kernel_rfl
@[simp] theorem Kq:KC.ij 25 11=false:=by kernel_rfl
@[simp] theorem Kr:KC.ig 25 18=some ([1,2,5,7,8,9,10],[1,2,5,7,8]):=by kernel_rfl
@[simp] theorem Ks:KC.ij 25 18=false:=by kernel_rfl
@[simp] theorem Kt:KC.ig 25 24=some ([1,2,5,7,8,9,11],[1,2,5,7,8]):=by kernel_rfl
@[simp] theorem Ku:KC.ij 25 24=false:=by kernel_rfl
@[simp] theorem OM:KC.ig 29 8=some ([1,2,3,4,8,34,35,36],[1,2,3,4,8,9]):=by kernel_rfl
@[simp] theorem ON:KC.ij 29 8=false:=by kernel_rfl
@[simp] theorem Kv:KC.ig 29 22=some ([3,4,8,14,15,16,17,90,91,92],[3,4,8,14,16,17]):=by kernel_rfl
@[simp] theorem Kw:KC.ij 29 22=false:=by kernel_rfl
@[simp] theorem Kx:KC.ig 29 28=some ([3,4,8,17,109,110,111],[4,8,17]):=by kernel_rfl
@[simp] theorem Ky:KC.ij 29 28=false:=by kernel_rfl
@[simp] theorem OO:KC.ig 39 6=some ([2,3,5,6],[2,3,4,5]):=by kernel_rfl
@[simp] theorem OP:KC.ij 39 6=false:=by kernel_rfl
@[simp] theorem Kz:KC.ig 39 11=some ([2,3,5,6,7],[2,3,4,5,6]):=by kernel_rfl
@[simp] theorem KA:KC.ij 39 11=false:=by kernel_rfl
@[simp] theorem KB:KC.ig 39 19=some ([2,3,5,9],[4]):=by kernel_rfl
@[simp] theorem KD:KC.ij 39 19=false:=by kernel_rfl
@[simp] theorem KE:KC.ig 41 13=some ([3,4,9,11,13,14,15,16],[8]):=by kernel_rfl
@[simp] theorem KF:KC.ij 41 13=false:=by kernel_rfl
@[simp] theorem OQ:KC.ig 42 3=some ([0,1,5],[4]):=by kernel_rfl
@[simp] theorem OS:KC.ij 42 3=false:=by kernel_rfl
@[simp] theorem OT:KC.ig 43 4=some ([1,2,3,4,5,11,12],[1,2,5,11]):=by kernel_rfl
@[simp] theorem OU:KC.ij 43 4=false:=by kernel_rfl
@[simp] theorem OV:KC.ig 44 3=some ([0,1,5],[4]):=by kernel_rfl
@[simp] theorem OX:KC.ij 44 3=false:=by kernel_rfl
@[simp] theorem OY:KC.ig 47 5=some ([0,4,5,6,7],[0,4,5]):=by kernel_rfl
@[simp] theorem OZ:KC.ij 47 5=false:=by kernel_rfl
@[simp] theorem O0:KC.ig 47 9=some ([0,4,5,8],[0,4,5]):=by kernel_rfl
@[simp] theorem O1:KC.ij 47 9=false:=by kernel_rfl
@[simp] theorem KG:KC.ig 47 16=some ([0,4,5,10],[4,5]):=by kernel_rfl
@[simp] theorem KH:KC.ij 47 16=false:=by kernel_rfl
@[simp] theorem O2:KC.ig 48 4=some ([1,2,3,4],[1,2,3]):=by kernel_rfl
@[simp] theorem O3:KC.ij 48 4=false:=by kernel_rfl
@[simp] theorem O4:KC.ig 48 8=some ([1,2,3,5],[2,3]):=by kernel_rfl
@[simp] theorem O5:KC.ij 48 8=false:=by kernel_rfl
@[simp] theorem O6:KC.ig 49 5=some ([0,5,6,8,10,11,12],[0,8,10]):=by kernel_rfl
@[simp] theorem O7:KC.ij 49 5=false:=by kernel_rfl
@[simp] theorem O8:KC.ig 57 8=some ([1,17,18,19],[2]):=by kernel_rfl
@[simp] theorem O9:KC.ij 57 8=false:=by kernel_rfl
@[simp] theorem KI:KC.ig 70 11=some ([7,8,9],[7]):=by kernel_rfl
@[simp] theorem KJ:KC.ij 70 11=false:=by kernel_rfl
@[simp] theorem Pa:KC.ig 74 5=some ([3,8,9],[8,9]):=by kernel_rfl
@[simp] theorem Pb:KC.ij 74 5=false:=by kernel_rfl
@[simp] theorem KL:KC.ig 79 12=some ([12,16,17,51],[6,7]):=by kernel_rfl
@[simp] theorem KM:KC.ij 79 12=false:=by kernel_rfl
@[simp] theorem Pc:KC.ig 83 4=some ([0,1,5,6],[5]):=by kernel_rfl
@[simp] theorem Pd:KC.ij 83 4=false:=by kernel_rfl
@[simp] theorem Pe:KC.ig 84 6=some ([3,4,5,9],[3,4,5,6]):=by kernel_rfl
@[simp] theorem Pf:KC.ij 84 6=false:=by kernel_rfl
@[simp] theorem Pg:KC.ig 85 3=some ([1,2,5],[4]):=by kernel_rfl
@[simp] theorem Ph:KC.ij 85 3=false:=by kernel_rfl
@[simp] theorem KN:KC.ig 89 10=some ([1,30,31,32],[1,2]):=by kernel_rfl
@[simp] theorem KO:KC.ij 89 10=false:=by kernel_rfl
@[simp] theorem KP:KC.ig 89 17=some ([1,4,30,31,32,51,52,53],[1,2,30,31,32]):=by kernel_rfl
@[simp] theorem KQ:KC.ij 89 17=false:=by kernel_rfl
@[simp] theorem KR:KC.ig 89 26=some ([1,69,70,71],[1,2]):=by kernel_rfl
@[simp] theorem KS:KC.ij 89 26=false:=by kernel_rfl
@[simp] theorem Pj:KC.ig 92 4=some ([1,2,3,11,12,13],[1,2,3]):=by kernel_rfl
@[simp] theorem Pk:KC.ij 92 4=false:=by kernel_rfl
@[simp] theorem KT:KC.ig 92 10=some ([2,3,36,37,38],[2,3]):=by kernel_rfl
@[simp] theorem KU:KC.ij 92 10=false:=by kernel_rfl
@[simp] theorem Pl:KC.ig 93 4=some ([1,2,3,6,9],[3,6,7,8]):=by kernel_rfl
@[simp] theorem Pm:KC.ij 93 4=false:=by kernel_rfl
@[simp] theorem Pn:KC.ig 93 6=some ([1,2,3,6,9,10],[1,2,3,6,9,10]):=by kernel_rfl
@[simp] theorem Po:KC.ij 93 6=false:=by kernel_rfl
@[simp] theorem Pp:KC.ig 94 3=some ([1,9,10,11],[1,2]):=by kernel_rfl
@[simp] theorem Pq:KC.ij 94 3=false:=by kernel_rfl
@[simp] theorem Pr:KC.ig 94 9=some ([1,21,22,23],[2]):=by kernel_rfl
@[simp] theorem Ps:KC.ij 94 9=false:=by kernel_rfl
@[simp] theorem KV:KC.ig 104 3=some ([1,2,4,5],[2,4,5]):=by kernel_rfl
@[simp] theorem KW:KC.ij 104 3=false:=by kernel_rfl
@[simp] theorem KX:KC.ig 118 5=some ([2,4,7,8,19,20,21],[4,5,6,7]):=by kernel_rfl
@[simp] theorem KY:KC.ij 118 5=false:=by kernel_rfl
@[simp] theorem Jr:KC.ig 118 11=some ([2,4,7,8,9,10,11,19,20,21,35,36,37],[2,4,5,6,7,8,10,11,19,20,21]):=by kernel_rfl
@[simp] theorem Js:KC.ij 118 11=false:=by kernel_rfl
@[simp] theorem Jt:KC.ig 118 17=some ([2,4,7,8,10,19,20,21,47,48,49],[2,4,7,8,10,19,20,21]):=by kernel_rfl
@[simp] theorem Ju:KC.ij 118 17=false:=by kernel_rfl
@[simp] theorem KZ:KC.ig 122 3=some ([0,1,5],[4]):=by kernel_rfl
@[simp] theorem K0:KC.ij 122 3=false:=by kernel_rfl
@[simp] theorem K3:KC.ig 122 6=some ([0,1,5,6],[0,1,4,5]):=by kernel_rfl
@[simp] theorem K4:KC.ij 122 6=false:=by kernel_rfl
@[simp] theorem K5:KC.ig 123 3=some ([0,1,2,9,10,11],[6]):=by kernel_rfl
@[simp] theorem K6:KC.ij 123 3=false:=by kernel_rfl
@[simp] theorem K7:KC.ig 126 3=some ([0,1,7,8],[4]):=by kernel_rfl
@[simp] theorem K8:KC.ij 126 3=false:=by kernel_rfl
@[simp] theorem K9:KC.ig 128 3=some ([0,1,2,6,7,8],[0,1,2,6,7]):=by kernel_rfl
@[simp] theorem La:KC.ij 128 3=false:=by kernel_rfl
@[simp] theorem Lb:KC.ig 128 8=some ([0,1,2,6],[]):=by kernel_rfl
@[simp] theorem Lc:KC.ij 128 8=false:=by kernel_rfl
@[simp] theorem Ld:KC.ig 131 3=some ([0,1,7,8],[4]):=by kernel_rfl
@[simp] theorem Le:KC.ij 131 3=false:=by kernel_rfl
@[simp] theorem Lf:KC.ig 132 4=some ([1,2,4,5],[]):=by kernel_rfl
@[simp] theorem Lg:KC.ij 132 4=false:=by kernel_rfl
@[simp] theorem Lh:KC.ig 132 8=some ([1,2,4,5,18,19],[1,2,4,5]):=by kernel_rfl
@[simp] theorem Li:KC.ij 132 8=false:=by kernel_rfl
@[simp] theorem Jv:KC.ig 132 13=some ([1,2,4,5,30],[1,2,4,5]):=by kernel_rfl
@[simp] theorem Jw:KC.ij 132 13=false:=by kernel_rfl
@[simp] theorem Jx:KC.ig 132 20=some ([1,2,4,5,8,30,47,48],[1,2,4,5,30]):=by kernel_rfl
@[simp] theorem Jy:KC.ij 132 20=false:=by kernel_rfl
@[simp] theorem Jz:KC.ig 132 26=some ([1,2,4,5,8,30,62,63],[1,2,4,5,30]):=by kernel_rfl
@[simp] theorem JA:KC.ij 132 26=false:=by kernel_rfl
@[simp] theorem Lj:KC.ig 151 2=some ([0,1,2,3,8],[]):=by kernel_rfl
@[simp] theorem Lk:KC.ij 151 2=false:=by kernel_rfl
@[simp] theorem Ll:KC.ig 151 5=some ([0,1,2,3,8,9],[0,1,2,3,8]):=by kernel_rfl
@[simp] theorem Lm:KC.ij 151 5=false:=by kernel_rfl
@[simp] theorem Pt:KC.up 11 62= .box 7:=by kernel_rfl
@[simp] theorem Ln:KC.up 11 102= .box 7:=by kernel_rfl
@[simp] theorem Lo:KC.up 11 140= .box 7:=by kernel_rfl
@[simp] theorem Pu:KC.up 25 26= .scopes 1:=by kernel_rfl
@[simp] theorem Pv:KC.up 25 43= .scopes 2:=by kernel_rfl
@[simp] theorem Pw:KC.up 25 58= .scopes 3:=by kernel_rfl
@[simp] theorem Px:KC.up 25 76= .scopes 3:=by kernel_rfl
@[simp] theorem Lp:KC.up 29 105= .scopes 1:=by kernel_rfl
@[simp] theorem Lq:KC.up 29 124= .scopes 1:=by kernel_rfl
@[simp] theorem Py:KC.up 43 33= .scopes 1:=by kernel_rfl
@[simp] theorem Pz:KC.up 47 46= .box 5:=by kernel_rfl
@[simp] theorem PA:KC.up 47 83= .box 5:=by kernel_rfl
@[simp] theorem PB:KC.up 47 96= .box 5:=by kernel_rfl
@[simp] theorem PC:KC.up 48 22= .box 3:=by kernel_rfl
@[simp] theorem PD:KC.up 48 27= .box 3:=by kernel_rfl
@[simp] theorem PE:KC.up 48 53= .box 3:=by kernel_rfl
@[simp] theorem PF:KC.up 49 35= .scopes 1:=by kernel_rfl
@[simp] theorem PH:KC.up 49 52= .scopes 1:=by kernel_rfl
@[simp] theorem Rp:KC.up 50 6= .scopes 0:=by kernel_rfl
@[simp] theorem PI:KC.up 50 10= .scopes 0:=by kernel_rfl
@[simp] theorem PJ:KC.up 50 14= .scopes 0:=by kernel_rfl
@[simp] theorem Rq:KC.up 62 8= .box 1:=by kernel_rfl
@[simp] theorem Rr:KC.up 75 7= .scopes 0:=by kernel_rfl
@[simp] theorem PK:KC.up 83 20= .scopes 1:=by kernel_rfl
@[simp] theorem PL:KC.up 88 61= .box 5:=by kernel_rfl
@[simp] theorem PM:KC.up 92 23= .box 3:=by kernel_rfl
@[simp] theorem PN:KC.up 92 31= .box 3:=by kernel_rfl
@[simp] theorem PO:KC.up 92 51= .box 3:=by kernel_rfl
@[simp] theorem Rs:KC.up 99 7= .scopes 0:=by kernel_rfl
@[simp] theorem PQ:KC.up 100 7= .scopes 0:=by kernel_rfl
@[simp] theorem PR:KC.up 101 7= .scopes 0:=by kernel_rfl
@[simp] theorem PS:KC.up 102 7= .scopes 0:=by kernel_rfl
@[simp] theorem PT:KC.up 103 7= .scopes 0:=by kernel_rfl
@[simp] theorem Lr:KC.up 109 26= .scopes 0:=by kernel_rfl
@[simp] theorem Ls:KC.up 116 64= .scopes 0:=by kernel_rfl
@[simp] theorem Lt:KC.up 134 27= .scopes 0:=by kernel_rfl
@[simp] theorem Lu:KC.up 134 35= .scopes 0:=by kernel_rfl
@[simp] theorem Lv:KC.up 134 43= .scopes 0:=by kernel_rfl
@[simp] theorem Lw:KC.up 134 53= .scopes 0:=by kernel_rfl
@[simp] theorem Lx:KC.up 134 60= .scopes 0:=by kernel_rfl
@[simp] theorem YD:au 7 9=[]:=by kernel_rfl
@[simp] theorem Vg:au 7 23=[]:=by kernel_rfl
@[simp] theorem Rt:au 11 20=[(4,0)]:=by kernel_rfl
@[simp] theorem Ru:au 11 34=[(20,4)]:=by kernel_rfl
@[simp] theorem Vh:au 12 5=[]:=by kernel_rfl
@[simp] theorem Vi:au 29 9=[]:=by kernel_rfl
@[simp] theorem Vj:au 39 7=[]:=by kernel_rfl
@[simp] theorem Rv:au 41 10=[]:=by kernel_rfl
@[simp] theorem Rx:au 41 14=[]:=by kernel_rfl
@[simp] theorem Ry:au 41 17=[]:=by kernel_rfl
@[simp] theorem Vk:au 47 6=[(3,1),(6,3),(7,3),(9,3)]:=by kernel_rfl
@[simp] theorem Rz:au 47 10=[(6,1),(11,1),(11,9),(13,1),(13,9)]:=by kernel_rfl
@[simp] theorem Vl:au 48 5=[(11,9)]:=by kernel_rfl
@[simp] theorem Vm:au 48 9=[]:=by kernel_rfl
@[simp] theorem Vn:au 49 6=[]:=by kernel_rfl
@[simp] theorem Vo:au 49 9=[]:=by kernel_rfl
@[simp] theorem Vp:au 50 1=[(6,3),(10,3),(10,7)]:=by kernel_rfl
@[simp] theorem Vq:au 51 1=[]:=by kernel_rfl
@[simp] theorem Vr:au 51 6=[(14,7),(14,9)]:=by kernel_rfl
@[simp] theorem Vs:au 51 8=[(17,7)]:=by kernel_rfl
@[simp] theorem RA:au 51 10=[(7,1),(7,3),(9,7),(11,7),(13,7),(17,9),(17,11),(17,13)]:=by kernel_rfl
@[simp] theorem Vt:au 53 1=[(3,2),(4,2)]:=by kernel_rfl
@[simp] theorem RC:au 57 11=[]:=by kernel_rfl
@[simp] theorem Vu:au 58 1=[(3,1)]:=by kernel_rfl
@[simp] theorem Vv:au 58 3=[(4,2),(4,3)]:=by kernel_rfl
@[simp] theorem Vw:au 62 1=[(2,0)]:=by kernel_rfl
@[simp] theorem Vx:au 63 1=[(6,3),(10,3),(10,7)]:=by kernel_rfl
@[simp] theorem Vy:au 65 1=[(4,2),(7,2),(7,5),(10,2),(10,5),(10,8)]:=by kernel_rfl
@[simp] theorem Vz:au 70 5=[(6,2)]:=by kernel_rfl
@[simp] theorem VA:au 73 1=[]:=by kernel_rfl
@[simp] theorem VB:au 79 1=[(5,3),(9,3),(12,5),(12,9)]:=by kernel_rfl
@[simp] theorem VC:au 79 3=[(2,1),(3,1)]:=by kernel_rfl
@[simp] theorem VD:au 83 7=[]:=by kernel_rfl
@[simp] theorem VE:au 84 1=[]:=by kernel_rfl
@[simp] theorem VF:au 84 7=[]:=by kernel_rfl
@[simp] theorem VG:au 84 9=[]:=by kernel_rfl
@[simp] theorem RD:au 84 11=[]:=by kernel_rfl
@[simp] theorem RE:au 84 15=[]:=by kernel_rfl
@[simp] theorem VH:au 86 3=[]:=by kernel_rfl
@[simp] theorem VI:au 86 4=[]:=by kernel_rfl
@[simp] theorem VJ:au 88 2=[]:=by kernel_rfl
@[simp] theorem VK:au 88 6=[]:=by kernel_rfl
@[simp] theorem VL:au 93 5=[]:=by kernel_rfl
@[simp] theorem VM:au 93 7=[]:=by kernel_rfl
@[simp] theorem RF:au 94 10=[]:=by kernel_rfl
@[simp] theorem RG:au 104 2=[]:=by kernel_rfl
@[simp] theorem RH:au 104 4=[(3,1)]:=by kernel_rfl
@[simp] theorem RI:au 105 1=[(4,2),(5,2)]:=by kernel_rfl
@[simp] theorem RJ:au 109 5=[]:=by kernel_rfl
@[simp] theorem RK:au 114 1=[]:=by kernel_rfl
@[simp] theorem RL:au 116 2=[]:=by kernel_rfl
@[simp] theorem PU:au 116 10=[(8,5),(8,6),(9,8),(11,5),(11,6),(12,8),(12,11)]:=by kernel_rfl
@[simp] theorem PW:au 118 20=[(4,2),(5,2)]:=by kernel_rfl
@[simp] theorem RM:au 120 1=[]:=by kernel_rfl
@[simp] theorem RN:au 122 7=[]:=by kernel_rfl
@[simp] theorem RO:au 134 4=[]:=by kernel_rfl
@[simp] theorem RP:au 135 1=[]:=by kernel_rfl
@[simp] theorem RQ:au 137 1=[]:=by kernel_rfl
@[simp] theorem RR:au 138 1=[]:=by kernel_rfl
@[simp] theorem RT:au 140 1=[(5,2),(8,5),(10,5),(12,5)]:=by kernel_rfl
@[simp] theorem RU:au 140 2=[]:=by kernel_rfl
@[simp] theorem RV:au 141 1=[]:=by kernel_rfl
@[simp] theorem RX:au 142 1=[(8,2),(8,4),(9,8),(10,8),(11,2),(11,4)]:=by kernel_rfl
@[simp] theorem RY:au 142 2=[]:=by kernel_rfl
@[simp] theorem RZ:au 143 1=[(10,7)]:=by kernel_rfl
@[simp] theorem R3:au 144 1=[(5,2)]:=by kernel_rfl
@[simp] theorem R4:au 145 1=[(14,11),(21,18),(29,26),(37,34)]:=by kernel_rfl
@[simp] theorem R5:au 146 1=[(5,2)]:=by kernel_rfl
@[simp] theorem R6:au 146 2=[(5,2)]:=by kernel_rfl
@[simp] theorem R7:au 147 1=[(8,5)]:=by kernel_rfl
@[simp] theorem R8:au 148 1=[(5,2)]:=by kernel_rfl
@[simp] theorem R9:au 149 1=[(8,5)]:=by kernel_rfl
@[simp] theorem Sa:au 150 1=[(5,2)]:=by kernel_rfl
@[simp] theorem Sb:au 151 4=[]:=by kernel_rfl
@[simp] theorem Sc:au 151 6=[]:=by kernel_rfl
@[simp] theorem Sd:au 153 1=[]:=by kernel_rfl
@[simp] theorem Se:au 154 1=[]:=by kernel_rfl
@[simp] theorem Sf:au 155 1=[]:=by kernel_rfl
@[simp] theorem ab1 {t:Nat}:KC.eqs t=vh t:= .trans rfl rfl
@[simp] theorem Sg (x0 x1:Int):jn KC 170 (.agg [.int .i64 x0, .int .i64 x1])=true:=by kernel_rfl
end
@[simp] theorem aaW:eI Tryz.prog 3=some false:=by kernel_rfl
@[simp] theorem YE:bp Tryz.prog 3=some 1:=by kernel_rfl
@[simp] theorem YF:cw Tryz.prog 3=some (.pure (.int .i64 0)):=by kernel_rfl
@[simp] theorem aaX:eI Tryz.prog 4=some false:=by kernel_rfl
@[simp] theorem YG:bp Tryz.prog 4=some 1:=by kernel_rfl
@[simp] theorem YH:cw Tryz.prog 4=some (.pure (.bool false)):=by kernel_rfl
@[simp] theorem YI:eI Tryz.prog 22=some false:=by kernel_rfl
@[simp] theorem VN:bp Tryz.prog 22=some 1:=by kernel_rfl
@[simp] theorem VO:gH Tryz.prog 22=some (some 2):=by kernel_rfl
@[simp] theorem YJ:fJ Tryz.prog 22=none:=by kernel_rfl
@[simp] theorem YK:ve Tryz.prog 22=some ((some 2),(some 16),(some 2)):=by kernel_rfl
@[simp] theorem YL:wY Tryz.prog 22=some ((some 2),(some [(.pure (.int .i64 0)),(.pure (.int .i64 0))])):=by kernel_rfl
@[simp] theorem PX:dS Tryz.prog (some 22)=true:=by kernel_rfl
@[simp] theorem YM:eI Tryz.prog 23=some false:=by kernel_rfl
@[simp] theorem VP:bp Tryz.prog 23=some 1:=by kernel_rfl
@[simp] theorem VQ:gH Tryz.prog 23=some (some 5):=by kernel_rfl
@[simp] theorem YN:fJ Tryz.prog 23=none:=by kernel_rfl
@[simp] theorem YO:ve Tryz.prog 23=some ((some 5),(some 40),(some 5)):=by kernel_rfl
@[simp] theorem YP:wY Tryz.prog 23=some ((some 5),(some [(.pure (.int .i64 0)),(.pure (.int .i64 0)),(.pure (.int .i64 0)),(.pure (.int .i64 0)),(.pure (.bool false))])):=by kernel_rfl
@[simp] theorem PY:dS Tryz.prog (some 23)=true:=by kernel_rfl
@[simp] theorem YQ:eI Tryz.prog 24=some false:=by kernel_rfl
@[simp] theorem VR:bp Tryz.prog 24=some 1:=by kernel_rfl
@[simp] theorem VS:gH Tryz.prog 24=some (some 1):=by kernel_rfl
@[simp] theorem YR:fJ Tryz.prog 24=none:=by kernel_rfl
@[simp] theorem YS:ve Tryz.prog 24=some ((some 1),(some 8),(some 1)):=by kernel_rfl
@[simp] theorem YT:wY Tryz.prog 24=some ((some 1),(some [(.pure (.int .i64 0))])):=by kernel_rfl
@[simp] theorem aaY:tmk Tryz.prog 24=some ((some 1),(some 8),(some [(.int .i64 0)])):=by kernel_rfl
@[simp] theorem PZ:dS Tryz.prog (some 24)=true:=by kernel_rfl
@[simp] theorem YU:eI Tryz.prog 25=some false:=by kernel_rfl
@[simp] theorem VT:bp Tryz.prog 25=some 1:=by kernel_rfl
@[simp] theorem VU:cw Tryz.prog 25=some .aV:=by kernel_rfl
@[simp] theorem VW:gH Tryz.prog 25=some (some 9):=by kernel_rfl
@[simp] theorem YV:fJ Tryz.prog 25=none:=by kernel_rfl
@[simp] theorem YW:ve Tryz.prog 25=some ((some 9),(some 72),(some 9)):=by kernel_rfl
@[simp] theorem YX:wY Tryz.prog 25=some ((some 9),(some [(.pure (.int .i64 0)),(.pure (.int .i64 0)),(.pure (.int .i64 0)),(.pure (.int .i64 0)),(.pure (.int .i64 0)),(.pure (.int .i64 0)),(.pure (.int .i64 0)),(.pure (.int .i64 0)),(.pure (.int .i64 0))])):=by kernel_rfl
@[simp] theorem P0:dS Tryz.prog (some 25)=true:=by kernel_rfl
@[simp] theorem YY:eI Tryz.prog 27=some true:=by kernel_rfl
@[simp] theorem VX:bp Tryz.prog 27=some 7:=by kernel_rfl
@[simp] theorem VY:cw Tryz.prog 27=some (.agg [(.pure (.int .i64 0)),(.pure (.int .i64 0)), .aV, .aV, .aV, .aV, .aV]):=by kernel_rfl
@[simp] theorem YZ:fJ Tryz.prog 27=none:=by kernel_rfl
@[simp] theorem P1:fG Tryz.prog 27=some [(0,1),(1,1),(2,1),(3,1),(4,1),(5,1),(6,1)]:=by kernel_rfl
@[simp] theorem Y0:eI Tryz.prog 29=some true:=by kernel_rfl
@[simp] theorem VZ:bp Tryz.prog 29=some 9:=by kernel_rfl
@[simp] theorem V0:cw Tryz.prog 29=some (.pure (.agg [(.int .i64 0),(.int .i64 0),(.int .i64 0),(.int .i64 0),(.int .i64 0),(.int .i64 0),(.int .i64 0),(.int .i64 0),(.int .i64 0)])):=by kernel_rfl
@[simp] theorem Y1:fJ Tryz.prog 29=none:=by kernel_rfl
@[simp] theorem P2:fG Tryz.prog 29=some [(0,1),(1,1),(2,1),(3,1),(4,1),(5,1),(6,1),(7,1),(8,1)]:=by kernel_rfl
@[simp] theorem Y2:eI Tryz.prog 38=some false:=by kernel_rfl
@[simp] theorem V5:bp Tryz.prog 38=some 1:=by kernel_rfl
@[simp] theorem V6:gH Tryz.prog 38=some (some 2):=by kernel_rfl
@[simp] theorem Y3:fJ Tryz.prog 38=none:=by kernel_rfl
@[simp] theorem Y4:ve Tryz.prog 38=some ((some 2),(some 16),(some 2)):=by kernel_rfl
@[simp] theorem Y5:wY Tryz.prog 38=some ((some 2),(some [(.pure (.int .i64 0)),(.pure (.int .i64 0))])):=by kernel_rfl
@[simp] theorem P3:dS Tryz.prog (some 38)=true:=by kernel_rfl
@[simp] theorem Y6:eI Tryz.prog 39=some false:=by kernel_rfl
@[simp] theorem V7:bp Tryz.prog 39=some 1:=by kernel_rfl
@[simp] theorem V8:gH Tryz.prog 39=some (some 2):=by kernel_rfl
@[simp] theorem Y7:fJ Tryz.prog 39=none:=by kernel_rfl
@[simp] theorem Y8:ve Tryz.prog 39=some ((some 2),(some 16),(some 2)):=by kernel_rfl
@[simp] theorem Y9:wY Tryz.prog 39=some ((some 2),(some [(.pure (.int .i64 0)),(.pure (.int .i64 0))])):=by kernel_rfl
@[simp] theorem P4:dS Tryz.prog (some 39)=true:=by kernel_rfl
@[simp] theorem Za:eI Tryz.prog 41=some true:=by kernel_rfl
@[simp] theorem V9:bp Tryz.prog 41=some 3:=by kernel_rfl
@[simp] theorem Wa:cw Tryz.prog 41=some (.agg [.aV, .aV, .aV]):=by kernel_rfl
@[simp] theorem Zb:fJ Tryz.prog 41=none:=by kernel_rfl
@[simp] theorem P6:fG Tryz.prog 41=some [(0,1),(1,1),(2,1)]:=by kernel_rfl
@[simp] theorem Zc:eI Tryz.prog 45=some false:=by kernel_rfl
@[simp] theorem Wb:bp Tryz.prog 45=some 1:=by kernel_rfl
@[simp] theorem Wc:cw Tryz.prog 45=some .aV:=by kernel_rfl
@[simp] theorem Wd:gH Tryz.prog 45=some (some 3):=by kernel_rfl
@[simp] theorem Zd:fJ Tryz.prog 45=none:=by kernel_rfl
@[simp] theorem Ze:ve Tryz.prog 45=some ((some 3),(some 72),(some 3)):=by kernel_rfl
@[simp] theorem Zf:wY Tryz.prog 45=some ((some 3),(some [.aV, .aV, .aV])):=by kernel_rfl
@[simp] theorem P7:dS Tryz.prog (some 45)=true:=by kernel_rfl
@[simp] theorem Zg:eI Tryz.prog 74=some true:=by kernel_rfl
@[simp] theorem We:bp Tryz.prog 74=some 2:=by kernel_rfl
@[simp] theorem Wf:cw Tryz.prog 74=some (.pure (.agg [(.int .i64 0),(.int .i64 0)])):=by kernel_rfl
@[simp] theorem Zh:fJ Tryz.prog 74=none:=by kernel_rfl
@[simp] theorem P8:fG Tryz.prog 74=some [(0,1),(1,1)]:=by kernel_rfl
@[simp] theorem Zi:eI Tryz.prog 84=some true:=by kernel_rfl
@[simp] theorem Wg:bp Tryz.prog 84=some 2:=by kernel_rfl
@[simp] theorem Wh:cw Tryz.prog 84=some (.pure (.agg [(.int .i64 0),(.int .i64 0)])):=by kernel_rfl
@[simp] theorem Zj:fJ Tryz.prog 84=some (2,(some 1),(some false)):=by kernel_rfl
@[simp] theorem Zk:eI Tryz.prog 86=some true:=by kernel_rfl
@[simp] theorem Wi:bp Tryz.prog 86=some 5:=by kernel_rfl
@[simp] theorem Wj:cw Tryz.prog 86=some (.pure (.agg [(.int .i64 0),(.int .i64 0),(.int .i64 0),(.int .i64 0),(.bool false)])):=by kernel_rfl
@[simp] theorem Zl:fJ Tryz.prog 86=none:=by kernel_rfl
@[simp] theorem P9:fG Tryz.prog 86=some [(0,1),(1,1),(2,1),(3,1),(4,1)]:=by kernel_rfl
@[simp] theorem Zm:eI Tryz.prog 87=some false:=by kernel_rfl
@[simp] theorem Wk:bp Tryz.prog 87=some 1:=by kernel_rfl
@[simp] theorem Wl:cw Tryz.prog 89=some (.pure (.agg [(.int .u64 0)])):=by kernel_rfl
@[simp] theorem Zn:fJ Tryz.prog 89=none:=by kernel_rfl
@[simp] theorem Qa:fG Tryz.prog 89=some [(0,1)]:=by kernel_rfl
@[simp] theorem Zo:eI Tryz.prog 94=some true:=by kernel_rfl
@[simp] theorem Wm:bp Tryz.prog 94=some 10:=by kernel_rfl
@[simp] theorem Wn:cw Tryz.prog 94=some (.agg [(.pure (.int .i64 0)),(.pure (.int .i64 0)), .aV, .aV, .aV, .aV, .aV, .aV, .aV, .aV]):=by kernel_rfl
@[simp] theorem Zp:fJ Tryz.prog 94=none:=by kernel_rfl
@[simp] theorem Qb:fG Tryz.prog 94=some [(0,7),(7,3)]:=by kernel_rfl
@[simp] theorem Wo:eI Tryz.prog 105=some true:=by kernel_rfl
@[simp] theorem Sh:bp Tryz.prog 105=some 2:=by kernel_rfl
@[simp] theorem Si:cw Tryz.prog 105=some (.pure (.agg [(.int .i64 0),(.int .i64 0)])):=by kernel_rfl
@[simp] theorem Wp:fJ Tryz.prog 105=none:=by kernel_rfl
@[simp] theorem Ly:fG Tryz.prog 105=some [(0,1),(1,1)]:=by kernel_rfl
@[simp] theorem Wq:eI Tryz.prog 130=some true:=by kernel_rfl
@[simp] theorem Sj:bp Tryz.prog 130=some 3:=by kernel_rfl
@[simp] theorem Sk:cw Tryz.prog 130=some (.agg [.aV, .aV, .aV]):=by kernel_rfl
@[simp] theorem Wr:fJ Tryz.prog 130=none:=by kernel_rfl
@[simp] theorem Lz:fG Tryz.prog 130=some [(0,1),(1,1),(2,1)]:=by kernel_rfl
@[simp] theorem Ws:eI Tryz.prog 133=some false:=by kernel_rfl
@[simp] theorem Sl:bp Tryz.prog 133=some 1:=by kernel_rfl
@[simp] theorem Wt:eI Tryz.prog 146=some false:=by kernel_rfl
@[simp] theorem Sm:bp Tryz.prog 146=some 1:=by kernel_rfl
@[simp] theorem Sn:cw Tryz.prog 146=some (.pure .gf):=by kernel_rfl
@[simp] theorem Wu:eI Tryz.prog 147=some false:=by kernel_rfl
@[simp] theorem So:bp Tryz.prog 147=some 1:=by kernel_rfl
@[simp] theorem Sp:cw Tryz.prog 147=some (.pure .gf):=by kernel_rfl
@[simp] theorem Wv:eI Tryz.prog 161=some true:=by kernel_rfl
@[simp] theorem Sq:bp Tryz.prog 161=some 2:=by kernel_rfl
@[simp] theorem Sr:cw Tryz.prog 161=some (.pure (.agg [.gf, .gf])):=by kernel_rfl
@[simp] theorem Ww:fJ Tryz.prog 161=none:=by kernel_rfl
@[simp] theorem LA:fG Tryz.prog 161=some [(0,1),(1,1)]:=by kernel_rfl
@[simp] theorem Zq:tmz Tryz.prog 166=some (170,(some (.pure (.bool false)))):=by kernel_rfl
@[simp] theorem Wx:wZ Tryz.prog 166=some (170,4):=by kernel_rfl
@[simp] theorem Ss:gH Tryz.prog 167=some (some 2):=by kernel_rfl
@[simp] theorem Wy:fJ Tryz.prog 167=none:=by kernel_rfl
@[simp] theorem Wz:ve Tryz.prog 167=some ((some 2),(some 16),(some 2)):=by kernel_rfl
@[simp] theorem WA:wY Tryz.prog 167=some ((some 2),(some [(.pure (.int .i64 0)),(.pure (.int .i64 0))])):=by kernel_rfl
@[simp] theorem LB:dS Tryz.prog (some 167)=true:=by kernel_rfl
@[simp] theorem WC:eI Tryz.prog 170=some true:=by kernel_rfl
@[simp] theorem St:bp Tryz.prog 170=some 2:=by kernel_rfl
@[simp] theorem Su:cw Tryz.prog 170=some (.pure (.agg [(.int .i64 0),(.int .i64 0)])):=by kernel_rfl
@[simp] theorem WD:fJ Tryz.prog 170=none:=by kernel_rfl
@[simp] theorem LC:fG Tryz.prog 170=some [(0,1),(1,1)]:=by kernel_rfl
@[simp] theorem Sv:bp Tryz.prog 172=some 18:=by kernel_rfl
@[simp] theorem Sw:cw Tryz.prog 172=some (.pure (.agg [.gf, .gf, .gf, .gf, .gf, .gf, .gf, .gf, .gf, .gf, .gf, .gf, .gf, .gf, .gf, .gf, .gf, .gf])):=by kernel_rfl
@[simp] theorem WE:fJ Tryz.prog 172=some (9,(some 2),(some true)):=by kernel_rfl
@[simp] theorem Zr:Hi Tryz.prog 25=some ((some 9),(some [(.int .i64 0),(.int .i64 0),(.int .i64 0),(.int .i64 0),(.int .i64 0),(.int .i64 0),(.int .i64 0),(.int .i64 0),(.int .i64 0)])):=by kernel_rfl
@[simp] theorem WG:oa Tryz.prog 27 0=some (0,(some 1)):=by kernel_rfl
@[simp] theorem WH:oa Tryz.prog 27 1=some (1,(some 1)):=by kernel_rfl
@[simp] theorem WI:oa Tryz.prog 27 2=some (2,(some 1)):=by kernel_rfl
@[simp] theorem WJ:oa Tryz.prog 27 3=some (3,(some 1)):=by kernel_rfl
@[simp] theorem WK:oa Tryz.prog 27 4=some (4,(some 1)):=by kernel_rfl
@[simp] theorem WL:oa Tryz.prog 27 5=some (5,(some 1)):=by kernel_rfl
@[simp] theorem WM:oa Tryz.prog 27 6=some (6,(some 1)):=by kernel_rfl
@[simp] theorem WN:oa Tryz.prog 29 0=some (0,(some 1)):=by kernel_rfl
@[simp] theorem WO:oa Tryz.prog 29 1=some (1,(some 1)):=by kernel_rfl
@[simp] theorem WQ:oa Tryz.prog 29 2=some (2,(some 1)):=by kernel_rfl
@[simp] theorem WR:oa Tryz.prog 29 3=some (3,(some 1)):=by kernel_rfl
@[simp] theorem WS:oa Tryz.prog 29 4=some (4,(some 1)):=by kernel_rfl
@[simp] theorem WT:oa Tryz.prog 29 5=some (5,(some 1)):=by kernel_rfl
@[simp] theorem WU:oa Tryz.prog 29 6=some (6,(some 1)):=by kernel_rfl
@[simp] theorem WV:oa Tryz.prog 29 7=some (7,(some 1)):=by kernel_rfl
@[simp] theorem WW:oa Tryz.prog 29 8=some (8,(some 1)):=by kernel_rfl
@[simp] theorem WX:oa Tryz.prog 41 0=some (0,(some 1)):=by kernel_rfl
@[simp] theorem WY:oa Tryz.prog 41 1=some (1,(some 1)):=by kernel_rfl
@[simp] theorem WZ:oa Tryz.prog 41 2=some (2,(some 1)):=by kernel_rfl
@[simp] theorem W9:oa Tryz.prog 74 0=some (0,(some 1)):=by kernel_rfl
@[simp] theorem Xa:oa Tryz.prog 74 1=some (1,(some 1)):=by kernel_rfl
@[simp] theorem Xc:oa Tryz.prog 86 0=some (0,(some 1)):=by kernel_rfl
@[simp] theorem Xd:oa Tryz.prog 86 1=some (1,(some 1)):=by kernel_rfl
@[simp] theorem Xe:oa Tryz.prog 86 2=some (2,(some 1)):=by kernel_rfl
@[simp] theorem Xf:oa Tryz.prog 86 3=some (3,(some 1)):=by kernel_rfl
@[simp] theorem Xh:oa Tryz.prog 86 4=some (4,(some 1)):=by kernel_rfl
@[simp] theorem Xi:oa Tryz.prog 89 0=some (0,(some 1)):=by kernel_rfl
@[simp] theorem Xj:oa Tryz.prog 94 0=some (0,(some 7)):=by kernel_rfl
@[simp] theorem Xk:oa Tryz.prog 94 1=some (7,(some 3)):=by kernel_rfl
@[simp] theorem Xl:Zs Tryz.prog 94 1=some (7,(some true),(some 3)):=by kernel_rfl
@[simp] theorem Sx:oa Tryz.prog 105 0=some (0,(some 1)):=by kernel_rfl
@[simp] theorem Sy:oa Tryz.prog 105 1=some (1,(some 1)):=by kernel_rfl
@[simp] theorem Sz:oa Tryz.prog 130 0=some (0,(some 1)):=by kernel_rfl
@[simp] theorem SB:oa Tryz.prog 130 1=some (1,(some 1)):=by kernel_rfl
@[simp] theorem SC:oa Tryz.prog 130 2=some (2,(some 1)):=by kernel_rfl
@[simp] theorem SD:Zs Tryz.prog 161 0=some (0,(some false),(some 1)):=by kernel_rfl
@[simp] theorem SG:Zs Tryz.prog 161 1=some (1,(some false),(some 1)):=by kernel_rfl
attribute [simp] Tryz.results2 Tryz.ntmps2
attribute [simp] Tryz.results3 Tryz.ntmps3
attribute [simp] Tryz.results4 Tryz.ntmps4
attribute [simp] Tryz.results5 Tryz.ntmps5
attribute [simp] Tryz.results6 Tryz.ntmps6
attribute [simp] Tryz.results7 Tryz.ntmps7
attribute [simp] Tryz.results8 Tryz.ntmps8
attribute [simp] Tryz.results9 Tryz.ntmps9
attribute [simp] Tryz.results10 Tryz.ntmps10
attribute [simp] Tryz.results11 Tryz.ntmps11
attribute [simp] Tryz.results12 Tryz.ntmps12
attribute [simp] Tryz.results13 Tryz.ntmps13
attribute [simp] Tryz.results14 Tryz.ntmps14
attribute [simp] Tryz.results15 Tryz.ntmps15
attribute [simp] Tryz.results16 Tryz.ntmps16
attribute [simp] Tryz.results17 Tryz.ntmps17
attribute [simp] Tryz.results18 Tryz.ntmps18
attribute [simp] Tryz.results19 Tryz.ntmps19
attribute [simp] Tryz.results20 Tryz.ntmps20
attribute [simp] Tryz.results21 Tryz.ntmps21
attribute [simp] Tryz.results22 Tryz.ntmps22
attribute [simp] Tryz.results23 Tryz.ntmps23
attribute [simp] Tryz.results24 Tryz.ntmps24
attribute [simp] Tryz.results25 Tryz.ntmps25
attribute [simp] Tryz.results26 Tryz.ntmps26
attribute [simp] Tryz.results27 Tryz.ntmps27
attribute [simp] Tryz.results28 Tryz.ntmps28
attribute [simp] Tryz.results29 Tryz.ntmps29
attribute [simp] Tryz.results30 Tryz.ntmps30
attribute [simp] Tryz.results31 Tryz.ntmps31
attribute [simp] Tryz.results32 Tryz.ntmps32
attribute [simp] Tryz.results33 Tryz.ntmps33
attribute [simp] Tryz.results34 Tryz.ntmps34
attribute [simp] Tryz.results35 Tryz.ntmps35
attribute [simp] Tryz.results36 Tryz.ntmps36
attribute [simp] Tryz.results37 Tryz.ntmps37
attribute [simp] Tryz.results38 Tryz.ntmps38
attribute [simp] Tryz.results39 Tryz.ntmps39
attribute [simp] Tryz.results40 Tryz.ntmps40
attribute [simp] Tryz.results41 Tryz.ntmps41
attribute [simp] Tryz.results42 Tryz.ntmps42
attribute [simp] Tryz.results43 Tryz.ntmps43
attribute [simp] Tryz.results44 Tryz.ntmps44
attribute [simp] Tryz.results45 Tryz.ntmps45
attribute [simp] Tryz.results46 Tryz.ntmps46
attribute [simp] Tryz.results47 Tryz.ntmps47
attribute [simp] Tryz.results48 Tryz.ntmps48
attribute [simp] Tryz.results49 Tryz.ntmps49
attribute [simp] Tryz.results50 Tryz.ntmps50
attribute [simp] Tryz.results51 Tryz.ntmps51
attribute [simp] Tryz.results52 Tryz.ntmps52
attribute [simp] Tryz.results53 Tryz.ntmps53
attribute [simp] Tryz.results54 Tryz.ntmps54
attribute [simp] Tryz.results55 Tryz.ntmps55
attribute [simp] Tryz.results56 Tryz.ntmps56
attribute [simp] Tryz.results57 Tryz.ntmps57
attribute [simp] Tryz.results58 Tryz.ntmps58
attribute [simp] Tryz.results59 Tryz.ntmps59
attribute [simp] Tryz.results60 Tryz.ntmps60
attribute [simp] Tryz.results61 Tryz.ntmps61
attribute [simp] Tryz.results62 Tryz.ntmps62
attribute [simp] Tryz.results63 Tryz.ntmps63
attribute [simp] Tryz.results64 Tryz.ntmps64
attribute [simp] Tryz.results65 Tryz.ntmps65
attribute [simp] Tryz.results66 Tryz.ntmps66
attribute [simp] Tryz.results67 Tryz.ntmps67
attribute [simp] Tryz.results68 Tryz.ntmps68
attribute [simp] Tryz.results69 Tryz.ntmps69
attribute [simp] Tryz.results70 Tryz.ntmps70
attribute [simp] Tryz.results71 Tryz.ntmps71
attribute [simp] Tryz.results72 Tryz.ntmps72
attribute [simp] Tryz.results73 Tryz.ntmps73
attribute [simp] Tryz.results74 Tryz.ntmps74
attribute [simp] Tryz.results75 Tryz.ntmps75
attribute [simp] Tryz.results76 Tryz.ntmps76
attribute [simp] Tryz.results77 Tryz.ntmps77
attribute [simp] Tryz.results78 Tryz.ntmps78
attribute [simp] Tryz.results79 Tryz.ntmps79
attribute [simp] Tryz.results80 Tryz.ntmps80
attribute [simp] Tryz.results81 Tryz.ntmps81
attribute [simp] Tryz.results82 Tryz.ntmps82
attribute [simp] Tryz.results83 Tryz.ntmps83
attribute [simp] Tryz.results84 Tryz.ntmps84
attribute [simp] Tryz.results85 Tryz.ntmps85
attribute [simp] Tryz.results86 Tryz.ntmps86
attribute [simp] Tryz.results87 Tryz.ntmps87
attribute [simp] Tryz.results88 Tryz.ntmps88
attribute [simp] Tryz.results89 Tryz.ntmps89
attribute [simp] Tryz.results90 Tryz.ntmps90
attribute [simp] Tryz.results91 Tryz.ntmps91
attribute [simp] Tryz.results92 Tryz.ntmps92
attribute [simp] Tryz.results93 Tryz.ntmps93
attribute [simp] Tryz.results94 Tryz.ntmps94
attribute [simp] Tryz.results95 Tryz.ntmps95
attribute [simp] Tryz.results96 Tryz.ntmps96
attribute [simp] Tryz.results97 Tryz.ntmps97
attribute [simp] Tryz.results98 Tryz.ntmps98
attribute [simp] Tryz.results99 Tryz.ntmps99
attribute [simp] Tryz.results100 Tryz.ntmps100
attribute [simp] Tryz.results101 Tryz.ntmps101
attribute [simp] Tryz.results102 Tryz.ntmps102
attribute [simp] Tryz.results103 Tryz.ntmps103
attribute [simp] Tryz.results104 Tryz.ntmps104
attribute [simp] Tryz.results105 Tryz.ntmps105
attribute [simp] Tryz.results106 Tryz.ntmps106
attribute [simp] Tryz.results107 Tryz.ntmps107
attribute [simp] Tryz.results108 Tryz.ntmps108
attribute [simp] Tryz.results109 Tryz.ntmps109
attribute [simp] Tryz.results110 Tryz.ntmps110
attribute [simp] Tryz.results111 Tryz.ntmps111
attribute [simp] Tryz.results112 Tryz.ntmps112
attribute [simp] Tryz.results113 Tryz.ntmps113
attribute [simp] Tryz.results114 Tryz.ntmps114
attribute [simp] Tryz.results115 Tryz.ntmps115
attribute [simp] Tryz.results116 Tryz.ntmps116
attribute [simp] Tryz.results117 Tryz.ntmps117
attribute [simp] Tryz.results118 Tryz.ntmps118
attribute [simp] Tryz.results119 Tryz.ntmps119
attribute [simp] Tryz.results120 Tryz.ntmps120
attribute [simp] Tryz.results121 Tryz.ntmps121
attribute [simp] Tryz.results122 Tryz.ntmps122
attribute [simp] Tryz.results123 Tryz.ntmps123
attribute [simp] Tryz.results124 Tryz.ntmps124
attribute [simp] Tryz.results125 Tryz.ntmps125
attribute [simp] Tryz.results126 Tryz.ntmps126
attribute [simp] Tryz.results127 Tryz.ntmps127
attribute [simp] Tryz.results128 Tryz.ntmps128
attribute [simp] Tryz.results129 Tryz.ntmps129
attribute [simp] Tryz.results130 Tryz.ntmps130
attribute [simp] Tryz.results131 Tryz.ntmps131
attribute [simp] Tryz.results132 Tryz.ntmps132
attribute [simp] Tryz.results133 Tryz.ntmps133
attribute [simp] Tryz.results134 Tryz.ntmps134
attribute [simp] Tryz.results135 Tryz.ntmps135
attribute [simp] Tryz.results136 Tryz.ntmps136
attribute [simp] Tryz.results137 Tryz.ntmps137
attribute [simp] Tryz.results138 Tryz.ntmps138
attribute [simp] Tryz.results139 Tryz.ntmps139
attribute [simp] Tryz.results140 Tryz.ntmps140
attribute [simp] Tryz.results141 Tryz.ntmps141
attribute [simp] Tryz.results142 Tryz.ntmps142
attribute [simp] Tryz.results143 Tryz.ntmps143
attribute [simp] Tryz.results144 Tryz.ntmps144
attribute [simp] Tryz.results145 Tryz.ntmps145
attribute [simp] Tryz.results146 Tryz.ntmps146
attribute [simp] Tryz.results147 Tryz.ntmps147
attribute [simp] Tryz.results148 Tryz.ntmps148
attribute [simp] Tryz.results149 Tryz.ntmps149
attribute [simp] Tryz.results150 Tryz.ntmps150
attribute [simp] Tryz.results151 Tryz.ntmps151
attribute [simp] Tryz.results152 Tryz.ntmps152
attribute [simp] Tryz.results153 Tryz.ntmps153
attribute [simp] Tryz.results154 Tryz.ntmps154
attribute [simp] Tryz.results155 Tryz.ntmps155
attribute [simp] Tryz.results156 Tryz.ntmps156
attribute [simp] Tryz.results157 Tryz.ntmps157
attribute [simp] Tryz.results158 Tryz.ntmps158
attribute [simp] Tryz.results159 Tryz.ntmps159
section
def jV:Code→List Code
 | .seq a b=>jV a++jV b
 | .cond _ a b=>jV a++jV b
 | .block _ a=>jV a
 | .scope a=>jV a
 | .loop a=>a::jV a
 | .rangeFunc _ _ a b=>jV a++jV b
 |_=> []
def lp (g:Func)(k:Nat):Code:=((jV (g.body.getD .skip))[k]?).getD .skip
noncomputable def nL {α:Type}(a:α):α:=Classical.choose (⟨a,rfl⟩: ∃x,x=a)
theorem cN {α:Type}(a:α):nL a=a:=Classical.choose_spec (⟨a,rfl⟩: ∃x,x=a)
section
variable {K:Ctx} {fn:FuncId} {H:aj}
def saV (v:GV)(x:Option (GV×aj)):Bool:=match x with|some (v',_)=>GV.beq v' v|none=>false
@[simp] theorem Zt {v v':GV}:saV v (some (v',H))=GV.beq v' v:=rfl
@[simp] theorem SH {o:Oper}{s:aZ}{v:GV}:sameAt K fn o s v H=saV v (dZ K fn o s H):=by
 unfold sameAt saV;rfl
@[simp] theorem GJ (n:Nat):((n:Int)<0)=False:=by simp
theorem dh {x:Int}(h1: -9223372036854775808≤x)(h2:x≤9223372036854775807):IntKind.i64.wrap x=x:=IntWalk.i64_in x ⟨h1,h2⟩
def bz (w:Int):dH:= .box [.pure (.int .u64 w)]
def fS (H:aj)(nm:Nm):Prop:= ∃w,H.get nm=some (bz w)∧H.set nm (bz w)=H
def bD (H:aj)(nm:Nm):Int:=match H.get nm with|some (.box [.pure (.int _ w)])=>w|_=>0
theorem xB {nm:Nm}(h:fS H nm):H.get nm=some (bz (bD H nm)):=by
 obtain⟨w,h1,h2⟩:=h;simp only [bD,h1,bz]
theorem kH {nm:Nm}(h:fS H nm):H.set nm (bz (bD H nm))=H:=by
 obtain⟨w,h1,h2⟩:=h;simp only [bD,h1,bz];exact h2
theorem gT {nm:Nm}(h:fS H nm):nm.1<H.length:=by
 obtain⟨w,h1,h2⟩:=h;exact aj.bL h1
theorem Fr.jj {q : Nat} {x y : dH} : ∀ f : Fr, (f.ins q x).ins q y = f.ins q y
  | [] => by simp [Fr.ins]
  | (k, b) :: r => by
    simp only [Fr.ins]
    split
    · simp [Fr.ins]
    · rename_i h
      split
      · simp [Fr.ins]
      · rename_i h2
        simp only [Fr.ins, h, h2, if_false, Fr.jj r]
@[simp] theorem aj.set_set {nm:Nm}{x y:dH}: ∀{H:aj},(H.set nm x).set nm y=H.set nm y
 | []=>rfl
 |f::H=>by
  simp only [aj.set];split
  ·rename_i h;simp only [aj.set,h,if_true,Fr.jj]
  ·rename_i h;simp only [aj.set,aj.length_set,h,if_false,aj.set_set]
attribute [simp] aj.length_set
@[simp] theorem aj.gV {nm:Nm}{b:dH}(h:nm.1<H.length):(H.set nm b).get nm=some b:=aj.dU b h
@[simp] theorem kY {nm:Nm}{w:Int}(h:nm.1<H.length):bD (H.set nm (bz w)) nm=w:=by
 simp only [bD,aj.gV h,bz]
@[simp] theorem kZ {nm:Nm}{w:Int}(h:nm.1<H.length):fS (H.set nm (bz w)) nm:=⟨w,aj.gV h,aj.set_set⟩
theorem dN {nm:Nm}{fr:Fr}(h:fS H nm):fS (fr::H) nm:=by
 have hl:=gT h;obtain⟨w,h1,h2⟩:=h;have: ¬nm.1=H.length:=(by omega);exact⟨w,by simp [this,h1],by simp [this,h2]⟩
theorem dq {nm:Nm}{fr:Fr}(h:nm.1<H.length):bD (fr::H) nm=bD H nm:=by
 have: ¬nm.1=H.length:=(by omega);simp [bD,this]
theorem aj.dQ {nm:Nm}{fr:Fr}{b:dH}(h:nm.1<H.length):aj.set (fr::H) nm b=fr::H.set nm b:=by
 have: ¬nm.1=H.length:=(by omega);simp [this]
end
end
theorem Zu:bE KC au 7 (Tryz.f7.body.getD .skip)=true:=by kernel_rfl
theorem Q4:bE KC au 11 (Tryz.f11.body.getD .skip)=true:=by kernel_rfl
theorem SI:bE KC au 12 (Tryz.f12.body.getD .skip)=true:=by kernel_rfl
theorem Ht:bE KC au 15 (Tryz.f15.body.getD .skip)=true:=by kernel_rfl
theorem Hu:bE KC au 17 (Tryz.f17.body.getD .skip)=true:=by kernel_rfl
theorem SJ:bE KC au 24 (Tryz.f24.body.getD .skip)=true:=by kernel_rfl
theorem SM:bE KC au 25 (Tryz.f25.body.getD .skip)=true:=by kernel_rfl
theorem SO:bE KC au 26 (Tryz.f26.body.getD .skip)=true:=by kernel_rfl
theorem SP:bE KC au 29 (Tryz.f29.body.getD .skip)=true:=by kernel_rfl
theorem SQ:bE KC au 34 (Tryz.f34.body.getD .skip)=true:=by kernel_rfl
theorem SR:bE KC au 39 (Tryz.f39.body.getD .skip)=true:=by kernel_rfl
theorem SU:bE KC au 41 (Tryz.f41.body.getD .skip)=true:=by kernel_rfl
theorem Hv:bE KC au 42 (Tryz.f42.body.getD .skip)=true:=by kernel_rfl
theorem SV:bE KC au 43 (Tryz.f43.body.getD .skip)=true:=by kernel_rfl
theorem SW:bE KC au 44 (Tryz.f44.body.getD .skip)=true:=by kernel_rfl
theorem SY:bE KC au 47 (Tryz.f47.body.getD .skip)=true:=by kernel_rfl
theorem SZ:bE KC au 48 (Tryz.f48.body.getD .skip)=true:=by kernel_rfl
theorem S5:bE KC au 49 (Tryz.f49.body.getD .skip)=true:=by kernel_rfl
theorem S6:bE KC au 50 (Tryz.f50.body.getD .skip)=true:=by kernel_rfl
theorem gI:bE KC au 51 (Tryz.f51.body.getD .skip)=true:=by kernel_rfl
theorem S7:bE KC au 52 (Tryz.f52.body.getD .skip)=true:=by kernel_rfl
theorem S8:bE KC au 53 (Tryz.f53.body.getD .skip)=true:=by kernel_rfl
theorem S9:bE KC au 54 (Tryz.f54.body.getD .skip)=true:=by kernel_rfl
theorem Ta:bE KC au 55 (Tryz.f55.body.getD .skip)=true:=by kernel_rfl
theorem Tc:bE KC au 57 (Tryz.f57.body.getD .skip)=true:=by kernel_rfl
theorem Rf:bE KC au 58 (Tryz.f58.body.getD .skip)=true:=by kernel_rfl
theorem Td:bE KC au 59 (Tryz.f59.body.getD .skip)=true:=by kernel_rfl
theorem Te:bE KC au 62 (Tryz.f62.body.getD .skip)=true:=by kernel_rfl
theorem G5:bE KC au 63 (Tryz.f63.body.getD .skip)=true:=by kernel_rfl
theorem Tf:bE KC au 64 (Tryz.f64.body.getD .skip)=true:=by kernel_rfl
theorem Th:bE KC au 65 (Tryz.f65.body.getD .skip)=true:=by kernel_rfl
theorem Ti:bE KC au 69 (Tryz.f69.body.getD .skip)=true:=by kernel_rfl
theorem Tj:bE KC au 70 (Tryz.f70.body.getD .skip)=true:=by kernel_rfl
theorem Tk:bE KC au 73 (Tryz.f73.body.getD .skip)=true:=by kernel_rfl
theorem Tl:bE KC au 74 (Tryz.f74.body.getD .skip)=true:=by kernel_rfl
theorem Q6:bE KC au 75 (Tryz.f75.body.getD .skip)=true:=by kernel_rfl
theorem Tm:bE KC au 79 (Tryz.f79.body.getD .skip)=true:=by kernel_rfl
theorem Tn:bE KC au 83 (Tryz.f83.body.getD .skip)=true:=by kernel_rfl
theorem Hw:bE KC au 84 (Tryz.f84.body.getD .skip)=true:=by kernel_rfl
theorem Tp:bE KC au 85 (Tryz.f85.body.getD .skip)=true:=by kernel_rfl
theorem Tq:bE KC au 86 (Tryz.f86.body.getD .skip)=true:=by kernel_rfl
theorem Tr:bE KC au 87 (Tryz.f87.body.getD .skip)=true:=by kernel_rfl
theorem Hz:bE KC au 88 (Tryz.f88.body.getD .skip)=true:=by kernel_rfl
theorem Ts:bE KC au 89 (Tryz.f89.body.getD .skip)=true:=by kernel_rfl
theorem Tt:bE KC au 90 (Tryz.f90.body.getD .skip)=true:=by kernel_rfl
theorem Tu:bE KC au 91 (Tryz.f91.body.getD .skip)=true:=by kernel_rfl
theorem Q9:bE KC au 92 (Tryz.f92.body.getD .skip)=true:=by kernel_rfl
theorem Re:bE KC au 93 (Tryz.f93.body.getD .skip)=true:=by kernel_rfl
theorem Q8:bE KC au 94 (Tryz.f94.body.getD .skip)=true:=by kernel_rfl
theorem Q5:bE KC au 99 (Tryz.f99.body.getD .skip)=true:=by kernel_rfl
theorem JZ:bE KC au 100 (Tryz.f100.body.getD .skip)=true:=by kernel_rfl
theorem J0:bE KC au 101 (Tryz.f101.body.getD .skip)=true:=by kernel_rfl
theorem J1:bE KC au 102 (Tryz.f102.body.getD .skip)=true:=by kernel_rfl
theorem J2:bE KC au 103 (Tryz.f103.body.getD .skip)=true:=by kernel_rfl
theorem LF:bE KC au 104 (Tryz.f104.body.getD .skip)=true:=by kernel_rfl
theorem LG:bE KC au 105 (Tryz.f105.body.getD .skip)=true:=by kernel_rfl
theorem LI:bE KC au 106 (Tryz.f106.body.getD .skip)=true:=by kernel_rfl
theorem LJ:bE KC au 107 (Tryz.f107.body.getD .skip)=true:=by kernel_rfl
theorem LK:bE KC au 108 (Tryz.f108.body.getD .skip)=true:=by kernel_rfl
theorem LM:bE KC au 109 (Tryz.f109.body.getD .skip)=true:=by kernel_rfl
theorem LN:bE KC au 112 (Tryz.f112.body.getD .skip)=true:=by kernel_rfl
theorem LO:bE KC au 114 (Tryz.f114.body.getD .skip)=true:=by kernel_rfl
theorem LQ:bE KC au 115 (Tryz.f115.body.getD .skip)=true:=by kernel_rfl
theorem D6:bE KC au 116 (Tryz.f116.body.getD .skip)=true:=by kernel_rfl
theorem LR:bE KC au 117 (Tryz.f117.body.getD .skip)=true:=by kernel_rfl
theorem D4:bE KC au 118 (Tryz.f118.body.getD .skip)=true:=by kernel_rfl
theorem LS:bE KC au 120 (Tryz.f120.body.getD .skip)=true:=by kernel_rfl
theorem LU:bE KC au 121 (Tryz.f121.body.getD .skip)=true:=by kernel_rfl
theorem LW:bE KC au 122 (Tryz.f122.body.getD .skip)=true:=by kernel_rfl
theorem LX:bE KC au 123 (Tryz.f123.body.getD .skip)=true:=by kernel_rfl
theorem LY:bE KC au 124 (Tryz.f124.body.getD .skip)=true:=by kernel_rfl
theorem LZ:bE KC au 125 (Tryz.f125.body.getD .skip)=true:=by kernel_rfl
theorem L0:bE KC au 126 (Tryz.f126.body.getD .skip)=true:=by kernel_rfl
theorem L4:bE KC au 127 (Tryz.f127.body.getD .skip)=true:=by kernel_rfl
theorem L5:bE KC au 128 (Tryz.f128.body.getD .skip)=true:=by kernel_rfl
theorem L6:bE KC au 129 (Tryz.f129.body.getD .skip)=true:=by kernel_rfl
theorem L7:bE KC au 130 (Tryz.f130.body.getD .skip)=true:=by kernel_rfl
theorem L8:bE KC au 131 (Tryz.f131.body.getD .skip)=true:=by kernel_rfl
theorem L9:bE KC au 132 (Tryz.f132.body.getD .skip)=true:=by kernel_rfl
theorem Ma:bE KC au 133 (Tryz.f133.body.getD .skip)=true:=by kernel_rfl
theorem Mb:bE KC au 134 (Tryz.f134.body.getD .skip)=true:=by kernel_rfl
theorem Mc:bE KC au 135 (Tryz.f135.body.getD .skip)=true:=by kernel_rfl
theorem D5:bE KC au 136 (Tryz.f136.body.getD .skip)=true:=by kernel_rfl
theorem Md:bE KC au 137 (Tryz.f137.body.getD .skip)=true:=by kernel_rfl
theorem Me:bE KC au 138 (Tryz.f138.body.getD .skip)=true:=by kernel_rfl
theorem Mf:bE KC au 139 (Tryz.f139.body.getD .skip)=true:=by kernel_rfl
theorem Mg:bE KC au 140 (Tryz.f140.body.getD .skip)=true:=by kernel_rfl
theorem Mh:bE KC au 141 (Tryz.f141.body.getD .skip)=true:=by kernel_rfl
theorem D7:bE KC au 142 (Tryz.f142.body.getD .skip)=true:=by kernel_rfl
theorem Mi:bE KC au 143 (Tryz.f143.body.getD .skip)=true:=by kernel_rfl
theorem Mj:bE KC au 144 (Tryz.f144.body.getD .skip)=true:=by kernel_rfl
theorem Mk:bE KC au 145 (Tryz.f145.body.getD .skip)=true:=by kernel_rfl
theorem Ml:bE KC au 146 (Tryz.f146.body.getD .skip)=true:=by kernel_rfl
theorem Mm:bE KC au 147 (Tryz.f147.body.getD .skip)=true:=by kernel_rfl
theorem Mn:bE KC au 148 (Tryz.f148.body.getD .skip)=true:=by kernel_rfl
theorem Mo:bE KC au 149 (Tryz.f149.body.getD .skip)=true:=by kernel_rfl
theorem Mp:bE KC au 150 (Tryz.f150.body.getD .skip)=true:=by kernel_rfl
theorem Mq:bE KC au 151 (Tryz.f151.body.getD .skip)=true:=by kernel_rfl
theorem Mr:bE KC au 153 (Tryz.f153.body.getD .skip)=true:=by kernel_rfl
theorem Ms:bE KC au 154 (Tryz.f154.body.getD .skip)=true:=by kernel_rfl
theorem Mt:bE KC au 155 (Tryz.f155.body.getD .skip)=true:=by kernel_rfl
theorem Mv:bE KC au 156 (Tryz.f156.body.getD .skip)=true:=by kernel_rfl
theorem Mw:bE KC au 157 (Tryz.f157.body.getD .skip)=true:=by kernel_rfl
section
@[simp] theorem aaZ (n:Nat):(n=n+1+1)=False:=by simp;omega
@[simp] theorem aa0 (n:Nat):(n=n+1+1+1)=False:=by simp;omega
@[simp] theorem aa1 (n:Nat):(n=n+1+1+1+1)=False:=by simp;omega
@[simp] theorem Zv (n:Nat):(n+1+1=n)=False:=by simp;omega
@[simp] theorem Zw (n:Nat):(n+1+1+1=n)=False:=by simp;omega
@[simp] theorem Zx (n:Nat):(n+1+1≤n)=False:=by simp;omega
@[simp] theorem aa2 (n:Nat):(n≤n+1+1)=True:=by simp;omega
@[simp] theorem aa3 (n:Nat):(n≤n+1+1+1)=True:=by simp;omega
def dG (nm:Nm)(es:Nat)(rows:List (List PV)):GV:=if rows=[]then .aV else .a8 nm es rows.length 0 rows.length
def fX (key es:Nat)(rows:List (List PV))(fr:Fr):Fr:=if rows=[]then fr else fr.ins key (.arr es rows 0 false)
theorem fZ {nm:Nm}{es:Nat}:dG nm es []= .aV:=rfl
theorem gb {key es:Nat}{fr:Fr}:fX key es [] fr=fr:=rfl
theorem Fr.vl {q p : Nat} (x y : dH) (h : q ≠ p) : ∀ f : Fr, (f.ins p y).ins q x = (f.ins q x).ins p y
  | [] => by
    simp only [Fr.ins, h, Ne.symm h, if_false]
    split
    · rename_i h1; rw [if_neg (by omega)]
    · rename_i h1; rw [if_pos (by omega)]
  | (k, b) :: r => by
    have hp : ¬ p = q := fun e => h e.symm
    by_cases h1 : p = k
    · subst h1
      by_cases h3 : q < p
      · simp [Fr.ins, h, h3, hp, show ¬ p < q by omega]
      · simp [Fr.ins, h, h3]
    · by_cases h2 : q = k
      · subst h2
        by_cases h3 : p < q
        · simp [Fr.ins, h, h3, hp, show ¬ q < p by omega]
        · simp [Fr.ins, h1, h3]
      · by_cases h3 : p < k
        · by_cases h4 : q < k
          · by_cases h5 : q < p
            · simp [Fr.ins, h, hp, h1, h2, h3, h4, h5, show ¬ p < q by omega]
            · simp [Fr.ins, h, hp, h1, h2, h3, h4, h5, show p < q by omega]
          · simp [Fr.ins, h, hp, h1, h2, h3, h4, show ¬ q < p by omega]
        · by_cases h4 : q < k
          · simp [Fr.ins, h, hp, h1, h2, h3, h4, show ¬ p < q by omega]
          · simp [Fr.ins, h1, h2, h3, h4, Fr.vl x y h r]
section
variable {key es:Nat} {rows:List (List PV)} {fr:Fr} {H:aj} {nm:Nm}
@[simp] theorem cr {k:Nat}(h:k≠key):(fX key es rows fr).get k=fr.get k:=by
 unfold fX;split
 ·rfl
 ·exact Fr.az _ h _
@[simp] theorem J3 {k:Nat}{b:dH}(h:k≠key):(fX key es rows fr).ins k b=fX key es rows (fr.ins k b):=by
 unfold fX;split
 ·rfl
 ·exact Fr.vl _ _ h _
theorem dB (h:rows≠[]):(fX key es rows fr).get key=some (.arr es rows 0 false):=by
 unfold fX;rw [if_neg h];exact Fr.bQ _ _ _
@[simp] theorem Tv:bC (dG nm es rows)=some [dG nm es rows]:=by
 unfold dG;split<;>rfl
@[simp] theorem JB {l0:Nat}(h:nm.1≤l0):eZ H l0 (dG nm es rows)=(dG nm es rows,H):=by
 unfold dG;split
 ·rfl
 ·simp [h]
@[simp] theorem Qc {r:List GV}:bm (dG nm es rows::r)=none:=by
 unfold dG;split<;>rfl
@[simp] theorem HA {l0:Nat}(h:nm.1≤l0):clean H l0 (dG nm es rows)=dG nm es rows:=by
 unfold dG;split
 ·rfl
 ·simp [h]
theorem rf {l bytes:Nat}{r:List PV}{H':aj}(hg:rows=[]→H'.get (l,key)=none)(hg2:rows≠[]→H'.get (l,key)=some (.arr es rows 0 false))(hl:l<H'.length)(hb:(rows.length+1)*bytes≤1099511627776):
  zW l key (dG (l,key) es rows) es bytes [r] H'=some (dG (l,key) es (rows++[r]),H'.set (l,key) (.arr es (rows++[r]) 0 false)):=by
 unfold dG;by_cases h:rows=[]
 ·subst h;have h1:=hg rfl;have h2: ¬H'.length≤l:=(by omega);have h3:bytes≤1099511627776:=(by simpa using hb);simp [h1,h2,h3]
 ·have h1:=hg2 h;simp [h,h1,hb]
@[simp] theorem G6 {l bytes:Nat}{r:List PV}{f0:Fr}(hl:H.length=l)(hf:fr.get key=none)(hb:(rows.length+1)*bytes≤1099511627776):
  zW l key (dG (l,key) es rows) es bytes [r] (f0::fX key es rows fr::H)=some (dG (l,key) es (rows++[r]),f0::fX key es (rows++[r]) fr::H):=by
 subst hl;rw [rf (fun h=>by subst h;simp [fX,hf]) (fun h=>by simp [dB h]) (by simp;omega) hb];simp [fX];split
 ·rfl
 ·rw [Fr.jj]
theorem ab3 {l l0:Nat}(hl:H.length=l)(h:l0<l):canon (clean (fX key es rows fr::H) l0 (dG (l,key) es rows))= .pure (.slice rows):=by
 subst hl;unfold dG;by_cases hr:rows=[]
 ·subst hr;simp
 ·have: ¬H.length≤l0:=(by omega);simp [hr,this,dB hr]
theorem fA {l l0:Nat}{F:Fr}(hl:H.length=l)(h:l0<l)(hF:rows≠[]→F.get key=some (.arr es rows 0 false)):cI (F::H) l0 (dG (l,key) es rows)=if rows=[]then .aV else .pure (.slice rows):=by
 subst hl;unfold dG;by_cases hr:rows=[]
 ·subst hr;simp
 ·have: ¬H.length≤l0:=(by omega);simp [hr,this,hF hr]
end
end
section
def Zy (h:aj)(k:Fr→aj→Prop):Prop:=match h with|fr::H1=>k fr H1| []=>False
@[simp] theorem Zz {fr:Fr}{H:aj}{k:Fr→aj→Prop}:Zy (fr::H) k=k fr H:= .trans rfl rfl
def Qd (x:Option dH)(k:fK→Prop):Prop:=match x with|some (.loop l)=>k l|_=>False
@[simp] theorem HB {l:fK}{k:fK→Prop}:Qd (some (.loop l)) k=k l:= .trans rfl rfl
def lJ:Code→Option (Code×Code)
 | .seq a b=>match lJ a with|some x=>some x|none=>lJ b
 | .cond _ a b=>match lJ a with|some x=>some x|none=>lJ b
 | .block _ a=>lJ a
 | .loop a=>lJ a
 | .rangeFunc _ _ a b=>some (a,b)
 |_=>none
def rgA (g:Func):Code:=((lJ (g.body.getD .skip)).getD (.skip, .skip)).1
def rgB (g:Func):Code:=((lJ (g.body.getD .skip)).getD (.skip, .skip)).2
section
variable (K:Ctx) (N:FuncId→Nat→List (Nat×Nat))
def ot (nm:Nm)(R:GV×aj→Prop)(e:GX)(st:bN):Prop:=
 Zy st.h fun _ H2=>Qd (aj.get H2 nm) fun l2=>
  R (match e with
   | .normal=>(.pure (.bool true),aj.set H2 nm (.loop {l2 with state:= .ready,pending:=none}))
   |e=>(.pure (.bool false),aj.set H2 nm (.loop {l2 with state:= .done,pending:=some e})))
def Al (nm:Nm)(l:fK)(R:GV×aj→Prop)(e:GX)(st:bN):Prop:=
 e= .normal∧Zy st.h fun fr H1=>Qd (aj.get H1 nm) fun l1=>l1.state= .ready∧
  wp K N l.fn l.body ⟨st.s,fr::aj.set H1 nm (.loop {l1 with state:= .busy}),l.nt⟩ (ot nm R)
theorem E1 {nm:Nm} {args:List GV} {H:aj} {l:fK} {s:aZ} {R:GV×aj→Prop} (hl:H.get nm=some (.loop l)) (hr:l.state= .ready) (hp:il l.ez l.nt l.params (args.map canon)=some s)
  (ha:bE K N l.fn l.assign=true) (hb:bE K N l.fn l.body=true) (h:wp K N l.fn l.assign ⟨s,[]::H,l.nt⟩ (Al K N nm l R)):mh (ground (aE K) nm args H) R:=by
 obtain⟨e,st,h1,rfl,h2⟩:=gW K N l.fn l.assign h ha;unfold Zy at h2;split at h2
 ·rename_i fr H1 hst;unfold Qd at h2;split at h2
  ·rename_i l1 hg1;obtain⟨h3,h4⟩:=h2;obtain⟨e2,st2,h5,h6⟩:=gW K N l.fn l.body h4 hb;unfold ot Zy at h6;split at h6
   ·rename_i fr2 H2 hst2;unfold Qd at h6;split at h6
    ·rename_i l2 hg2;refine⟨_, ?_,h6⟩;simp only [ground,hl,hr,if_true,hp,h1,hst,hg1,h3,ne_eq,not_true_eq_false,if_false,h5,hst2,hg2];cases e2<;>rfl
    ·exact h6.elim
   ·exact h6.elim
  ·exact h2.elim
 ·exact h2.elim
def vn (nm:Nm)(st:bN)(Q:GX→bN→Prop)(H:aj):Prop:=
 Qd (aj.get H nm) fun l=>l.state≠ .busy∧Q (match l.pending with|none=> .normal|some e=>e) {st with h:=aj.set H nm (.loop {l with state:= .exhausted})}
theorem HC {fn:FuncId} {f:Operand} {ps:Array Tmp} {assign body:Code} {st:bN} {Q:GX→bN→Prop} {nm:Nm} {H1 H2:aj} {v:GV}
  (h1:iz st.h (10000000+aX body) (.loop {ez:=st.s,nt:=st.nt,params:=ps.toList,assign:=assign,body:=body,fn:=fn,state:= .ready,pending:=none})=some (nm,H1))
  (h2:mV K (aE K) (ev st.s f) [.yield nm] 0 H1=some (v,H2)) (h3:vn nm st Q H2):WP K N fn (.rangeFunc f ps assign body) st Q:=fun _=>by
 rw [fj];unfold vn Qd at h3;split at h3
 ·rename_i l hg;obtain⟨h4,h5⟩:=h3;simp only [cM,h1,h2,hg,h4,if_false]
  cases hp:l.pending with
  |none=>rw [hp]at h5;exact⟨_,_,rfl,h5⟩
  |some e=>rw [hp]at h5;exact⟨_,_,rfl,h5⟩
 ·exact h3.elim
end
end
section
structure aW where
 role:Int
 cell:Int
 deriving DecidableEq
structure bc where
 cell:Int
 state:Int
 home:Int
 want:Int
 pQ:Bool
 deriving DecidableEq
structure ak where
 a7:Int
 aN:Int
 kind:Int
 hand:Int
 bd:Int
 cell:Int
 other:Int
 bZ:Int
 gz:Int
 deriving DecidableEq
structure bB where
 cell:Int
 state:Int
 deriving DecidableEq
structure aH where
 l:Int
 r:Int
 deriving DecidableEq
structure aA where
 wide:Int
 deep:Int
 ah:List aW
 aa:List bc
 seen:List Int
 br:List Int
 ai:List ak
 deriving DecidableEq
structure aw where
 ah:List Int
 ao:List aH
 aa:List bB
 deriving DecidableEq
def aW.row (p:aW):List PV:=[.int .i64 p.role, .int .i64 p.cell]
def bc.row (t:bc):List PV:=[.int .i64 t.cell, .int .i64 t.state, .int .i64 t.home, .int .i64 t.want, .bool t.pQ]
def ak.row (a:ak):List PV:=[.int .i64 a.a7, .int .i64 a.aN, .int .i64 a.kind, .int .i64 a.hand, .int .i64 a.bd, .int .i64 a.cell, .int .i64 a.other, .int .i64 a.bZ, .int .i64 a.gz]
def bB.row (s:bB):List PV:=[.int .i64 s.cell, .int .i64 s.state]
def aH.row (h:aH):List PV:=[.int .i64 h.l, .int .i64 h.r]
def aG (n:Int):List PV:=[.int .i64 n]
def aA.row (r:aA):List PV:=[.int .i64 r.wide, .int .i64 r.deep, .slice (r.ah.map aW.row), .slice (r.aa.map bc.row), .slice (r.seen.map aG), .slice (r.br.map aG), .slice (r.ai.map ak.row)]
def aw.row (s:aw):List PV:=[.slice (s.ah.map aG), .slice (s.ao.map aH.row), .slice (s.aa.map bB.row)]
@[simp] theorem Mx {f:Nat}:KC.Hs f=Hq.contains f:= .trans rfl rfl
attribute [simp] Hq
section
variable {f c:Nat} {H:aj} {args:List GV} {p:PV}
theorem eF (hc:KC.wT f=false) (hb:KC.Aa f=true) (hz:(bs H args).1.map canon=args) (hq:mW args=some none) (hfl:jo p=true) (hH:0<H.length)
  (h0: ∀H:aj,0<H.length→bK KC (aE KC) f args c H=some (.pure p,H)):aL KC (aE KC) f args c H=some (.pure p,H):=iD KC hc hb hz hq hH h0 hfl
end
theorem Am {K:Ctx}{n:Nat}{f:FuncId}{args:List GV}{c:Nat}{H:aj}{r:GV×aj}(h:aL K (c9 K n) f args c H=some r):aL K (aE K) f args c H=some r:=by
 obtain⟨N,hN⟩:=sH K (F:=fun _=>aE K) (rec:=c9 K n) (fun fn c st r h=>⟨0,fun _ _=>(kJ K).2 (mX K n _ _ _ _ h)⟩) h;exact hN N (Nat.le_refl _)
variable {c:Nat} {H:aj}
def dc (x lo hi:Int):Bool:=decide (lo≤x) && decide (x≤hi)
theorem c7 {x lo hi:Int}(hH:0<H.length):aL KC (aE KC) 64 [.pure (.int .i64 x), .pure (.int .i64 lo), .pure (.int .i64 hi)] c H=some (.pure (.bool (dc x lo hi)),H):=by
 refine eF rfl rfl rfl rfl rfl hH fun H hH=> ?_;refine aO (aK KC au Tryz.func64 rfl rfl Tf (by simp) hH ?_);by_cases h:lo≤x
 ·simp [h,dc,ae]
 ·simp [h,dc,ae]
theorem pB {x lo hi:Int}:dc x lo hi=true↔lo≤x∧x≤hi:=by simp [dc]
theorem E2 (fr:Fr)(c:Nat):aL KC (c9 KC 4000) 10 [] c [fr,[]]=some (.pure (.bool true),[fr,[]]):=by
 kernel_rfl
theorem mC (fr:Fr)(c:Nat):aL KC (aE KC) 10 [] c [fr,[]]=some (.pure (.bool true),[fr,[]]):=Am (E2 fr c)
end
section
variable {c:Nat} {H:aj}
noncomputable def An:Int→Int:=nL fun w=>IntKind.u64.wrap (w+11507291218515648293)
theorem E3 (w:Int):An w=IntKind.u64.wrap (w+11507291218515648293):=by rw [An,cN]
def Co (x n:Int):Int:=Tw .u64 x (x.fdiv n)
noncomputable def pR:Int→Int:=nL fun w=>Co (IntKind.u64.wrap (Co (IntKind.u64.wrap (Co (IntKind.u64.wrap (w+11507291218515648293)) 4294967296*15485907386658061715)) 536870912*14029467366897019727)) 4294967296
theorem xC (w:Int):pR w=Co (IntKind.u64.wrap (Co (IntKind.u64.wrap (Co (IntKind.u64.wrap (w+11507291218515648293)) 4294967296*15485907386658061715)) 536870912*14029467366897019727)) 4294967296:=by rw [pR,cN]
theorem My (x:Int):0≤IntKind.u64.wrap x∧IntKind.u64.wrap x≤18446744073709551615:=by rw [IntKind.wrap_u64];omega
theorem E4 (w:Int):0≤pR w∧pR w≤18446744073709551615:=by rw [xC];exact My _
@[simp] theorem ZA:IntKind.u64.bits=64:=rfl
@[simp] theorem ZB:IntKind.i64.bits=64:=rfl
theorem D8 {nm:Nm}(hB:fS H nm):aL KC (aE KC) 55 [.ay nm 0] c H=some (.pure (.int .u64 (pR (bD H nm))),H.set nm (bz (An (bD H nm)))):=by
 have hl:=gT hB;have hg:=xB hB;refine aO (bf KC au Tryz.func55 rfl rfl Ta rfl rfl rfl (by simp) (by omega) ?_);have hne: ¬nm.1=H.length:=(by omega);have h1:(IntKind.u64.wrap 32)=32:=rfl;generalize bD H nm=w at*;unfold bz at*;simp [hne,hl,hg,ae,xC,E3,Co]
noncomputable def kS:Int→Int→Int×Int:=nL fun w n=>
 if n<2 then (0,w)else (IntKind.i64.wrap (((pR w).fdiv 2).tmod (IntKind.u64.wrap n)),An w)
theorem yR (w:Int)(n:Int):kS w n=
 (if n<2 then (0,w)else (IntKind.i64.wrap (((pR w).fdiv 2).tmod (IntKind.u64.wrap n)),An w)):=by rw [kS,cN]
theorem jS (w n:Int)(h:n≤9223372036854775807):0≤(kS w n).1∧((kS w n).1<n∨(kS w n).1=0):=by
 rw [yR];split
 ·simp
 ·have h1:=E4 w;have h2:IntKind.u64.wrap n=n:=(by rw [IntKind.wrap_u64];omega);have h3:0≤(pR w).fdiv 2:=Int.fdiv_nonneg h1.1 (by omega);rw [h2,Int.tmod_eq_emod_of_nonneg h3];have h4:=Int.emod_nonneg ((pR w).fdiv 2) (show n≠0 by omega)
  have h5:=Int.emod_lt_of_pos ((pR w).fdiv 2) (show 0<n by omega)
  rw [dh (by omega) (by omega)];exact⟨h4, .inl h5⟩
theorem kv {nm:Nm}{n:Int}(hB:fS H nm)(hn:n≤9223372036854775807):aL KC (aE KC) 24 [.ay nm 0, .pure (.int .i64 n)] c H=some (.pure (.int .i64 (kS (bD H nm) n).1),H.set nm (bz (kS (bD H nm) n).2)):=by
 have hl:=gT hB;have hs:=kH hB;refine aO (bf KC au Tryz.func24 rfl rfl SJ rfl rfl rfl (by simp) (by omega) ?_);have hne: ¬nm.1=H.length:=(by omega);by_cases h:n<2
 ·simp [h,yR,hs,ae]
 ·have h2:IntKind.u64.wrap n=n:=(by rw [IntKind.wrap_u64];omega);have h3: ¬n=0:=(by omega);have h4: ¬IntKind.u64.wrap n=0:=(by rw [h2];exact h3);simp [h,yR,D8 (dN hB),dq hl,aj.dQ hl,ae,h4]
noncomputable def um:Int→Int→Int→Int×Int:=nL fun w lo hi=>
 let r:=kS w (IntKind.i64.wrap (IntKind.i64.wrap (hi-lo)+1))
 (IntKind.i64.wrap (lo+r.1),r.2)
theorem Ao (w:Int)(lo:Int)(hi:Int):um w lo hi=
 (let r:=kS w (IntKind.i64.wrap (IntKind.i64.wrap (hi-lo)+1))
 (IntKind.i64.wrap (lo+r.1),r.2)):=by rw [um,cN]
theorem Mz (x:Int): -9223372036854775808≤IntKind.i64.wrap x∧IntKind.i64.wrap x≤9223372036854775807:=by rw [IntKind.wrap_i64];omega
theorem vo (w lo hi:Int)(h0: -4611686018427387903≤lo)(h1:hi≤4611686018427387903)(h:lo≤hi):lo≤(um w lo hi).1∧(um w lo hi).1≤hi:=by
 rw [Ao];rw [dh (x:=hi-lo) (by omega) (by omega),dh (x:=hi-lo+1) (by omega) (by omega)];have:=jS w (hi-lo+1) (by omega);simp only;rw [dh (by omega) (by omega)];omega
theorem sA {nm:Nm}{lo hi:Int}(hB:fS H nm):aL KC (aE KC) 26 [.ay nm 0, .pure (.int .i64 lo), .pure (.int .i64 hi)] c H=some (.pure (.int .i64 (um (bD H nm) lo hi).1),H.set nm (bz (um (bD H nm) lo hi).2)):=by
 have hl:=gT hB;refine aO (bf KC au Tryz.func26 rfl rfl SO rfl rfl rfl (by simp) (by omega) ?_);have hr:=(Mz (IntKind.i64.wrap (hi-lo)+1)).2;simp [Ao,kv (dN hB) hr,dq hl,aj.dQ hl,ae]
noncomputable def zZ:Int→Int→Bool×Int:=nL fun w n=>
 ((kS w n).1==0,(kS w n).2)
theorem HD (w:Int)(n:Int):zZ w n=
 (((kS w n).1==0,(kS w n).2)):=by rw [zZ,cN]
theorem qd {nm:Nm}{n:Int}(hB:fS H nm)(hn:n≤9223372036854775807):aL KC (aE KC) 52 [.ay nm 0, .pure (.int .i64 n)] c H=some (.pure (.bool (zZ (bD H nm) n).1),H.set nm (bz (zZ (bD H nm) n).2)):=by
 have hl:=gT hB;refine aO (bf KC au Tryz.func52 rfl rfl S7 rfl rfl rfl (by simp) (by omega) ?_);simp [HD,kv (dN hB) hn,dq hl,aj.dQ hl,ae]
noncomputable def xk:Int→List Int→Int×Int:=nL fun w l=>
 if l.length=0 then (0,w)else (l.getD (kS w l.length).1.toNat 0,(kS w l.length).2)
theorem ss (w:Int)(l:List Int):xk w l=
 (if l.length=0 then (0,w)else (l.getD (kS w l.length).1.toNat 0,(kS w l.length).2)):=by rw [xk,cN]
theorem DY {nm:Nm}{l:List Int}(hB:fS H nm)(hn:l.length<4611686018427387904):aL KC (aE KC) 54 [.ay nm 0, .pure (.slice (l.map aG))] c H=some (.pure (.int .i64 (xk (bD H nm) l).1),H.set nm (bz (xk (bD H nm) l).2)):=by
 have hl:=gT hB;have hs:=kH hB;refine aO (bf KC au Tryz.func54 rfl rfl S9 rfl rfl rfl (by simp) (by omega) ?_);by_cases h:l.length=0
 ·obtain rfl:l=[]:=List.length_eq_zero_iff.1 h;simp [ss,hs,ae]
 ·have h2:((l.length:Int)==0)=false:=beq_eq_false_iff_ne.2 (by omega);have hr:=jS (bD H nm) l.length (by omega);have h3: ¬(kS (bD H nm) l.length).1<0:=(by omega);have h4:(kS (bD H nm) l.length).1.toNat<l.length:=(by have:=hr;clear hl hs hB;omega);simp [h,h2,ss,kv (dN hB) (show (l.length:Int)≤9223372036854775807 by omega),dq hl,aj.dQ hl,ae,h3,h4,aG]
theorem cS {K:Ctx}{f:Nat}{c:Nat}{r:GV}{fr:Fr}(h:K.Hs f=true):gG K f c r (fr::H)=(match dI (zX c fr H (dedup (di fr H.length (refs H.length r))) (H.length-1)) fr H c (dedup (di fr H.length (refs H.length r))) H with|some H'=>some (B6 H.length c r,H')|none=>none):=by
 unfold gG;simp only [h,if_true];rfl
theorem HE (l:List Int)(hn:l.length≤9223372036854775807)(Q:GX→bN→Prop)(hH:0<H.length): ∀(k i:Nat) (w:Int),i+k=l.length→
  (∀w',Q (.exit 0) ⟨[(3, .ay (H.length,6) 0)],[(6,bz w')]::H,30⟩)→
  gS KC au 12 (lp Tryz.f12 0) [0,3,4] [3] Q [(0, .pure (.slice (l.map aG))),(3, .ay (H.length,6) 0),(4, .pure (.int .i64 i))] ([(6,bz w)]::H) 30:=by
 intro k
 induction k with
 |zero=>
  intro i w hi h1;have hia: ¬i<l.length:=(by omega);apply ax;conv=>arg 4;whnf
  simp [hia,hH];exact h1 w
 |succ k ih=>
  intro i w hi h1;have hia:i<l.length:=(by omega);have hw:=dh (x:=(i:Int)+1) (by omega) (by omega);have ih':=fun w=>ih (i+1) w (by omega) h1;apply ax;conv=>arg 4;whnf
  have T:=fun(v:Int) (c:Nat)=>D8 (c:=c) (H:=[]::[(6,bz v)]::H) (nm:=(H.length,6)) ⟨v,by simp,by simp⟩;simp [bD,bz]at T;simp [hia,hH,aG,hw,bz,T];simpa [bz]using ih' _
theorem HF (l:List Int)(hn:l.length≤9223372036854775807)(hH:0<H.length)(hfree:H.get (H.length-1,aq c 6)=none):
  ∃w,aL KC (aE KC) 12 [.pure (.slice (l.map aG))] c H=some (.ay (H.length-1,aq c 6) 0,H.set (H.length-1,aq c 6) (bz w)):=by
 have key:mh (aL KC (aE KC) 12 [.pure (.slice (l.map aG))] c H) (fun x=> ∃w,x=(.ay (H.length-1,aq c 6) 0,H.set (H.length-1,aq c 6) (bz w))):=by
  refine bf KC au Tryz.func12 rfl rfl SI rfl rfl rfl (by simp) hH ?_;have h0:=fun Q hq=>HE l hn Q hH l.length 0 2685821657736338717 (by omega) hq;simp [bz]at h0;simp;refine h0 _ (fun w=> ?_);simp [cS,Mx,refs,fT,dX,di,gK,gL,dedup,dI,cP,zX,hfree,B6,nY,jF];exact⟨w,rfl⟩
 obtain⟨r,e1,w,e2⟩:=key;exact⟨w,by rw [e1,e2]⟩
end
section
variable {c:Nat} {H:aj}
@[simp] theorem ab5:IntKind.i64.wrap 1=1:=rfl
@[simp] theorem ab6:IntKind.i64.wrap 0=0:=rfl
noncomputable def cU:Int→Int→Int:=nL fun w d=>IntKind.i64.wrap (IntKind.i64.wrap (w*d)-1)
theorem Ap (w d:Int):cU w d=IntKind.i64.wrap (IntKind.i64.wrap (w*d)-1):=by rw [cU,cN]
theorem Aq {w d:Int}{x1 x2 x3 x4 x5:PV}(hH:0<H.length):aL KC (aE KC) 130 [.pure (.agg [.int .i64 w, .int .i64 d,x1,x2,x3,x4,x5])] c H=some (.pure (.int .i64 (IntKind.i64.wrap (w*d))),H):=by
 refine eF rfl rfl rfl rfl rfl hH fun H hH=> ?_;refine aO (aK KC au Tryz.func130 rfl rfl L7 (by simp) hH ?_);simp [ae]
theorem fL {w d n:Int}{x1 x2 x3 x4 x5:PV}(hH:0<H.length):aL KC (aE KC) 112 [.pure (.agg [.int .i64 w, .int .i64 d,x1,x2,x3,x4,x5]), .pure (.int .i64 n)] c H=some (.pure (.bool (dc n 0 (cU w d))),H):=by
 refine eF rfl rfl rfl rfl rfl hH fun H hH=> ?_;refine aO (aK KC au Tryz.func112 rfl rfl LN (by simp) hH ?_);simp [ae,Aq,c7,Ap]
def bR (g:Nat→Int):Nat→Nat→Int
 |0,_=>0
 |k+1,i=>if g i≠0 then g i else bR g k (i+1)
noncomputable def nZ:(Int→Bool)→Int→List Int→Nat→Int:=nL fun p e l i=>if p (l.getD i 0)=false then e else if 0<i∧l.getD i 0≤l.getD (i-1) 0 then 11 else 0
theorem vp (p:Int→Bool)(e:Int)(l:List Int)(i:Nat):nZ p e l i=if p (l.getD i 0)=false then e else if 0<i∧l.getD i 0≤l.getD (i-1) 0 then 11 else 0:=by rw [nZ,cN]
theorem HG (l:List Int) (hn:l.length≤4611686018427387904) (p:Int→Bool) (e:Int) (he0:e≠0) (g:GV) (hg: ∀(x:Int) (c:Nat) (fr:Fr),dJ KC (aE KC) g [.pure (.int .i64 x)] c (fr::H)=some (.pure (.bool (p x)),fr::H))
  (hcl: ∀fr,clean (fr::H) (H.length-1) g=g) (Q:GX→bN→Prop) (hH:0<H.length): ∀k i:Nat,i+k=l.length→
  (bR (nZ p e l) k i=0→Q (.exit 0) ⟨[(6,aP)],H,35⟩)→(bR (nZ p e l) k i≠0→Q .ret ⟨[(6, .pure (.int .i64 (bR (nZ p e l) k i)))],H,35⟩)→
  gS KC au 123 (lp Tryz.f123 0) [0,1,2,9,10,11] [6] Q [(0, .pure (.slice (l.map aG))),(1,g),(2, .pure (.int .i64 e)),(9, .pure (.slice (l.map aG))),(10, .pure (.int .i64 l.length)),(11, .pure (.int .i64 i))] H 35:=by
 intro k
 induction k with
 |zero=>
  intro i hi h1 h2;apply ax;conv=>arg 4;whnf
  have: ¬i<l.length:=(by omega);simp [this,hH];exact h1 rfl
 |succ k ih=>
  intro i hi h1 h2;have hia:i<l.length:=(by omega);have hw:=dh (x:=(i:Int)+1) (by omega) (by omega);have hw2:=dh (x:=(i:Int)-1) (by omega) (by omega);have ih':=ih (i+1) (by omega);unfold bR at h1 h2;have hf:=vp p e l i;have hgi:l.getD i 0=l[i]:=(by simp [List.getD_eq_getElem?_getD,hia]);rw [hgi]at hf;apply ax;conv=>arg 4;whnf
  by_cases hp:p l[i]=true
  ·by_cases h0:0<i
   ·have h0':(0:Int)<i:=(by omega);have hi1:i-1<l.length:=(by omega);have hgi1:l.getD (i-1) 0=l[i-1]:=(by simp [List.getD_eq_getElem?_getD,hi1]);have hnn: ¬(i:Int)-1<0:=(by omega);have htn:((i:Int)-1).toNat=i-1:=(by omega);rw [hgi1]at hf;by_cases hle:l[i]≤l[i-1]
    ·simp [hp,h0,hle]at hf;simp [hf]at h1 h2;simp [hia,hH,aG,hg,hp,hw,hw2,h0,h0',hnn,htn,hi1,hle];exact h2
    ·simp [hp,h0,hle]at hf;simp [hf]at h1 h2;simp [hia,hH,aG,hg,hp,hw,hw2,h0,h0',hnn,htn,hi1,hle,hcl];simpa [aG]using ih' h1 h2
   ·have h00:i=0:=(by omega);simp [hp,h0]at hf;simp [hf]at h1 h2;subst h00;simp [hia,hH,aG,hg,hp,hw,hcl];simpa [aG]using ih' h1 h2
  ·have hp':p l[i]=false:=(by simpa using hp);simp [hp']at hf;simp [hf,he0]at h1 h2;simp [hia,hH,aG,hg,hp'];exact h2
theorem HH (l:List Int) (hn:l.length≤4611686018427387904) (p:Int→Bool) (e:Int) (he0:e≠0) (g:GV) (hcan:canon g=g) (hfz: ∀H,dn H g=(g,H)) (hg: ∀(x:Int) (c:Nat) (f0 fr:Fr),dJ KC (aE KC) g [.pure (.int .i64 x)] c (f0::fr::H)=some (.pure (.bool (p x)),f0::fr::H))
  (hcl: ∀f0 fr,clean (f0::fr::H) (H.length) g=g) (hH:0<H.length):
  aL KC (aE KC) 123 [.pure (.slice (l.map aG)),g, .pure (.int .i64 e)] c H=some (.pure (.int .i64 (bR (nZ p e l) l.length 0)),H):=by
 refine aO (bf KC au Tryz.func123 rfl rfl LX (by simp [bs,hfz]) rfl rfl (by simp) hH ?_);simp [hcan];refine HG (H:=[]::H) l hn p e he0 g (fun x c fr=>hg x c fr []) (fun fr=>by simpa using hcl fr []) _ (by simp) l.length 0 (by omega) (fun h=> ?_) (fun h=> ?_)
 ·simp [h,ae]
 ·simp [ae]
theorem HI {w d x:Int}{x1 x2 x3 x4 x5:PV}{nm:Nm}(hg:H.get nm=some (.box [.pure (.int .i64 w), .pure (.int .i64 d), .pure x1, .pure x2, .pure x3, .pure x4, .pure x5])):
  aL KC (aE KC) 124 [.pure (.int .i64 x), .ay nm 0] c H=some (.pure (.bool (dc x 0 (cU w d))),H):=by
 have hl:nm.1<H.length:=aj.bL hg;have hne: ¬nm.1=H.length:=(by omega);refine aO (bf KC au Tryz.func124 rfl rfl LY rfl rfl rfl (by simp) (by omega) ?_);simp [ae,fL,hg,hne]
theorem HJ {x:Int}(hH:0<H.length):
  aL KC (aE KC) 125 [.pure (.int .i64 x)] c H=some (.pure (.bool (dc x 1 3)),H):=by
 refine aO (bf KC au Tryz.func125 rfl rfl LZ rfl rfl rfl (by simp) hH ?_);simp [ae,c7]
def eJ (ps:List aW)(i:Nat)(x:Int):Bool:=(ps.take i).any fun q=>q.cell==x
noncomputable def iL:Int→List aW→Nat→Int:=nL fun t ps i=>
 if dc (ps.getD i ⟨0,0⟩).role 1 3=false then 4 else if dc (ps.getD i ⟨0,0⟩).cell 0 t=false then 7 else if eJ ps i (ps.getD i ⟨0,0⟩).cell=true then 12 else 0
theorem ou (t:Int)(ps:List aW)(i:Nat):iL t ps i=
 if dc (ps.getD i ⟨0,0⟩).role 1 3=false then 4 else if dc (ps.getD i ⟨0,0⟩).cell 0 t=false then 7 else if eJ ps i (ps.getD i ⟨0,0⟩).cell=true then 12 else 0:=by rw [iL,cN]
noncomputable def ko:Int→List bc→Nat→Int:=nL fun t ts i=>
 if dc (ts.getD i ⟨0,0,0,0,false⟩).cell 0 t=false∨dc (ts.getD i ⟨0,0,0,0,false⟩).home 0 t=false then 7 else if dc (ts.getD i ⟨0,0,0,0,false⟩).state 0 15=false∨dc (ts.getD i ⟨0,0,0,0,false⟩).want 0 15=false then 2 else 0
theorem qj (t:Int)(ts:List bc)(i:Nat):ko t ts i=
 if dc (ts.getD i ⟨0,0,0,0,false⟩).cell 0 t=false∨dc (ts.getD i ⟨0,0,0,0,false⟩).home 0 t=false then 7 else if dc (ts.getD i ⟨0,0,0,0,false⟩).state 0 15=false∨dc (ts.getD i ⟨0,0,0,0,false⟩).want 0 15=false then 2 else 0:=by rw [ko,cN]
noncomputable def ld:aA→Int:=nL fun r=>
 if dc r.wide 1 6=false∨dc r.deep 1 6=false then 2 else if r.ah.length=0 then 6 else if 4<r.ah.length then 8
 else if bR (iL (cU r.wide r.deep) r.ah) r.ah.length 0≠0 then bR (iL (cU r.wide r.deep) r.ah) r.ah.length 0
 else if 8<r.aa.length then 8
 else if bR (ko (cU r.wide r.deep) r.aa) r.aa.length 0≠0 then bR (ko (cU r.wide r.deep) r.aa) r.aa.length 0
 else if bR (nZ (fun x=>dc x 0 (cU r.wide r.deep)) 7 r.seen) r.seen.length 0≠0 then bR (nZ (fun x=>dc x 0 (cU r.wide r.deep)) 7 r.seen) r.seen.length 0
 else bR (nZ (fun x=>dc x 1 3) 4 r.br) r.br.length 0
theorem mD (r:aA):ld r=
 if dc r.wide 1 6=false∨dc r.deep 1 6=false then 2 else if r.ah.length=0 then 6 else if 4<r.ah.length then 8
 else if bR (iL (cU r.wide r.deep) r.ah) r.ah.length 0≠0 then bR (iL (cU r.wide r.deep) r.ah) r.ah.length 0
 else if 8<r.aa.length then 8
 else if bR (ko (cU r.wide r.deep) r.aa) r.aa.length 0≠0 then bR (ko (cU r.wide r.deep) r.aa) r.aa.length 0
 else if bR (nZ (fun x=>dc x 0 (cU r.wide r.deep)) 7 r.seen) r.seen.length 0≠0 then bR (nZ (fun x=>dc x 0 (cU r.wide r.deep)) 7 r.seen) r.seen.length 0
 else bR (nZ (fun x=>dc x 1 3) 4 r.br) r.br.length 0:=by rw [ld,cN]
def aR (r:aA):dH:= .box [.pure (.int .i64 r.wide), .pure (.int .i64 r.deep), .pure (.slice (r.ah.map aW.row)), .pure (.slice (r.aa.map bc.row)), .pure (.slice (r.seen.map aG)), .pure (.slice (r.br.map aG)), .pure (.slice (r.ai.map ak.row))]
theorem w7 (ps:List aW)(i:Nat)(h:i<ps.length)(x:Int):eJ ps (i+1) x=(eJ ps i x||ps[i].cell==x):=by
 unfold eJ;rw [List.take_succ_eq_append_getElem h,List.any_append];simp
theorem E5 (ps:List aW)(n:Nat)(hn:n≤ps.length)(hl:ps.length≤4)(p:aW)(r:aA)(g30 g31 g32:PV)(Q:GX→bN→Prop)(f0:Fr)(hf0:f0=[(4, .box [.pure (.int .i64 p.role), .pure (.int .i64 p.cell)])]):
  ∀k i:Nat,i+k=n→eJ ps i p.cell=false→
  (eJ ps n p.cell=false→Q (.exit 4) ⟨[(1, .ay (H.length,1) 0),(2,aP),(30, .pure g30),(31, .pure g31),(32, .pure g32)],f0::[(1,aR r)]::H,106⟩)→
  (eJ ps n p.cell=true→Q .ret ⟨[(1, .ay (H.length,1) 0),(2, .pure (.int .i64 12)),(30, .pure g30),(31, .pure g31),(32, .pure g32)],f0::[(1,aR r)]::H,106⟩)→
  gS KC au 89 (lp Tryz.f89 1) [1,4,30,31,32,51,52,53] [1,2,30,31,32] Q
   [(1, .ay (H.length,1) 0),(4, .ay (H.length+1,4) 0),(30, .pure g30),(31, .pure g31),(32, .pure g32),(51, .pure (.slice ((ps.take n).map aW.row))),(52, .pure (.int .i64 n)),(53, .pure (.int .i64 i))] (f0::[(1,aR r)]::H) 106:=by
 subst hf0;intro k
 induction k with
 |zero=>
  intro i hi hs h1 h2;have e:i=n:=(by omega);subst e;apply ax;conv=>arg 4;whnf
  simp [aR];exact h1 hs
 |succ k ih=>
  intro i hi hs h1 h2;have hin:i<n:=(by omega);have hil:i<ps.length:=(by omega);have hw:=dh (x:=(i:Int)+1) (by omega) (by omega);have hs1:=w7 ps i hil p.cell;apply ax;conv=>arg 4;whnf
  by_cases he:ps[i].cell=p.cell
  ·have ht:eJ ps n p.cell=true:=by
    unfold eJ;rw [List.any_eq_true];exact⟨ps[i],List.mem_take_iff_getElem.2 ⟨i,by omega,rfl⟩,by simp [he]⟩
   simp [hin,hil,hw,aR,aW.row,he];exact h2 ht
  ·have hs':eJ ps (i+1) p.cell=false:=(by rw [hs1,hs];simpa using he);have he':(ps[i].cell==p.cell)=false:=(by simpa using he);simp [hin,hil,hw,aR,aW.row,he'];simpa [aR]using ih (i+1) (by omega) hs' h1 h2
end
section
variable {c:Nat} {H:aj}
theorem Ar (r:aA)(hl:r.ah.length≤4)(Q:GX→bN→Prop): ∀k i:Nat,i+k=r.ah.length→
  (bR (iL (cU r.wide r.deep) r.ah) k i=0→Q (.exit 1) ⟨[(1, .ay (H.length,1) 0),(2,aP)],[(1,aR r)]::H,106⟩)→
  (bR (iL (cU r.wide r.deep) r.ah) k i≠0→Q .ret ⟨[(1, .ay (H.length,1) 0),(2, .pure (.int .i64 (bR (iL (cU r.wide r.deep) r.ah) k i)))],[(1,aR r)]::H,106⟩)→
  gS KC au 89 (lp Tryz.f89 0) [1,30,31,32] [1,2] Q
   [(1, .ay (H.length,1) 0),(30, .pure (.slice (r.ah.map aW.row))),(31, .pure (.int .i64 r.ah.length)),(32, .pure (.int .i64 i))] ([(1,aR r)]::H) 106:=by
 intro k
 induction k with
 |zero=>
  intro i hi h1 h2;apply ax;conv=>arg 4;whnf
  have: ¬i<r.ah.length:=(by omega);simp [this];exact h1 rfl
 |succ k ih=>
  intro i hi h1 h2;have hia:i<r.ah.length:=(by omega);have hw:=dh (x:=(i:Int)+1) (by omega) (by omega);have ih':=ih (i+1) (by omega);unfold bR at h1 h2;have hf:=ou (cU r.wide r.deep) r.ah i;have hgi:r.ah.getD i ⟨0,0⟩=r.ah[i]:=(by simp [List.getD_eq_getElem?_getD,hia]);rw [hgi]at hf;have hmin:min i r.ah.length=i:=(by omega);have hile:i≤r.ah.length:=(by omega);have hnn: ¬(r.ah.length:Int)<i:=(by omega);apply ax;conv=>arg 4;whnf
  by_cases h3:dc r.ah[i].role 1 3=true
  ·by_cases h4:dc r.ah[i].cell 0 (cU r.wide r.deep)=true
   ·simp [hia,hile,hmin,aW.row,aR,c7,fL,h3,h4];have L:=fun Q=>E5 (H:=H) r.ah i (by omega) hl r.ah[i] r (.slice (r.ah.map aW.row)) (.int .i64 r.ah.length) (.int .i64 i) Q _ rfl i 0 (by omega) (by simp [eJ]);simp [aR]at L;refine L _ (fun h5=> ?_) (fun h5=> ?_)
    ·simp [h3,h4,h5]at hf;simp [hf]at h1 h2;simp [hw];simpa [aR]using ih' h1 h2
    ·simp [h3,h4,h5]at hf;simp [hf]at h1 h2;simp;simpa [aR]using h2
   ·have h4':dc r.ah[i].cell 0 (cU r.wide r.deep)=false:=(by simpa using h4);simp [h3,h4']at hf;simp [hf]at h1 h2;simp [hia,aW.row,aR,c7,fL,h3,h4'];simpa [aR]using h2
  ·have h3':dc r.ah[i].role 1 3=false:=(by simpa using h3);simp [h3']at hf;simp [hf]at h1 h2;simp [hia,aW.row,aR,c7,fL,h3'];simpa [aR]using h2
theorem Cp (r:aA)(hl:r.aa.length≤8)(Q:GX→bN→Prop): ∀k i:Nat,i+k=r.aa.length→
  (bR (ko (cU r.wide r.deep) r.aa) k i=0→Q (.exit 6) ⟨[(1, .ay (H.length,1) 0),(2,aP)],[(1,aR r)]::H,106⟩)→
  (bR (ko (cU r.wide r.deep) r.aa) k i≠0→Q .ret ⟨[(1, .ay (H.length,1) 0),(2, .pure (.int .i64 (bR (ko (cU r.wide r.deep) r.aa) k i)))],[(1,aR r)]::H,106⟩)→
  gS KC au 89 (lp Tryz.f89 2) [1,69,70,71] [1,2] Q
   [(1, .ay (H.length,1) 0),(69, .pure (.slice (r.aa.map bc.row))),(70, .pure (.int .i64 r.aa.length)),(71, .pure (.int .i64 i))] ([(1,aR r)]::H) 106:=by
 intro k
 induction k with
 |zero=>
  intro i hi h1 h2;apply ax;conv=>arg 4;whnf
  have: ¬i<r.aa.length:=(by omega);simp [this];exact h1 rfl
 |succ k ih=>
  intro i hi h1 h2;have hia:i<r.aa.length:=(by omega);have hw:=dh (x:=(i:Int)+1) (by omega) (by omega);have ih':=ih (i+1) (by omega);unfold bR at h1 h2;have hf:=qj (cU r.wide r.deep) r.aa i;have hgi:r.aa.getD i ⟨0,0,0,0,false⟩=r.aa[i]:=(by simp [List.getD_eq_getElem?_getD,hia]);rw [hgi]at hf;apply ax;conv=>arg 4;whnf
  cases h3:dc r.aa[i].cell 0 (cU r.wide r.deep)with
  |false=>
   simp [h3]at hf;simp [hf]at h1 h2;simp [hia,bc.row,aR,c7,fL,h3];simpa [aR]using h2
  |true=>
   cases h4:dc r.aa[i].home 0 (cU r.wide r.deep)with
   |false=>
    simp [h3,h4]at hf;simp [hf]at h1 h2;simp [hia,bc.row,aR,c7,fL,h3,h4];simpa [aR]using h2
   |true=>
    cases h5:dc r.aa[i].state 0 15 with
    |false=>
     simp [h3,h4,h5]at hf;simp [hf]at h1 h2;simp [hia,bc.row,aR,c7,fL,h3,h4,h5];simpa [aR]using h2
    |true=>
     cases h6:dc r.aa[i].want 0 15 with
     |false=>
      simp [h3,h4,h5,h6]at hf;simp [hf]at h1 h2;simp [hia,bc.row,aR,c7,fL,h3,h4,h5,h6];simpa [aR]using h2
     |true=>
      simp [h3,h4,h5,h6]at hf;simp [hf]at h1 h2;simp [hia,bc.row,aR,c7,fL,h3,h4,h5,h6,hw];simpa [aR]using ih' h1 h2
theorem eE (r:aA):r.row=[.int .i64 r.wide, .int .i64 r.deep, .slice (r.ah.map aW.row), .slice (r.aa.map bc.row), .slice (r.seen.map aG), .slice (r.br.map aG), .slice (r.ai.map ak.row)]:=rfl
theorem MA (r:aA){x:Int}{nm:Nm}(hg:H.get nm=some (aR r)):aL KC (aE KC) 124 [.pure (.int .i64 x), .ay nm 0] c H=some (.pure (.bool (dc x 0 (cU r.wide r.deep))),H):=HI hg
theorem yS (r:aA)(h1:r.seen.length≤1000000)(h2:r.br.length≤1000000)(h3:r.ah.length≤1000000)(h4:r.aa.length≤1000000)(hH:0<H.length):
  aL KC (aE KC) 89 [.pure (.agg r.row)] c H=some (.pure (.int .i64 (ld r)),H):=by
 refine eF rfl rfl rfl rfl rfl hH fun H hH=> ?_;refine aO (aK KC au Tryz.func89 rfl rfl Ts (by simp) hH ?_);have hr:=mD r;rw [eE]
 cases e1:dc r.wide 1 6 with
 |false=>
  simp [e1]at hr;simp [c7,e1,ae,hr]
 |true=>
 cases e2:dc r.deep 1 6 with
 |false=>
  simp [e1,e2]at hr;simp [c7,e1,e2,ae,hr]
 |true=>
 by_cases e3:r.ah.length=0
 ·have e3':r.ah=[]:=List.length_eq_zero_iff.1 e3;simp [e1,e2,e3,e3']at hr;simp [c7,e1,e2,e3,e3',ae,hr]
 have e3':((r.ah.length:Int)==0)=false:=beq_eq_false_iff_ne.2 (by omega);by_cases e4:4<r.ah.length
 ·have e4':(4:Int)<r.ah.length:=(by omega);simp [e1,e2,e3,e4]at hr;simp [c7,e1,e2,e3,e3',e4,e4',ae,hr]
 have e4': ¬(4:Int)<r.ah.length:=(by omega);simp only [e1,e2,e3,e4,Bool.true_eq_false,or_self,if_false]at hr;simp [c7,e1,e2,e3,e3',e4,e4'];have L:=fun Q=>Ar (H:=H) r (by omega) Q r.ah.length 0 (by omega);simp [aR]at L;refine L _ (fun z1=> ?_) (fun z1=> ?_)
 ·by_cases e5:8<r.aa.length
  ·have e5':(8:Int)<r.aa.length:=(by omega);simp [z1,e5]at hr;simp [e5',e5,ae,hr]
  ·have e5': ¬(8:Int)<r.aa.length:=(by omega);simp only [z1,e5,ne_eq,not_true_eq_false,if_false]at hr;simp [e5',e5];have L2:=fun Q=>Cp (H:=H) r (by omega) Q r.aa.length 0 (by omega);simp [aR]at L2;refine L2 _ (fun z2=> ?_) (fun z2=> ?_)
   ·simp only [z2,ne_eq,not_true_eq_false,if_false]at hr;have A:=fun c=>HH (c:=c) (H:=[(1,aR r)]::H) r.seen (by omega) (fun x=>dc x 0 (cU r.wide r.deep)) 7 (by decide) (.func 124 [] [.ay (H.length,1) 0]) rfl (fun _=>rfl) (fun x c f0 fr=>by
     rw [mY];exact MA r (by simp)) (fun f0 fr=>by simp) (by simp)
    have B:=fun(H:aj) c (hH:0<H.length)=>HH (c:=c) (H:=H) r.br (by omega) (fun x=>dc x 1 3) 4 (by decide) (.pure (.fn 125)) rfl (fun _=>rfl) (fun x c f0 fr=>by
     rw [vq];exact HJ (by simp)) (fun f0 fr=>by simp) hH
    simp [aR]at A;by_cases z3:bR (nZ (fun x=>dc x 0 (cU r.wide r.deep)) 7 r.seen) r.seen.length 0=0
    ·simp only [z3,ne_eq,not_true_eq_false,if_false]at hr;simp [A,z3,B,ae,hr]
    ·have z3':(bR (nZ (fun x=>dc x 0 (cU r.wide r.deep)) 7 r.seen) r.seen.length 0 !=0)=true:=(by simpa using z3);simp only [z3,ne_eq,not_false_eq_true,if_true]at hr;simp [A,z3,z3',ae,hr]
   ·simp [z2]at hr;simp [ae,hr]
 ·simp [z1]at hr;simp [ae,hr]
end
section
variable {c:Nat} {H:aj}
def nK (a:ak):Bool:=
 if a.kind=1 then decide (a.hand=0∧a.bd=0∧a.other=0)
 else if a.kind=2 then decide (a.cell=0∧a.other=0)
 else if a.kind=4 then decide (a.bd=0∧a.cell=0)
 else decide (a.bd=0∧a.cell=0∧a.other=0)
noncomputable def dV:Int→Int→Int→ak→Int:=nL fun t nt np a=>
 if dc a.kind 1 8=false then 4 else if nK a=false then 3 else if a.kind=1∧dc a.cell 0 t=false then 7 else if dc a.hand 0 1=false then 2
 else if a.kind=2∧dc a.bd 0 (nt-1)=false then 7 else if a.kind=4∧dc a.other 0 (np-1)=false then 7 else if a.kind=4∧a.other=a.aN then 3 else 0
theorem ov (t nt np:Int)(a:ak):dV t nt np a=
 if dc a.kind 1 8=false then 4 else if nK a=false then 3 else if a.kind=1∧dc a.cell 0 t=false then 7 else if dc a.hand 0 1=false then 2
 else if a.kind=2∧dc a.bd 0 (nt-1)=false then 7 else if a.kind=4∧dc a.other 0 (np-1)=false then 7 else if a.kind=4∧a.other=a.aN then 3 else 0:=by rw [dV,cN]
theorem Cq (k:Int):k=1∨k=2∨k=4∨(k=3∨k=5∨k=6∨k=7∨k=8)∨(dc k 1 8=false∧k≠1∧k≠2∧k≠3∧k≠4∧k≠5∧k≠6∧k≠7∧k≠8):=by
 by_cases h:1≤k∧k≤8
 ·omega
 ·refine .inr (.inr (.inr (.inr ⟨?_,by omega,by omega,by omega,by omega,by omega,by omega,by omega,by omega⟩)));simp [dc];omega
theorem ow {r:aA}{q1 q2 kind hand bd cell other q3 q4:Int}(h1:r.ah.length≤1000000)(h2:r.aa.length≤1000000)(hH:0<H.length):
  aL KC (aE KC) 73 [.pure (.agg r.row), .pure (.agg [.int .i64 q1, .int .i64 q2, .int .i64 kind, .int .i64 hand, .int .i64 bd, .int .i64 cell, .int .i64 other, .int .i64 q3, .int .i64 q4])] c H=
   some (.pure (.int .i64 (dV (cU r.wide r.deep) r.aa.length r.ah.length ⟨q1,q2,kind,hand,bd,cell,other,q3,q4⟩)),H):=by
 refine eF rfl rfl rfl rfl rfl hH fun H hH=> ?_;refine aO (aK KC au Tryz.func73 rfl rfl Tk (by simp) hH ?_);have hr:=ov (cU r.wide r.deep) r.aa.length r.ah.length ⟨q1,q2,kind,hand,bd,cell,other,q3,q4⟩;simp only [nK]at hr;rw [eE];have w1:=dh (x:=(r.ah.length:Int)-1) (by omega) (by omega);have w2:=dh (x:=(r.aa.length:Int)-1) (by omega) (by omega);have i0:dc 0 0 1=true:=rfl;rcases Cq kind with rfl|rfl|rfl|hk|⟨hk,n1,n2,n3,n4,n5,n6,n7,n8⟩
 ·have i1:dc 1 1 8=true:=rfl;by_cases a1:hand=0
  ·by_cases a2:bd=0
   ·by_cases a3:other=0
    ·subst a1;subst a2;subst a3
     cases a4:dc cell 0 (cU r.wide r.deep)with
     |false=>
      simp [a4,i1,i0]at hr;simp [c7,fL,a4,ae,hr]
     |true=>
      simp [a4,i1,i0]at hr;simp [c7,fL,a4,i0,ae,hr]
    ·have a3':(other==0)=false:=(by simpa using a3);subst a1;subst a2;simp [a3,i1]at hr;simp [a3',bne,ae,hr]
   ·have a2':(bd==0)=false:=(by simpa using a2);subst a1;simp [a2,i1]at hr;simp [a2',bne,ae,hr]
  ·have a1':(hand==0)=false:=(by simpa using a1);simp [a1,i1]at hr;simp [a1',bne,ae,hr]
 ·have i1:dc 2 1 8=true:=rfl;by_cases a1:cell=0
  ·by_cases a2:other=0
   ·subst a1;subst a2
    cases a3:dc hand 0 1 with
    |false=>
     simp [a3,i1]at hr;simp [c7,a3,ae,hr]
    |true=>
     cases a4:dc bd 0 ((r.aa.length:Int)-1)with
     |false=>
      simp [a3,a4,i1]at hr;simp [c7,a3,a4,w2,ae,hr]
     |true=>
      simp [a3,a4,i1]at hr;simp [c7,a3,a4,w2,ae,hr]
   ·have a2':(other==0)=false:=(by simpa using a2);subst a1;simp [a2,i1]at hr;simp [a2',bne,ae,hr]
  ·have a1':(cell==0)=false:=(by simpa using a1);simp [a1,i1]at hr;simp [a1',bne,ae,hr]
 ·have i1:dc 4 1 8=true:=rfl;by_cases a1:bd=0
  ·by_cases a2:cell=0
   ·subst a1;subst a2
    cases a3:dc hand 0 1 with
    |false=>
     simp [a3,i1]at hr;simp [c7,a3,ae,hr]
    |true=>
     cases a4:dc other 0 ((r.ah.length:Int)-1)with
     |false=>
      simp [a3,a4,i1]at hr;simp [c7,a3,a4,w1,ae,hr]
     |true=>
      by_cases a5:other=q2
      ·subst a5;simp [a3,a4,i1]at hr;simp [c7,a3,a4,w1,ae,hr]
      ·have a5':(other==q2)=false:=(by simpa using a5);simp [a3,a4,a5,i1]at hr;simp [c7,a3,a4,a5',w1,ae,hr]
   ·have a2':(cell==0)=false:=(by simpa using a2);subst a1;simp [a2,i1]at hr;simp [a2',bne,ae,hr]
  ·have a1':(bd==0)=false:=(by simpa using a1);simp [a1,i1]at hr;simp [a1',bne,ae,hr]
 ·have i1:dc kind 1 8=true:=(by simp [dc];omega);have m1:kind≠1:=(by omega);have m2:kind≠2:=(by omega);have m4:kind≠4:=(by omega);by_cases a1:bd=0
  ·by_cases a2:cell=0
   ·by_cases a3:other=0
    ·subst a1;subst a2;subst a3
     cases a4:dc hand 0 1 with
     |false=>
      simp [a4,i1,m1,m2,m4]at hr;rcases hk with rfl|rfl|rfl|rfl|rfl<;>simp [c7,a4,ae,hr]
     |true=>
      simp [a4,i1,m1,m2,m4]at hr;rcases hk with rfl|rfl|rfl|rfl|rfl<;>simp [c7,a4,ae,hr]
    ·have a3':(other==0)=false:=(by simpa using a3);subst a1;subst a2;simp [a3,i1,m1,m2,m4]at hr;rcases hk with rfl|rfl|rfl|rfl|rfl<;>simp [a3',bne,ae,hr]
   ·have a2':(cell==0)=false:=(by simpa using a2);subst a1;simp [a2,i1,m1,m2,m4]at hr;rcases hk with rfl|rfl|rfl|rfl|rfl<;>simp [a2',bne,ae,hr]
  ·have a1':(bd==0)=false:=(by simpa using a1);simp [a1,i1,m1,m2,m4]at hr;rcases hk with rfl|rfl|rfl|rfl|rfl<;>simp [a1',bne,ae,hr]
 ·have e1:(kind==1)=false:=(by simpa using n1);have e2:(kind==2)=false:=(by simpa using n2);have e3:(kind==3)=false:=(by simpa using n3);have e4:(kind==4)=false:=(by simpa using n4);have e5:(kind==5)=false:=(by simpa using n5);have e6:(kind==6)=false:=(by simpa using n6);have e7:(kind==7)=false:=(by simpa using n7);have e8:(kind==8)=false:=(by simpa using n8);simp [hk]at hr;simp [e1,e2,e3,e4,e5,e6,e7,e8,ae,hr]
end
end Go.Gh
