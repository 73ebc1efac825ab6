/- Texts joined: the evaluator over ghost values, its soundness, the walks. Spaces struck and names made short by a program, for the size. -/
import Derived.Test.YtkcmcjohoockcaaGreatGc8e
import Derived.Test.YtkcmcjohoockcaaGreatProg
import Derived.KernelRfl
import Derived.IntWalk
namespace Go.Gh
open Go.Proofs
set_option linter.unusedVariables false
set_option linter.unusedSimpArgs false
set_option linter.unnecessarySimpa false
set_option maxRecDepth 100000
set_option maxHeartbeats 8000000
section
section
variable {K:Ctx} {fn:FuncId} {rec:Rec} {dst:Option Tmp} {ty:TypeId} {pos:String} {af:Array Edge} {gu:Option (Nat×Bool)} {s:a7} {H:aj}
def uN (P:Program)(t:TypeId):Option (Option Nat×Option Nat×Option Nat):=(dz P t).map fun e=>(br P e,jG P e,tn P e)
def apV (lv:Option Nat)(k:Nat→Option (GV×aj)):Option (GV×aj):=match lv with|some l=>k l|none=>none
@[congr] theorem abJ {lv lv':Option Nat}{k:Nat→Option (GV×aj)}(h: ∀_:Unit,lv=lv'):apV lv k=apV lv' k:=by rw [h ()]
@[simp] theorem Yb {l:Nat}{k:Nat→Option (GV×aj)}:apV (some l) k=k l:= .trans rfl rfl
def EL (ta:Option (Option Nat×Option Nat×Option Nat))(xs:Option (List (List PV)×aj))(k:Nat→Nat→List (List PV)→aj→Option (GV×aj)):Option (GV×aj):=
 match ta,xs with
 |some (some size,some bytes,zs),some (xs,H)=>
  if zs=some size∧(xs.all fun r=>r.length==size)=true∧0<size∧0<bytes∧bytes≤1048576 then k size bytes xs H else none
 |_,_=>none
@[congr] theorem aaM {ta ta':Option (Option Nat×Option Nat×Option Nat)}{xs xs':Option (List (List PV)×aj)}{k:Nat→Nat→List (List PV)→aj→Option (GV×aj)}(h: ∀_:Unit,ta=ta')(h': ∀_:Unit,xs=xs'):EL ta xs k=EL ta' xs' k:=by rw [h (),h' ()]
@[simp] theorem Ve {size bytes:Nat}{zs:Option Nat}{xs:List (List PV)}{k:Nat→Nat→List (List PV)→aj→Option (GV×aj)}:EL (some (some size,some bytes,zs)) (some (xs,H)) k=
  if zs=some size∧(xs.all fun r=>r.length==size)=true∧0<size∧0<bytes∧bytes≤1048576 then k size bytes xs H else none:= .trans rfl rfl
def yH (l key:Nat)(s:GV)(size bytes:Nat)(xs:List (List PV))(H:aj):Option (GV×aj):=
 match s with
 | .aW=>
  if xs.length*bytes≤1099511627776 then (if xs.isEmpty then some (.aW,H)else rn (kj H l key (.arr size xs 0 false)) fun nm=> .bc nm size xs.length 0 xs.length)else none
 | .bc nm es top lo len=>
  (match H.get nm with
  |some (.arr es' elems vf ro)=>
   if es'=size∧es=size∧top=elems.length∧lo=0∧len=top∧vf≤top∧ro=false∧(len+xs.length)*bytes≤1099511627776 then
    (if xs.isEmpty then some (.bc nm es top lo len,H)else some (.bc nm es (top+xs.length) 0 (top+xs.length),H.set nm (.arr es' (elems++xs) vf false)))
   else if es'=size∧es=size∧top=elems.length∧vf≤top∧ro=false∧lo+len+xs.length≤top then
    (if xs.isEmpty then some (.bc nm es top lo len,H)else some (.bc nm es top lo (len+xs.length),H.set nm (.arr es' (aD elems (lo+len) xs) top false)))
   else none
  |_=>none)
 |_=>none
@[simp] theorem uO {l key size bytes:Nat}{xs:List (List PV)}:yH l key .aW size bytes xs H=
  if xs.length*bytes≤1099511627776 then (if xs.isEmpty then some (.aW,H)else rn (kj H l key (.arr size xs 0 false)) fun nm=> .bc nm size xs.length 0 xs.length)else none:= .trans rfl rfl
def Yc (H:aj)(nm:Nm)(es top lo len size bytes:Nat)(xs:List (List PV))(b:Option dE):Option (GV×aj):=match b with
  |some (.arr es' elems vf ro)=>
   if es'=size∧es=size∧top=elems.length∧lo=0∧len=top∧vf≤top∧ro=false∧(len+xs.length)*bytes≤1099511627776 then
    (if xs.isEmpty then some (.bc nm es top lo len,H)else some (.bc nm es (top+xs.length) 0 (top+xs.length),H.set nm (.arr es' (elems++xs) vf false)))
   else if es'=size∧es=size∧top=elems.length∧vf≤top∧ro=false∧lo+len+xs.length≤top then
    (if xs.isEmpty then some (.bc nm es top lo len,H)else some (.bc nm es top lo (len+xs.length),H.set nm (.arr es' (aD elems (lo+len) xs) top false)))
   else none
  |_=>none
@[congr] theorem abK {nm:Nm}{es top lo len size bytes:Nat}{xs:List (List PV)}{b b':Option dE}(h: ∀_:Unit,b=b'):Yc H nm es top lo len size bytes xs b=Yc H nm es top lo len size bytes xs b':=by rw [h ()]
@[simp] theorem aaN {nm:Nm}{es top lo len size bytes:Nat}{xs:List (List PV)}{es' vf:Nat}{elems:List (List PV)}{ro:Bool}:Yc H nm es top lo len size bytes xs (some (.arr es' elems vf ro))=
      if es'=size∧es=size∧top=elems.length∧lo=0∧len=top∧vf≤top∧ro=false∧(len+xs.length)*bytes≤1099511627776 then
        (if xs.isEmpty then some (.bc nm es top lo len,H)else some (.bc nm es (top+xs.length) 0 (top+xs.length),H.set nm (.arr es' (elems++xs) vf false)))
      else if es'=size∧es=size∧top=elems.length∧vf≤top∧ro=false∧lo+len+xs.length≤top then
        (if xs.isEmpty then some (.bc nm es top lo len,H)else some (.bc nm es top lo (len+xs.length),H.set nm (.arr es' (aD elems (lo+len) xs) top false)))
      else none:= .trans rfl rfl
@[simp] theorem aaO {l key size bytes:Nat}{xs:List (List PV)}{nm:Nm}{es top lo len:Nat}:yH l key (.bc nm es top lo len) size bytes xs H=Yc H nm es top lo len size bytes xs (H.get nm):=by
 unfold yH Yc;rfl
theorem Ab {l key:Nat}{t:TypeId}{a x:GV}:pq K H l key t a x=EL (uN K.P t) (gU H x) (yH l key a):=by
 unfold pq uN
 cases dz K.P t with
 |none=>rfl
 |some e=>
  simp only [Option.map_some]
  cases br K.P e with
  |none=>rfl
  |some size=>
   cases jG K.P e with
   |none=>rfl
   |some bytes=>
    cases gU H x with
    |none=>rfl
    |some y=>
     obtain⟨xs,H1⟩:=y;simp only [EL];by_cases hc:tn K.P e=some size∧(xs.all fun r=>r.length==size)=true∧0<size∧0<bytes∧bytes≤1048576
     ·obtain⟨h1,h2,h3,h4,h5⟩:=hc;simp only [h1,h2,h3,h4,h5,decide_true,Bool.and_self,and_self,if_true];unfold yH
      cases a with
      |aW=>
       simp only;split
       ·split
        ·rfl
        ·cases kj H1 l key (.arr size xs 0 false)<;>rfl
       ·rfl
      |bc nm es top lo len=>rfl
      |_=>rfl
     ·rw [if_neg hc,if_neg];intro h;simp only [Bool.and_eq_true,decide_eq_true_eq]at h;exact hc ⟨h.1.1.1.1,h.1.1.1.2,h.1.1.2,h.1.2,h.2⟩
def apR (r:Option Nat)(x:Option (GV×aj))(y:Nat→Option (GV×aj)):Option (GV×aj):=match r with|none=>x|some key=>y key
@[simp] theorem Yd {x:Option (GV×aj)}{y:Nat→Option (GV×aj)}:apR none x y=x:= .trans rfl rfl
def upX (bn:Option Nm)(k:Nm→Option (GV×aj)):Option (GV×aj):=match bn with|some l=>k l|none=>none
@[congr] theorem abM {lv lv':Option Nm}{k:Nm→Option (GV×aj)}(h: ∀_:Unit,lv=lv'):upX lv k=upX lv' k:=by rw [h ()]
@[simp] theorem Ye {l:Nm}{k:Nm→Option (GV×aj)}:upX (some l) k=k l:= .trans rfl rfl
def upN:GV→Option Nm| .ay nm _=>some nm|_=>none
@[simp] theorem Yf {nm:Nm}{o:Nat}:upN (.ay nm o)=some nm:= .trans rfl rfl
@[simp] theorem Vf {t:Nat}:pQ s (.box t)=upN (look s t):=by
 unfold pQ upN;rfl
@[simp] theorem Q7 {d:Nat}{x y:Operand}{t t2:TypeId}:ez K fn ⟨some d, .call ⟨.builtin .append,#[x,y],#[t,t2]⟩,ty,pos,af,gu⟩ s H=
  if dV K.P (some t2)=true then apR (K.row fn d) (apV (jS H s (K.up fn d)) fun l=>EL (uN K.P t) (gU H (ev s y)) (yH l d (ev s x))) fun key=>upX (pQ s (K.up fn d)) fun bn=>oe K H bn key t (ev s x) (ev s y)else none:=by
 show (if dV K.P (some t2)=true then (match K.row fn d with|none=>(match jS H s (K.up fn d)with|some l=>pq K H l d t (ev s x) (ev s y)|none=>none)|some key=>(match pQ s (K.up fn d)with|some bn=>oe K H bn key t (ev s x) (ev s y)|none=>none))else none)=_
 split
 ·cases K.row fn d with
  |none=>
   simp only [apR]
   cases jS H s (K.up fn d)with
   |none=>rfl
   |some l=>exact Ab
  |some key=>rfl
 ·rfl
@[simp] theorem G5 {n:Nat}:jS H s (.scopes n)=if H.length≤n then none else some (H.length-1-n):= .trans rfl rfl
def upB:GV→Option Nat| .ay nm _=>some nm.1|_=>none
@[simp] theorem Yg {nm:Nm}{o:Nat}:upB (.ay nm o)=some nm.1:= .trans rfl rfl
@[simp] theorem Oi {t:Nat}:jS H s (.box t)=upB (look s t):=by
 unfold jS upB;rfl
@[simp] theorem Q8 {l key:Nat}{b:dE}:kj H l key b=if H.length≤l then none else if (H.get (l,key)).isSome then none else some ((l,key),H.set (l,key) b):=by
 unfold kj;split
 ·rfl
 ·cases H.get (l,key)<;>simp
@[simp] theorem Oj {l:List (List PV)}:gU H (.pure (.slice l))=some (l,H):= .trans rfl rfl
@[simp] theorem Ok {l:List (List GV)}:gU H (.lits l)=some (cU H l):= .trans rfl rfl
def elH (H:aj)(x:PV):Option (List (List PV)×aj):=match x with| .slice l=>some (l,H)|_=>none
@[simp] theorem Vg {l:List (List PV)}:elH H (.slice l)=some (l,H):= .trans rfl rfl
@[simp] theorem Q9 {nm:Nm}{es top lo len:Nat}:gU H (.bc nm es top lo len)=elH H (Yh es top lo len (H.get nm)):=by
 rw [←tq];unfold gU elH;simp only;generalize jT H nm es top lo len=q;cases q<;>rfl
@[simp] theorem JZ:cU H []=([],H):= .trans rfl rfl
def prC (r:List (List GV))(x:List PV×aj):List (List PV)×aj:=(x.1::(cU x.2 r).1,(cU x.2 r).2)
@[congr] theorem abQ {r:List (List GV)}{x y:List PV×aj}(h: ∀_:Unit,x=y):prC r x=prC r y:=by rw [h ()]
@[simp] theorem Yi {r:List (List GV)}{g:List PV}:prC r (g,H)=(g::(cU H r).1,(cU H r).2):= .trans rfl rfl
@[simp] theorem Jr {g:List GV}{r:List (List GV)}:cU H (g::r)=prC r (bN H g):= .trans rfl rfl
@[simp] theorem Vh {t:TypeId}{x:Operand}{lo hi mx:Option Operand}:ez K fn ⟨dst, .slice t x lo hi mx,ty,pos,af,gu⟩ s H=rv H (km K t (ev s x) (lo.map (ev s)) (hi.map (ev s)) (mx.map (ev s))):=by
 simp only [ez,rv];rfl
def slP (es:Option (Option Nat))(a b:Option Nat)(l:List (List PV)):Option GV:=
 match es,a,b with
 |some (some es),some a,some b=>if a≤b∧b≤l.length∧(l.all fun r=>r.length==es)=true then some (.pure (.slice ((l.take b).drop a)))else none
 |_,_,_=>none
@[simp] theorem Yj {es a b:Nat}{l:List (List PV)}:slP (some (some es)) (some a) (some b) l=if a≤b∧b≤l.length∧(l.all fun r=>r.length==es)=true then some (.pure (.slice ((l.take b).drop a)))else none:= .trans rfl rfl
@[simp] theorem Ol {t:TypeId}{l:List (List PV)}{lo hi:Option GV}:km K t (.pure (.slice l)) lo hi none=slP (gG K.P t) (cR lo 0) (cR hi l.length) l:=by
 unfold km slP gG;simp only [Option.isSome_none,Bool.false_eq_true,if_false];generalize cR lo 0=a;generalize cR hi l.length=b;rcases a with _|a<;>rcases b with _|b
 ·cases dz K.P t with
  |none=>rfl
  |some e=>simp only [Option.map_some];cases br K.P e<;>rfl
 ·cases dz K.P t with
  |none=>rfl
  |some e=>simp only [Option.map_some];cases br K.P e<;>rfl
 ·cases dz K.P t with
  |none=>rfl
  |some e=>simp only [Option.map_some];cases br K.P e<;>rfl
 ·cases dz K.P t with
  |none=>rfl
  |some e=>
   simp only [Option.map_some]
   cases br K.P e with
   |none=>simp
   |some es=>
    simp only;by_cases h:a≤b∧b≤l.length
    ·rw [if_pos h];simp only [h.1,h.2,true_and]
    ·rw [if_neg h,if_neg (fun h'=>h ⟨h'.1,h'.2.1⟩)]
def slH (es:Option (Option Nat))(a b:Option Nat)(nm:Nm)(es' top l0 len:Nat):Option GV:=
 match es,a,b with
 |some es,some a,some b=>if a≤b∧(b≤len∨l0+b≤top)∧es=some es' then (if a=b∧0<a then some (.pure (.slice []))else some (.bc nm es' top (l0+a) (b-a)))else none
 |_,_,_=>none
@[simp] theorem Yk {es:Option Nat}{a b:Nat}{nm:Nm}{es' top l0 len:Nat}:slH (some es) (some a) (some b) nm es' top l0 len=if a≤b∧(b≤len∨l0+b≤top)∧es=some es' then (if a=b∧0<a then some (.pure (.slice []))else some (.bc nm es' top (l0+a) (b-a)))else none:= .trans rfl rfl
@[simp] theorem Ra {t:TypeId}{nm:Nm}{es top l0 len:Nat}{lo hi:Option GV}:km K t (.bc nm es top l0 len) lo hi none=slH (gG K.P t) (cR lo 0) (cR hi len) nm es top l0 len:=by
 unfold km slH gG;simp only [Option.isSome_none,Bool.false_eq_true,if_false];generalize cR lo 0=a;generalize cR hi len=b
 cases dz K.P t with
 |none=>cases a<;>cases b<;>rfl
 |some e=>cases a<;>cases b<;>rfl
def slX (es:Option (Option Nat))(a:Option Nat)(b m:Int)(x:GV):Option GV:=
 match es,a with
 |some (some es'),some a=>
  (match x with
  | .aW=>if a=0∧b=0∧m=0 then some .aW else none
  | .pure (.slice _)=>if a=0∧b=0∧m=0 then some .aW else none
  | .bc nm es top l0 len=>
   if a=0∧b=0∧m=0 then some .aW
   else if (a:Int)<b∧b≤m∧m=len∧l0+len=top∧es'=es then some (.bc nm es top (l0+a) (b.toNat-a))else none
  |_=>none)
 |_,_=>none
@[simp] theorem aaR {es' a:Nat}{b m:Int}{nm:Nm}{es top l0 len:Nat}:slX (some (some es')) (some a) b m (.bc nm es top l0 len)=
  if a=0∧b=0∧m=0 then some .aW
  else if (a:Int)<b∧b≤m∧m=len∧l0+len=top∧es'=es then some (.bc nm es top (l0+a) (b.toNat-a))else none:= .trans rfl rfl
@[simp] theorem Rb {t:TypeId}{x:GV}{lo:Option GV}{k k':IntKind}{b m:Int}:km K t x lo (some (.pure (.int k b))) (some (.pure (.int k' m)))=slX (gG K.P t) (cR lo 0) b m x:=by
 unfold km slX gG;simp only [Option.isSome_some,if_true];generalize cR lo 0=a
 cases dz K.P t with
 |none=>cases a<;>rfl
 |some e=>
  simp only [Option.map_some]
  cases a with
  |none=>cases br K.P e<;>rfl
  |some a=>
   simp only
   cases br K.P e with
   |none=>rfl
   |some es=>
    cases x with
    |pure p=>cases p<;>rfl
    |_=>rfl
def EM (e:Option Nat)(z:Option (List PV))(H:aj)(x:GV):Option aj:=
 match e,z,x with
 |some size,some ps, .bc nm es top lo len=>
  (match H.get nm with
  |some (.arr es' elems vf ro)=>if es'=size∧es=size∧ps.length=size∧top=elems.length∧vf≤top∧ro=false∧lo+len≤top∧0<len then some (H.set nm (.arr es' (aD elems lo (List.replicate len ps)) top false))else none
  |_=>none)
 |_,_,_=>none
def G6 (P:Program)(t:TypeId):Option (Option Nat×Option (List PV)):=(dz P t).map fun e=>(br P e,match cw P e with|some z=>(match bB z with|some zs=>bm (zs.map cn)|none=>none)|none=>none)
def G7 (r:Option (Option Nat×Option (List PV)))(H:aj)(x:GV):Option aj:=match r with|some (e,z)=>EM e z H x|none=>none
@[simp] theorem Vi {e:Option Nat}{z:Option (List PV)}{x:GV}:G7 (some (e,z)) H x=EM e z H x:= .trans rfl rfl
def J0 (H:aj)(size:Nat)(ps:List PV)(nm:Nm)(es top lo len:Nat)(b:Option dE):Option aj:=match b with
  |some (.arr es' elems vf ro)=>if es'=size∧es=size∧ps.length=size∧top=elems.length∧vf≤top∧ro=false∧lo+len≤top∧0<len then some (H.set nm (.arr es' (aD elems lo (List.replicate len ps)) top false))else none
  |_=>none
@[congr] theorem aaS {size:Nat}{ps:List PV}{nm:Nm}{es top lo len:Nat}{b b':Option dE}(h: ∀_:Unit,b=b'):J0 H size ps nm es top lo len b=J0 H size ps nm es top lo len b':=by rw [h ()]
@[simp] theorem Yl {size:Nat}{ps:List PV}{nm:Nm}{es top lo len:Nat}{es' vf:Nat}{elems:List (List PV)}{ro:Bool}:J0 H size ps nm es top lo len (some (.arr es' elems vf ro))=
  if es'=size∧es=size∧ps.length=size∧top=elems.length∧vf≤top∧ro=false∧lo+len≤top∧0<len then some (H.set nm (.arr es' (aD elems lo (List.replicate len ps)) top false))else none:= .trans rfl rfl
@[simp] theorem Ym {size:Nat}{ps:List PV}{nm:Nm}{es top lo len:Nat}:EM (some size) (some ps) H (.bc nm es top lo len)=J0 H size ps nm es top lo len (H.get nm):= .trans rfl rfl
theorem Cc {t:TypeId}{x:GV}:sy K t H x=G7 (G6 K.P t) H x:=by
 unfold sy G6
 cases dz K.P t with
 |none=>rfl
 |some e=>
  simp only [Option.map_some,G7]
  cases br K.P e with
  |none=>rfl
  |some size=>
   cases cw K.P e with
   |none=>cases x<;>rfl
   |some z=>
    cases x with
    |bc nm es top lo len=>
     simp only
     cases bB z with
     |none=>rfl
     |some zs=>
      simp only
      cases hg:H.get nm with
      |none=>cases bm (zs.map cn)<;>simp only [EM,hg]
      |some b=>
       cases b with
       |arr es' elems vf ro=>simp only;cases bm (zs.map cn)<;>simp only [EM,hg]
       |_=>cases bm (zs.map cn)<;>simp only [EM,hg]
    |_=>
     simp only;generalize (match bB z with|some zs=>bm (zs.map cn)|none=>none)=ps
     cases ps<;>rfl
@[simp] theorem Vj {x:Operand}{t:TypeId}:ez K fn ⟨dst, .call ⟨.builtin .clear,#[x],#[t]⟩,ty,pos,af,gu⟩ s H=(G7 (G6 K.P t) H (ev s x)).map fun H=>(GV.pure (.tuple []),H):=by
 show (match sy K t H (ev s x)with|some H=>some (GV.pure (.tuple []),H)|none=>none)=_
 rw [Cc];cases G7 (G6 K.P t) H (ev s x)<;>rfl
@[simp] theorem Om {d:Nat}:cR none d=some d:= .trans rfl rfl
@[simp] theorem On {k:IntKind}{i:Int}{d:Nat}:cR (some (.pure (.int k i))) d=if i<0 then none else some i.toNat:= .trans rfl rfl
def wN (P:Program)(t:TypeId):Option (Option Nat×Option (List GV)):=(dz P t).map fun e=>(br P e,qY (cw P e))
def Vk (own:Bool)(d:Nat)(H:aj)(size len:Nat)(cs:List GV)(ps:Option (List PV)):Option (GV×aj):=
 match ps with
 |some ps=>if own then rn (iC H d (.arr size (chunks size len ps) 0 false)) (fun nm=> .bc nm size len 0 len)else some (.pure (.slice (chunks size len ps)),H)
 |none=>if own then rn (iC (bN H cs).2 d (.arr size (chunks size len (bN H cs).1) 0 false)) (fun nm=> .bc nm size len 0 len)else some (.lits (chunks size len cs),H)
def blL (own:Bool)(d:Nat)(H:aj)(size len:Nat)(x:Option (List GV)):Option (GV×aj):=match x with
 |some cs=>if len=0 then some (.aW,H)else Vk own d H size len cs (bm (cs.map cn))
 |none=>none
def blV (own:Bool)(d:Nat)(H:aj)(len:Nat)(ps:List (Nat×GV))(tl:Option (Option Nat×Option (List GV))):Option (GV×aj):=match tl with
 |some (some size,some zs)=>if zs.length=size∧0<size∧len*size≤16777216 then blL own d H size len (eH (fun i=>some (i*size,size)) (List.replicate len zs).flatten ps)else none
 |_=>none
@[simp] theorem J1 {d size len:Nat}{cs:List GV}{ps:List PV}:Vk true d H size len cs (some ps)=rn (iC H d (.arr size (chunks size len ps) 0 false)) (fun nm=> .bc nm size len 0 len):= .trans rfl rfl
@[simp] theorem Yn {d size len:Nat}{cs:List GV}{ps:List PV}:Vk false d H size len cs (some ps)=some (.pure (.slice (chunks size len ps)),H):= .trans rfl rfl
@[simp] theorem Yo {d size len:Nat}{cs:List GV}:Vk false d H size len cs none=some (.lits (chunks size len cs),H):= .trans rfl rfl
@[simp] theorem Ac {d size len:Nat}{cs:List GV}:Vk true d H size len cs none=rn (iC (bN H cs).2 d (.arr size (chunks size len (bN H cs).1) 0 false)) (fun nm=> .bc nm size len 0 len):= .trans rfl rfl
@[simp] theorem Ha {own:Bool}{d size len:Nat}{cs:List GV}:blL own d H size len (some cs)=if len=0 then some (.aW,H)else Vk own d H size len cs (bm (cs.map cn)):= .trans rfl rfl
@[simp] theorem Hb {own:Bool}{d size len:Nat}{zs:List GV}{ps:List (Nat×GV)}:blV own d H len ps (some (some size,some zs))=
  if zs.length=size∧0<size∧len*size≤16777216 then blL own d H size len (eH (fun i=>some (i*size,size)) (List.replicate len zs).flatten ps)else none:= .trans rfl rfl
@[simp] theorem Hc {d:Nat}{t:TypeId}{n:Nat}{ps:Array (Nat×Operand)}:ez K fn ⟨some d, .buildSlice t n ps,ty,pos,af,gu⟩ s H=blV (K.own fn d) d H n (ps.toList.map (uw s)) (wN K.P t):=by
 simp only [ez,wN]
 cases dz K.P t with
 |none=>rfl
 |some e=>
  simp only [Option.map_some]
  cases br K.P e with
  |none=>rfl
  |some size=>
   cases cw K.P e with
   |none=>rfl
   |some z=>
    simp only [kA]
    cases bB z with
    |none=>rfl
    |some zs=>
     simp only [Hb];split
     ·cases eH (fun i=>some (i*size,size)) (List.replicate n zs).flatten (ps.toList.map (uw s))with
      |none=>rfl
      |some cs=>
       simp only [Ha];split
       ·rfl
       ·cases bm (cs.map cn)with
        |none=>
         simp only
         cases K.own fn d with
         |true=>
          simp only [if_true,Ac];cases iC (bN H cs).2 d (.arr size (chunks size n (bN H cs).1) 0 false)<;>rfl
         |false=>rfl
        |some qs=>
         simp only
         cases K.own fn d with
         |true=>
          simp only [if_true,J1];cases iC H d (.arr size (chunks size n qs) 0 false)<;>rfl
         |false=>rfl
     ·rfl
@[simp] theorem Oo {α:Type}{es:Nat}{l:List α}:chunks es 0 l=[]:= .trans rfl rfl
@[simp] theorem Oq {α:Type}{es n:Nat}{l:List α}:chunks es (n+1) l=l.take es::chunks es n (l.drop es):= .trans rfl rfl
def tmk (P:Program)(t:TypeId):Option (Option Nat×Option Nat×Option (List PV)):=(dz P t).map fun e=>(br P e,jG P e,match qY (cw P e)with|some zs=>bm (zs.map cn)|none=>none)
def mkS (d:Nat)(H:aj)(a b:GV)(tm:Option (Option Nat×Option Nat×Option (List PV))):Option (GV×aj):=match tm,a,b with
 |some (some size,some bytes,some ps), .pure (.int _ l), .pure (.int _ c)=>if ps.length=size∧0<size∧0<bytes∧0≤l∧l≤c∧c*bytes≤1099511627776 then
   rn (iC H d (.arr size (List.replicate l.toNat ps) 0 false)) (fun nm=> .bc nm size l.toNat 0 l.toNat)else none
 |_,_,_=>none
@[simp] theorem Hd {d size bytes:Nat}{ps:List PV}{k k':IntKind}{l c:Int}:mkS d H (.pure (.int k l)) (.pure (.int k' c)) (some (some size,some bytes,some ps))=
  if ps.length=size∧0<size∧0<bytes∧0≤l∧l≤c∧c*bytes≤1099511627776 then
   rn (iC H d (.arr size (List.replicate l.toNat ps) 0 false)) (fun nm=> .bc nm size l.toNat 0 l.toNat)else none:= .trans rfl rfl
@[simp] theorem Js {d : Nat} {t : TypeId} {l c : Operand} : ez K fn ⟨some d, .makeSlice t l c, ty, pos, af, gu⟩ s H = mkS d H (ev s l) (ev s c) (tmk K.P t) := by
  simp only [ez, tmk]
  generalize ev s l = a
  generalize ev s c = b
  cases dz K.P t with
  | none => rfl
  | some e =>
    simp only [Option.map_some]
    cases br K.P e with
    | none => rfl
    | some size =>
      cases jG K.P e with
      | none => rfl
      | some bytes =>
        cases cw K.P e with
        | none => rfl
        | some z =>
          simp only [kA]
          cases a with
          | pure p =>
            cases p with
            | int k l =>
              cases b with
              | pure q =>
                cases q with
                | int k' c =>
                  simp only
                  cases bB z with
                  | none => rfl
                  | some zs =>
                    simp only
                    cases bm (zs.map cn) with
                    | none => rfl
                    | some ps =>
                      simp only [Hd]
                      split
                      · cases iC H d (.arr size (List.replicate l.toNat ps) 0 false) <;> rfl
                      · rfl
                | _ => cases bB z <;> try rfl
                       all_goals (rename_i zs; simp only; cases bm (zs.map cn) <;> rfl)
              | _ => cases bB z <;> try rfl
                     all_goals (rename_i zs; simp only; cases bm (zs.map cn) <;> rfl)
            | _ => cases bB z <;> try rfl
                   all_goals (rename_i zs; simp only; cases bm (zs.map cn) <;> rfl)
          | _ => cases bB z <;> try rfl
                 all_goals (rename_i zs; simp only; cases bm (zs.map cn) <;> rfl)
@[simp] theorem Ot {d:Nat}{t:TypeId}:ez K fn ⟨some d, .makeMap t none,ty,pos,af,gu⟩ s H=rn (iC H d (.map [])) .map:=by
 simp only [ez];cases iC H d (.map [])<;>rfl
def Yp (ok:Bool)(z:Option GV)(x:Option (Option (Nat×GV))):Option GV:=match x with
 |some (some (_,v))=>some (if ok then mkTuple [v, .pure (.bool true)]else v)
 |some none=>(match z with|some z=>some (if ok then mkTuple [z, .pure (.bool false)]else z)|none=>none)
 |none=>none
@[simp] theorem aaT {ok:Bool}{z:Option GV}{i:Nat}{v:GV}:Yp ok z (some (some (i,v)))=some (if ok then mkTuple [v, .pure (.bool true)]else v):= .trans rfl rfl
@[simp] theorem Yq {ok:Bool}{z:GV}:Yp ok (some z) (some none)=some (if ok then mkTuple [z, .pure (.bool false)]else z):= .trans rfl rfl
def tmz (P:Program)(t:TypeId):Option (TypeId×Option GV):=(wO P t).map fun x=>(x.1,cw P x.2)
def luK (K:Ctx)(ok:Bool)(tm:Option (TypeId×Option GV))(k:GV)(es:Option (List (PV×GV))):Option GV:=match tm,k,es with
 |some (kt,z), .pure k,some es=>if jn K kt k=false then none else Yp ok z (cI k es 0)
 |_,_,_=>none
@[simp] theorem Yr {K:Ctx}{ok:Bool}{kt:TypeId}{z:Option GV}{k:PV}{es:List (PV×GV)}:luK K ok (some (kt,z)) (.pure k) (some es)=if jn K kt k=false then none else Yp ok z (cI k es 0):= .trans rfl rfl
@[simp] theorem Rc {t:TypeId}{x k:Operand}{ok:Bool}:ez K fn ⟨dst, .lookup t x k ok,ty,pos,af,gu⟩ s H=rv H (luK K ok (tmz K.P t) (ev s k) (mapOf H (ev s x))):=by
 have h:qZ K t H (ev s x) (ev s k) ok=luK K ok (tmz K.P t) (ev s k) (mapOf H (ev s x)):=by
  unfold qZ luK tmz;generalize ev s k=g;generalize mapOf H (ev s x)=m
  cases wO K.P t with
  |none=>rfl
  |some p=>
   obtain⟨kt,e⟩:=p
   cases g with
   |pure q=>
    cases m with
    |none=>rfl
    |some es=>
     simp only [Option.map_some];split
     ·rfl
     ·unfold Yp
      cases cI q es 0 with
      |none=>rfl
      |some y=>cases y<;>rfl
   |_=>cases m<;>rfl
 simp only [ez,h];rfl
def J2 (b:Option dE):Option (List (PV×GV)):=match b with|some (.map es)=>some es|_=>none
@[simp] theorem Ys {es:List (PV×GV)}:J2 (some (.map es))=some es:= .trans rfl rfl
def Yt (nm:Nm)(H:aj)(k:PV)(v:GV)(es:List (PV×GV))(x:Option (Option (Nat×GV))):Option aj:=match x with
 |some (some (i,_))=>some (H.set nm (.map (es.set i (k,v))))
 |some none=>some (H.set nm (.map (es++[(k,v)])))
 |none=>none
@[simp] theorem aaW {nm:Nm}{k:PV}{v v':GV}{es:List (PV×GV)}{i:Nat}:Yt nm H k v es (some (some (i,v')))=some (H.set nm (.map (es.set i (k,v)))):= .trans rfl rfl
@[simp] theorem Yu {nm:Nm}{k:PV}{v:GV}{es:List (PV×GV)}:Yt nm H k v es (some none)=some (H.set nm (.map (es++[(k,v)]))):= .trans rfl rfl
def muK (K:Ctx)(kt:TypeId)(nm:Nm)(k:PV)(x:Option (GV×aj)):Option aj:=match x with
 |some (v',H1)=>(match J2 (H1.get nm)with|some es=>if jn K kt k=false then none else Yt nm H1 k v' es (cI k es 0)|none=>none)
 |none=>none
@[simp] theorem Yv {K:Ctx}{kt:TypeId}{nm:Nm}{k:PV}{v:GV}:muK K kt nm k (some (v,H))=(match J2 (H.get nm)with|some es=>if jn K kt k=false then none else Yt nm H k v es (cI k es 0)|none=>none):= .trans rfl rfl
def Yw (K:Ctx)(tm:Option (TypeId×TypeId))(H:aj)(m k v:GV):Option aj:=match tm,m,k with
 |some (kt,_), .map nm, .pure k=>muK K kt nm k (kS H nm.1 v)
 |_,_,_=>none
@[simp] theorem Jt {t:TypeId}{m k v:Operand}:ez K fn ⟨dst, .mapUpdate t m k v,ty,pos,af,gu⟩ s H=rh (Yw K (wO K.P t) H (ev s m) (ev s k) (ev s v)):=by
 have h:jH K t H (ev s m) (ev s k) (ev s v)=Yw K (wO K.P t) H (ev s m) (ev s k) (ev s v):=by
  unfold jH Yw;generalize ev s m=gm;generalize ev s k=gk
  cases wO K.P t with
  |none=>rfl
  |some p=>
   obtain⟨kt,e⟩:=p
   cases gm with
   |map nm=>
    cases gk with
    |pure q=>
     simp only
     cases kS H nm.1 (ev s v)with
     |none=>rfl
     |some y=>
      obtain⟨v',H1⟩:=y;simp only [muK,J2]
      cases H1.get nm with
      |none=>rfl
      |some b=>
       cases b with
       |map es=>
        simp only;split
        ·rfl
        ·unfold Yt
         cases cI q es 0 with
         |none=>rfl
         |some y=>cases y<;>rfl
       |_=>rfl
    |_=>rfl
   |_=>rfl
 simp only [ez,h];rfl
@[simp] theorem J3 {f:Nat}{a c:Array Operand}:ez K fn ⟨dst, .makeFunc (.func f) a c,ty,pos,af,gu⟩ s H=rv H (some (sA f (a.toList.map (ev s)) (c.toList.map (ev s)))):= .trans rfl rfl
@[simp] theorem Rd {f:Nat}{a:List GV}{g:GV}{c:List GV}:sA f a (g::c)= .func f a (g::c):=by unfold sA;simp
@[simp] theorem aaX {args:Array Operand}{ats:Array TypeId}:ez K fn ⟨dst, .call ⟨.builtin .min,args,ats⟩,ty,pos,af,gu⟩ s H=rv H (im false (args.toList.map (ev s))):=by
 simp only [ez,rv];rfl
@[simp] theorem Ou {mx:Bool}{k:IntKind}{a:Int}:im mx [.pure (.int k a)]=some (.pure (.int k a)):=by
 rw [im]
@[simp] theorem Ov {mx:Bool}{k:IntKind}{a b:Int}{r:List GV}:im mx (.pure (.int k a):: .pure (.int k b)::r)=im mx (.pure (.int k (if mx=true then (if a<b then b else a)else (if b<a then b else a)))::r):=by
 rw [im];simp
def Ad (x:Option GV)(r:Option (List GV)):Option (List GV):=match x,r with|some v,some l=>some (v::l)|_,_=>none
@[simp] theorem Re {v:GV}{l:List GV}:Ad (some v) (some l)=some (v::l):= .trans rfl rfl
def Ae (K:Ctx)(st:bO):List ResultVar→Option (List GV)
 | []=>some []
 | .tmp t::r=>Ad (some (look st.s t)) (Ae K st r)
 | .cell a t::r=>Ad (kv K.P t st.h (look st.s a)) (Ae K st r)
@[simp] theorem Yx {st:bO}:Ae K st []=some []:= .trans rfl rfl
@[simp] theorem He {st:bO}{t:Nat}{r:List ResultVar}:Ae K st (.tmp t::r)=Ad (some (look st.s t)) (Ae K st r):= .trans rfl rfl
@[simp] theorem EN {st:bO}{a:Nat}{t:TypeId}{r:List ResultVar}:Ae K st (.cell a t::r)=Ad (kv K.P t st.h (look st.s a)) (Ae K st r):= .trans rfl rfl
@[simp] theorem J4 {g:Func}{st:bO}:fh K g st=Ae K st g.results.toList:=by
 unfold fh;generalize g.results.toList=l
 induction l with
 |nil=>rfl
 |cons x r ih=>
  cases x with
  |tmp t=>
   simp only [List.mapM_cons,He,←ih];generalize List.mapM (m:=Option) _ r=q;cases q<;>rfl
  |cell a t=>
   simp only [List.mapM_cons,EN,←ih]
   cases kv K.P t st.h (look st.s a)with
   |none=>rfl
   |some v=>
    generalize List.mapM (m:=Option) _ r=q;cases q<;>rfl
@[simp] theorem Cd {id:Nat}{ops:Array Oper}{b:Bool}:aY (.region id ops b)=id+1:= .trans rfl rfl
@[simp] theorem GO {a b:Code}:aY (.seq a b)=if aY a=0 then aY b else aY a:= .trans rfl rfl
theorem aM {α:Type}{x:Option α}{a:α}(h:mm x (fun r=>r=a)):x=some a:=by
 obtain⟨r,h1,h2⟩:=h;rw [h1,h2]
end
end
def abX:List (Nat×Nat×List Nat×List Nat):=[(3,12,[3,4,16,17],[12]),(4,9,[1,2,3,5,11,12,13,14,15],[1,2,3,5,11,12,13,14]),(4,15,[17,18,19,20,21],[10]),(5,9,[12,13,14,15],[8]),(6,10,[3,4,5,6,8,10],[2,3,4,5]),(7,12,[4,5,6,7,8,9,10],[2]),(7,16,[4,5,6,7,8,9,10,11,12],[2,4,5,6,7,8,9,10]),(7,22,[4,5,6,7,8,9,10,11,13,14],[4,5,6,7,8,9,10,11,13]),(8,13,[4,10],[2]),(8,16,[4,10,11],[2,4,10]),(11,6,[0,6,7,8,9,10],[6,7,8,9]),(11,23,[6,7,8,9,18],[6,7,8]),(11,26,[6,7,8,9,18,19],[6,7,8,9,18]),(11,33,[6,7,8,21],[6,7]),(12,4,[0,3,4],[3]),(19,9,[1,2,3,6,9,28,29,30],[3,6,9]),(20,10,[1,2,3,6,9,10,11],[3,6,10]),(21,5,[2,3,5],[2,3,4]),(21,10,[2,3,6],[4]),(22,5,[0,1,5],[4]),(23,5,[2,3,5],[2,3,4]),(23,10,[2,3,6],[4]),(25,4,[1,2,5,6],[1,2,5]),(25,8,[1,2,5,7],[5]),(25,11,[1,2,5,7,8],[1,2,5,7]),(25,18,[1,2,5,7,8,9,10],[1,2,5,7,8]),(25,24,[1,2,5,7,8,9,11],[1,2,5,7,8]),(29,8,[1,2,3,4,8,34,35,36],[1,2,3,4,8,9]),(29,22,[3,4,8,14,15,16,17,90,91,92],[3,4,8,14,16,17]),(29,28,[3,4,8,17,109,110,111],[4,8,17]),(30,8,[1,2,3,4,8,10,12],[1,2,3,4,8,9,10]),(31,5,[0,1,5],[4]),(33,5,[0,3,4,5],[3,4]),(35,7,[3,10,11],[3,10]),(35,17,[10,12,13],[6,7]),(36,6,[1,24,25],[2,3,4]),(36,9,[1,8,24,25,29,30,31],[1,2,3,4,24,25]),(37,6,[1,8],[2,3,4]),(37,9,[1,8,9],[1,2,3,4,8]),(38,5,[1,2,3,4],[1,2,3]),(38,9,[1,2,3,5],[1,2,3]),(38,14,[1,2,3,6,7],[1,2,3,6]),(38,19,[1,2,3,8],[1,2]),(39,6,[2,3,5,6],[2,3,4,5]),(39,11,[2,3,5,6,7],[2,3,4,5,6]),(39,19,[2,3,5,9],[4]),(40,4,[1,2,4,5],[1,2,4]),(40,8,[1,2,4,6],[2,4]),(41,13,[3,4,9,11,13,14,15,16],[8]),(42,3,[0,1,5],[4]),(43,4,[1,2,3,4,5,11,12],[1,2,5,11]),(44,3,[0,1,5],[4]),(47,5,[0,4,5,6,7],[0,4,5]),(47,9,[0,4,5,8],[0,4,5]),(47,16,[0,4,5,10],[4,5]),(48,4,[1,2,3,4],[1,2,3]),(48,8,[1,2,3,5],[2,3]),(49,5,[0,5,6,8,10,11,12],[0,8,10]),(57,8,[1,17,18,19],[2]),(68,5,[0,1,5],[4]),(70,11,[7,8,9],[7]),(72,14,[9,10,11,12],[10,11]),(74,5,[3,8,9],[8,9]),(77,4,[0,1,2,7,8],[0,1,2,7,8]),(77,8,[0,1,2,7,8,9],[0,2,7,8]),(77,13,[0,2,7,8],[7]),(79,12,[12,16,17,51],[6,7]),(80,4,[2,3,4,9,10],[6,7,8,9]),(80,6,[2,3,4,9,10,11],[2,3,4,9,10,11]),(80,11,[2,3,4,9,11,12,13,14],[2,3,4,6,7,8,9,11,12]),(80,17,[2,3,4,9,11,12,13,14,15,16],[2,3,4,6,7,8,9,11,12,13,14,15]),(81,6,[0,2,3,5,13],[8,9]),(83,4,[0,1,5,6],[5]),(84,6,[3,4,5,9],[3,4,5,6]),(85,3,[1,2,5],[4]),(89,10,[1,30,31,32],[1,2]),(89,17,[1,4,30,31,32,51,52,53],[1,2,30,31,32]),(89,26,[1,69,70,71],[1,2]),(92,4,[1,2,3,11,12,13],[1,2,3]),(92,10,[2,3,36,37,38],[2,3]),(93,4,[1,2,3,6,9],[3,6,7,8]),(93,6,[1,2,3,6,9,10],[1,2,3,6,9,10]),(94,3,[1,9,10,11],[1,2]),(94,9,[1,21,22,23],[2]),(95,7,[1,3],[2]),(95,15,[1,3,4,5],[1,2,3]),(96,5,[1,3],[1,2]),(96,13,[1,5],[1,2]),(96,20,[1,6],[2]),(97,5,[1,3],[2]),(97,15,[1,3,4,5],[1,2,3,4]),(98,3,[2,3,5],[2,3,4]),(98,8,[2,3,6],[4]),(104,3,[1,2,4,5],[2,4,5]),(110,4,[1,2,3,6,7,8],[1,6,7]),(111,4,[0,3,4],[3]),(111,7,[0,3,4,5],[0,3,4,5]),(111,11,[0,3,4,5,6],[0,3,4,5]),(118,5,[2,4,7,8,19,20,21],[4,5,6,7]),(118,11,[2,4,7,8,9,10,11,19,20,21,35,36,37],[2,4,5,6,7,8,10,11,19,20,21]),(118,17,[2,4,7,8,10,19,20,21,47,48,49],[2,4,7,8,10,19,20,21]),(122,3,[0,1,5],[4]),(122,6,[0,1,5,6],[0,1,4,5]),(123,3,[0,1,2,9,10,11],[6]),(126,3,[0,1,7,8],[4]),(128,3,[0,1,2,6,7,8],[0,1,2,6,7]),(128,8,[0,1,2,6],[]),(128,10,[0,1,2,6,7,8],[0,1,2,6,7]),(131,3,[0,1,7,8],[4]),(132,4,[1,2,4,5],[]),(132,8,[1,2,4,5,18,19],[1,2,4,5]),(132,13,[1,2,4,5,30],[1,2,4,5]),(132,20,[1,2,4,5,8,30,47,48],[1,2,4,5,30]),(132,26,[1,2,4,5,8,30,62,63],[1,2,4,5,30]),(151,2,[0,1,2,3,8],[]),(151,5,[0,1,2,3,8,9],[0,1,2,3,8]),(152,4,[0,1,4,10,11],[0,1,10]),(152,10,[0,10,13],[]),(152,16,[0,2,4,14,15],[0,2,14]),(152,22,[0,14,17],[]),(152,34,[0,1,2,3,4,18,19,20,21,22],[0,1,2,3,4,18,19,20]),(158,3,[0,2,4,10,11],[0,2,4,10]),(159,2,[0,1,2,3,10],[])]
def upT:List (Nat×Nat×Up):=[(4,78, .scopes 1),(4,112, .scopes 0),(11,62, .box 7),(11,102, .box 7),(11,140, .box 7),(13,6, .scopes 0),(13,10, .scopes 0),(13,22, .scopes 0),(19,56, .scopes 1),(20,66, .scopes 1),(25,26, .scopes 1),(25,43, .scopes 2),(25,58, .scopes 3),(25,76, .scopes 3),(29,105, .scopes 1),(29,124, .scopes 1),(33,24, .box 3),(35,89, .box 10),(38,87, .scopes 1),(43,33, .scopes 1),(46,10, .scopes 0),(46,16, .scopes 0),(47,46, .box 5),(47,83, .box 5),(47,96, .box 5),(48,22, .box 3),(48,27, .box 3),(48,53, .box 3),(49,35, .scopes 1),(49,52, .scopes 1),(50,6, .scopes 0),(50,10, .scopes 0),(50,14, .scopes 0),(56,5, .scopes 0),(61,27, .scopes 0),(62,8, .box 1),(67,8, .scopes 0),(67,12, .scopes 0),(67,18, .scopes 0),(67,22, .scopes 0),(67,27, .scopes 0),(72,23, .scopes 0),(72,30, .scopes 0),(72,48, .scopes 0),(72,58, .scopes 0),(72,83, .scopes 0),(75,7, .scopes 0),(77,31, .scopes 1),(77,52, .scopes 1),(77,72, .scopes 1),(80,80, .scopes 1),(80,92, .scopes 1),(81,78, .scopes 0),(81,87, .scopes 0),(83,20, .scopes 1),(88,61, .box 5),(92,23, .box 3),(92,31, .box 3),(92,51, .box 3),(99,7, .scopes 0),(100,7, .scopes 0),(101,7, .scopes 0),(102,7, .scopes 0),(103,7, .scopes 0),(109,26, .scopes 0),(111,36, .scopes 1),(116,64, .scopes 0),(134,27, .scopes 0),(134,35, .scopes 0),(134,43, .scopes 0),(134,53, .scopes 0),(134,60, .scopes 0)]
def Yy (f r:Nat):Option (List Nat×List Nat):=(abX.find? fun x=>x.1==f && x.2.1==r).map fun x=>x.2.2
def abY (f d:Nat):Up:=((upT.find? fun x=>x.1==f && x.2.1==d).map fun x=>x.2.2).getD (.scopes 0)
def Yz:List (Nat×Nat×List (Nat×Nat)):=[(3,7,[(13,7),(13,11)]),(4,12,[(10,0),(10,1),(10,2)]),(4,16,[(9,4)]),(5,6,[(9,0),(9,1),(9,2),(12,9),(13,9),(14,0),(14,1),(14,2),(18,0),(18,1),(18,2)]),(6,11,[(22,18)]),(11,20,[(4,0)]),(11,34,[(20,4)]),(13,1,[(6,3)]),(13,2,[(4,2),(8,2),(8,5)]),(27,4,[(4,0)]),(28,4,[(5,0)]),(30,17,[(5,0),(6,5),(9,0),(11,0)]),(35,4,[(14,0),(14,2),(14,6),(15,14),(19,0),(19,2),(19,6),(20,14),(20,19),(23,0),(23,2),(23,6)]),(38,10,[(24,4)]),(46,2,[(7,5)]),(47,6,[(3,1),(6,3),(7,3),(9,3)]),(47,10,[(6,1),(11,1),(11,9),(13,1),(13,9)]),(48,5,[(11,9)]),(50,1,[(6,3),(10,3),(10,7)]),(51,6,[(14,7),(14,9)]),(51,8,[(17,7)]),(51,10,[(7,1),(7,3),(9,7),(11,7),(13,7),(17,9),(17,11),(17,13)]),(53,1,[(3,2),(4,2)]),(58,1,[(3,1)]),(58,3,[(4,2),(4,3)]),(62,1,[(2,0)]),(63,1,[(6,3),(10,3),(10,7)]),(65,1,[(4,2),(7,2),(7,5),(10,2),(10,5),(10,8)]),(67,1,[(6,3)]),(67,2,[(6,3)]),(70,5,[(6,2)]),(72,7,[(4,0),(5,4)]),(79,1,[(5,3),(9,3),(12,5),(12,9)]),(79,3,[(2,1),(3,1)]),(81,2,[(13,3)]),(81,10,[(4,1),(8,4),(11,4),(13,1)]),(104,4,[(3,1)]),(105,1,[(4,2),(5,2)]),(116,10,[(8,5),(8,6),(9,8),(11,5),(11,6),(12,8),(12,11)]),(118,20,[(4,2),(5,2)]),(140,1,[(5,2),(8,5),(10,5),(12,5)]),(142,1,[(8,2),(8,4),(9,8),(10,8),(11,2),(11,4)]),(143,1,[(10,7)]),(144,1,[(5,2)]),(145,1,[(14,11),(21,18),(29,26),(37,34)]),(146,1,[(5,2)]),(146,2,[(5,2)]),(147,1,[(8,5)]),(148,1,[(5,2)]),(149,1,[(8,5)]),(150,1,[(5,2)])]
def au (f r:Nat):List (Nat×Nat):=((Yz.find? fun x=>x.1==f && x.2.1==r).map fun x=>x.2.2).getD []
def xh:Nat→Option (List SK)
 |29=>some [.int .i64, .int .i64, .int .i64, .int .i64, .int .i64, .int .i64, .int .i64, .int .i64, .int .i64]
 |74=>some [.int .i64, .int .i64]
 |84=>some [.int .i64, .int .i64]
 |86=>some [.int .i64, .int .i64, .int .i64, .int .i64, .bool]
 |105=>some [.int .i64, .int .i64]
 |170=>some [.int .i64, .int .i64]
 |_=>none
@[simp] theorem YA:xh 74=some [.int .i64, .int .i64]:= .trans rfl rfl
@[simp] theorem YB:xh 84=some [.int .i64, .int .i64]:= .trans rfl rfl
def Hg:List Nat:=[13,12,47,48,50,63,45,46,99,100,101,102,103,75]
def abZ:List Nat:=[17,15,34,25,88,134,79,93,58,118,16,18,61,80,20,67,27,29,28,30,71,72,77,111,70,104,110,78,19,65,33,38,40,35,81,13,116]
def ab0:List Nat:=[48,9,14,57,60,23,39,21,22,31,49,53,89,64,73,66,95,96,97,68,44,36,84,85,87,112,113,76,94,115,69,120,121,122,130,82,74,105,153,154,135,137,139,141,143,145,147,149,131,155,156,157,98]
def J5:List Nat:=[99,100,101,102,103,75]
def Rf:List (Nat×Nat):=[(134,9),(88,10),(45,3),(45,6),(45,7),(45,8),(45,14),(61,25)]
def ab1:List (Nat×Nat):=[(11,6)]
def Ce (f d:Nat):Option Nat:=if f=11∧d=54 then some 8 else none
def rowOf (_ _:Nat):Option Nat:=none
noncomputable def J6 (cl:List Nat):Ctx:={P:=Tryz.prog,Hh:=fun f=>Hg.contains f,ik:=Yy,up:=abY,own:=fun f d=>Rf.contains (f,d),EO:=fun f=>abZ.contains f,Af:=fun f=>ab0.contains f,il:=fun f r=>ab1.contains (f,r),wP:=fun f=>cl.contains f,lift:=Ce,row:=rowOf,eqs:=xh}
noncomputable def KC:Ctx:=J6 J5
section
@[simp] theorem EP:KC.P=Tryz.prog:= .trans rfl rfl
@[simp] theorem ab2 {f d:Nat}:KC.own f d=Rf.contains (f,d):= .trans rfl rfl
@[simp] theorem aaY {f d:Nat}:KC.lift f d=Ce f d:= .trans rfl rfl
@[simp] theorem ab3 {f d:Nat}:KC.row f d=rowOf f d:= .trans rfl rfl
attribute [simp] Ce Rf rowOf
@[simp] theorem Ow:KC.ik 8 13=some ([4,10],[2]):=by kernel_rfl
@[simp] theorem Ox:KC.il 8 13=false:=by kernel_rfl
@[simp] theorem Oy:KC.ik 8 16=some ([4,10,11],[2,4,10]):=by kernel_rfl
@[simp] theorem Oz:KC.il 8 16=false:=by kernel_rfl
@[simp] theorem OA:KC.ik 11 6=some ([0,6,7,8,9,10],[6,7,8,9]):=by kernel_rfl
@[simp] theorem OB:KC.il 11 6=true:=by kernel_rfl
@[simp] theorem J7:KC.ik 11 23=some ([6,7,8,9,18],[6,7,8]):=by kernel_rfl
@[simp] theorem J8:KC.il 11 23=false:=by kernel_rfl
@[simp] theorem J9:KC.ik 11 26=some ([6,7,8,9,18,19],[6,7,8,9,18]):=by kernel_rfl
@[simp] theorem Ka:KC.il 11 26=false:=by kernel_rfl
@[simp] theorem Kb:KC.ik 11 33=some ([6,7,8,21],[6,7]):=by kernel_rfl
@[simp] theorem Kc:KC.il 11 33=false:=by kernel_rfl
@[simp] theorem OC:KC.ik 12 4=some ([0,3,4],[3]):=by kernel_rfl
@[simp] theorem OD:KC.il 12 4=false:=by kernel_rfl
@[simp] theorem OE:KC.ik 25 4=some ([1,2,5,6],[1,2,5]):=by kernel_rfl
@[simp] theorem OG:KC.il 25 4=false:=by kernel_rfl
@[simp] theorem OH:KC.ik 25 8=some ([1,2,5,7],[5]):=by kernel_rfl
@[simp] theorem OI:KC.il 25 8=false:=by kernel_rfl
@[simp] theorem Kd:KC.ik 25 11=some ([1,2,5,7,8],[1,2,5,7]):=by kernel_rfl
@[simp] theorem Ke:KC.il 25 11=false:=by kernel_rfl
@[simp] theorem Kf:KC.ik 25 18=some ([1,2,5,7,8,9,10],[1,2,5,7,8]):=by kernel_rfl
@[simp] theorem Kg:KC.il 25 18=false:=by kernel_rfl
@[simp] theorem Kh:KC.ik 25 24=some ([1,2,5,7,8,9,11],[1,2,5,7,8]):=by kernel_rfl
@[simp] theorem Ki:KC.il 25 24=false:=by kernel_rfl
@[simp] theorem OJ:KC.ik 29 8=some ([1,2,3,4,8,34,35,36],[1,2,3,4,8,9]):=by kernel_rfl
@[simp] theorem OK:KC.il 29 8=false:=by kernel_rfl
@[simp] theorem Kj:KC.ik 29 22=some ([3,4,8,14,15,16,17,90,91,92],[3,4,8,14,16,17]):=by kernel_rfl
@[simp] theorem Kk:KC.il 29 22=false:=by kernel_rfl
@[simp] theorem Kl:KC.ik 29 28=some ([3,4,8,17,109,110,111],[4,8,17]):=by kernel_rfl
@[simp] theorem Km:KC.il 29 28=false:=by kernel_rfl
@[simp] theorem OL:KC.ik 33 5=some ([0,3,4,5],[3,4]):=by kernel_rfl
@[simp] theorem OM:KC.il 33 5=false:=by kernel_rfl
@[simp] theorem ON:KC.ik 36 6=some ([1,24,25],[2,3,4]):=by kernel_rfl
@[simp] theorem OO:KC.il 36 6=false:=by kernel_rfl
@[simp] theorem OP:KC.ik 36 9=some ([1,8,24,25,29,30,31],[1,2,3,4,24,25]):=by kernel_rfl
@[simp] theorem OQ:KC.il 36 9=false:=by kernel_rfl
@[simp] theorem OS:KC.ik 39 6=some ([2,3,5,6],[2,3,4,5]):=by kernel_rfl
@[simp] theorem OT:KC.il 39 6=false:=by kernel_rfl
@[simp] theorem Ko:KC.ik 39 11=some ([2,3,5,6,7],[2,3,4,5,6]):=by kernel_rfl
@[simp] theorem Kp:KC.il 39 11=false:=by kernel_rfl
@[simp] theorem Kq:KC.ik 39 19=some ([2,3,5,9],[4]):=by kernel_rfl
@[simp] theorem Kr:KC.il 39 19=false:=by kernel_rfl
@[simp] theorem Ks:KC.ik 41 13=some ([3,4,9,11,13,14,15,16],[8]):=by kernel_rfl
@[simp] theorem Kt:KC.il 41 13=false:=by kernel_rfl
@[simp] theorem OU:KC.ik 44 3=some ([0,1,5],[4]):=by kernel_rfl
@[simp] theorem OV:KC.il 44 3=false:=by kernel_rfl
@[simp] theorem OX:KC.ik 47 5=some ([0,4,5,6,7],[0,4,5]):=by kernel_rfl
@[simp] theorem OY:KC.il 47 5=false:=by kernel_rfl
@[simp] theorem OZ:KC.ik 47 9=some ([0,4,5,8],[0,4,5]):=by kernel_rfl
@[simp] theorem O0:KC.il 47 9=false:=by kernel_rfl
@[simp] theorem Ku:KC.ik 47 16=some ([0,4,5,10],[4,5]):=by kernel_rfl
@[simp] theorem Kv:KC.il 47 16=false:=by kernel_rfl
@[simp] theorem O1:KC.ik 48 4=some ([1,2,3,4],[1,2,3]):=by kernel_rfl
@[simp] theorem O2:KC.il 48 4=false:=by kernel_rfl
@[simp] theorem O3:KC.ik 48 8=some ([1,2,3,5],[2,3]):=by kernel_rfl
@[simp] theorem O4:KC.il 48 8=false:=by kernel_rfl
@[simp] theorem O5:KC.ik 49 5=some ([0,5,6,8,10,11,12],[0,8,10]):=by kernel_rfl
@[simp] theorem O6:KC.il 49 5=false:=by kernel_rfl
@[simp] theorem O7:KC.ik 57 8=some ([1,17,18,19],[2]):=by kernel_rfl
@[simp] theorem O8:KC.il 57 8=false:=by kernel_rfl
@[simp] theorem Kw:KC.ik 70 11=some ([7,8,9],[7]):=by kernel_rfl
@[simp] theorem Kx:KC.il 70 11=false:=by kernel_rfl
@[simp] theorem O9:KC.ik 74 5=some ([3,8,9],[8,9]):=by kernel_rfl
@[simp] theorem Pa:KC.il 74 5=false:=by kernel_rfl
@[simp] theorem Ky:KC.ik 79 12=some ([12,16,17,51],[6,7]):=by kernel_rfl
@[simp] theorem Kz:KC.il 79 12=false:=by kernel_rfl
@[simp] theorem Pb:KC.ik 83 4=some ([0,1,5,6],[5]):=by kernel_rfl
@[simp] theorem Pc:KC.il 83 4=false:=by kernel_rfl
@[simp] theorem Pd:KC.ik 84 6=some ([3,4,5,9],[3,4,5,6]):=by kernel_rfl
@[simp] theorem Pe:KC.il 84 6=false:=by kernel_rfl
@[simp] theorem Pf:KC.ik 85 3=some ([1,2,5],[4]):=by kernel_rfl
@[simp] theorem Pg:KC.il 85 3=false:=by kernel_rfl
@[simp] theorem KA:KC.ik 89 10=some ([1,30,31,32],[1,2]):=by kernel_rfl
@[simp] theorem KB:KC.il 89 10=false:=by kernel_rfl
@[simp] theorem KD:KC.ik 89 17=some ([1,4,30,31,32,51,52,53],[1,2,30,31,32]):=by kernel_rfl
@[simp] theorem KE:KC.il 89 17=false:=by kernel_rfl
@[simp] theorem KF:KC.ik 89 26=some ([1,69,70,71],[1,2]):=by kernel_rfl
@[simp] theorem KG:KC.il 89 26=false:=by kernel_rfl
@[simp] theorem Ph:KC.ik 92 4=some ([1,2,3,11,12,13],[1,2,3]):=by kernel_rfl
@[simp] theorem Pj:KC.il 92 4=false:=by kernel_rfl
@[simp] theorem KH:KC.ik 92 10=some ([2,3,36,37,38],[2,3]):=by kernel_rfl
@[simp] theorem KI:KC.il 92 10=false:=by kernel_rfl
@[simp] theorem Pk:KC.ik 93 4=some ([1,2,3,6,9],[3,6,7,8]):=by kernel_rfl
@[simp] theorem Pl:KC.il 93 4=false:=by kernel_rfl
@[simp] theorem Pm:KC.ik 93 6=some ([1,2,3,6,9,10],[1,2,3,6,9,10]):=by kernel_rfl
@[simp] theorem Pn:KC.il 93 6=false:=by kernel_rfl
@[simp] theorem Po:KC.ik 94 3=some ([1,9,10,11],[1,2]):=by kernel_rfl
@[simp] theorem Pp:KC.il 94 3=false:=by kernel_rfl
@[simp] theorem Pq:KC.ik 94 9=some ([1,21,22,23],[2]):=by kernel_rfl
@[simp] theorem Pr:KC.il 94 9=false:=by kernel_rfl
@[simp] theorem KJ:KC.ik 104 3=some ([1,2,4,5],[2,4,5]):=by kernel_rfl
@[simp] theorem KL:KC.il 104 3=false:=by kernel_rfl
@[simp] theorem KM:KC.ik 118 5=some ([2,4,7,8,19,20,21],[4,5,6,7]):=by kernel_rfl
@[simp] theorem KN:KC.il 118 5=false:=by kernel_rfl
@[simp] theorem Ju:KC.ik 118 11=some ([2,4,7,8,9,10,11,19,20,21,35,36,37],[2,4,5,6,7,8,10,11,19,20,21]):=by kernel_rfl
@[simp] theorem Jv:KC.il 118 11=false:=by kernel_rfl
@[simp] theorem Jw:KC.ik 118 17=some ([2,4,7,8,10,19,20,21,47,48,49],[2,4,7,8,10,19,20,21]):=by kernel_rfl
@[simp] theorem Jx:KC.il 118 17=false:=by kernel_rfl
@[simp] theorem KO:KC.ik 122 3=some ([0,1,5],[4]):=by kernel_rfl
@[simp] theorem KP:KC.il 122 3=false:=by kernel_rfl
@[simp] theorem KQ:KC.ik 122 6=some ([0,1,5,6],[0,1,4,5]):=by kernel_rfl
@[simp] theorem KR:KC.il 122 6=false:=by kernel_rfl
@[simp] theorem KS:KC.ik 123 3=some ([0,1,2,9,10,11],[6]):=by kernel_rfl
@[simp] theorem KT:KC.il 123 3=false:=by kernel_rfl
@[simp] theorem KU:KC.ik 126 3=some ([0,1,7,8],[4]):=by kernel_rfl
@[simp] theorem KV:KC.il 126 3=false:=by kernel_rfl
@[simp] theorem KW:KC.ik 128 3=some ([0,1,2,6,7,8],[0,1,2,6,7]):=by kernel_rfl
@[simp] theorem KX:KC.il 128 3=false:=by kernel_rfl
@[simp] theorem KY:KC.ik 128 8=some ([0,1,2,6],[]):=by kernel_rfl
@[simp] theorem KZ:KC.il 128 8=false:=by kernel_rfl
@[simp] theorem K0:KC.ik 131 3=some ([0,1,7,8],[4]):=by kernel_rfl
@[simp] theorem K3:KC.il 131 3=false:=by kernel_rfl
@[simp] theorem K4:KC.ik 132 4=some ([1,2,4,5],[]):=by kernel_rfl
@[simp] theorem K5:KC.il 132 4=false:=by kernel_rfl
@[simp] theorem K6:KC.ik 132 8=some ([1,2,4,5,18,19],[1,2,4,5]):=by kernel_rfl
@[simp] theorem K7:KC.il 132 8=false:=by kernel_rfl
@[simp] theorem Jy:KC.ik 132 13=some ([1,2,4,5,30],[1,2,4,5]):=by kernel_rfl
@[simp] theorem Jz:KC.il 132 13=false:=by kernel_rfl
@[simp] theorem JA:KC.ik 132 20=some ([1,2,4,5,8,30,47,48],[1,2,4,5,30]):=by kernel_rfl
@[simp] theorem JB:KC.il 132 20=false:=by kernel_rfl
@[simp] theorem JC:KC.ik 132 26=some ([1,2,4,5,8,30,62,63],[1,2,4,5,30]):=by kernel_rfl
@[simp] theorem JD:KC.il 132 26=false:=by kernel_rfl
@[simp] theorem K8:KC.ik 151 2=some ([0,1,2,3,8],[]):=by kernel_rfl
@[simp] theorem K9:KC.il 151 2=false:=by kernel_rfl
@[simp] theorem La:KC.ik 151 5=some ([0,1,2,3,8,9],[0,1,2,3,8]):=by kernel_rfl
@[simp] theorem Lb:KC.il 151 5=false:=by kernel_rfl
@[simp] theorem Ps:KC.up 11 62= .box 7:=by kernel_rfl
@[simp] theorem Lc:KC.up 11 102= .box 7:=by kernel_rfl
@[simp] theorem Ld:KC.up 11 140= .box 7:=by kernel_rfl
@[simp] theorem Rg:KC.up 13 6= .scopes 0:=by kernel_rfl
@[simp] theorem Pt:KC.up 13 10= .scopes 0:=by kernel_rfl
@[simp] theorem Pu:KC.up 13 22= .scopes 0:=by kernel_rfl
@[simp] theorem Pv:KC.up 25 26= .scopes 1:=by kernel_rfl
@[simp] theorem Pw:KC.up 25 43= .scopes 2:=by kernel_rfl
@[simp] theorem Px:KC.up 25 58= .scopes 3:=by kernel_rfl
@[simp] theorem Py:KC.up 25 76= .scopes 3:=by kernel_rfl
@[simp] theorem Le:KC.up 29 105= .scopes 1:=by kernel_rfl
@[simp] theorem Lf:KC.up 29 124= .scopes 1:=by kernel_rfl
@[simp] theorem Pz:KC.up 33 24= .box 3:=by kernel_rfl
@[simp] theorem PA:KC.up 47 46= .box 5:=by kernel_rfl
@[simp] theorem PB:KC.up 47 83= .box 5:=by kernel_rfl
@[simp] theorem PC:KC.up 47 96= .box 5:=by kernel_rfl
@[simp] theorem PD:KC.up 48 22= .box 3:=by kernel_rfl
@[simp] theorem PE:KC.up 48 27= .box 3:=by kernel_rfl
@[simp] theorem PF:KC.up 48 53= .box 3:=by kernel_rfl
@[simp] theorem PH:KC.up 49 35= .scopes 1:=by kernel_rfl
@[simp] theorem PI:KC.up 49 52= .scopes 1:=by kernel_rfl
@[simp] theorem Rh:KC.up 50 6= .scopes 0:=by kernel_rfl
@[simp] theorem PJ:KC.up 50 10= .scopes 0:=by kernel_rfl
@[simp] theorem PK:KC.up 50 14= .scopes 0:=by kernel_rfl
@[simp] theorem Ri:KC.up 56 5= .scopes 0:=by kernel_rfl
@[simp] theorem Rj:KC.up 62 8= .box 1:=by kernel_rfl
@[simp] theorem Rk:KC.up 75 7= .scopes 0:=by kernel_rfl
@[simp] theorem PL:KC.up 83 20= .scopes 1:=by kernel_rfl
@[simp] theorem PM:KC.up 88 61= .box 5:=by kernel_rfl
@[simp] theorem PN:KC.up 92 23= .box 3:=by kernel_rfl
@[simp] theorem PO:KC.up 92 31= .box 3:=by kernel_rfl
@[simp] theorem PQ:KC.up 92 51= .box 3:=by kernel_rfl
@[simp] theorem Rl:KC.up 99 7= .scopes 0:=by kernel_rfl
@[simp] theorem PR:KC.up 100 7= .scopes 0:=by kernel_rfl
@[simp] theorem PS:KC.up 101 7= .scopes 0:=by kernel_rfl
@[simp] theorem PT:KC.up 102 7= .scopes 0:=by kernel_rfl
@[simp] theorem PU:KC.up 103 7= .scopes 0:=by kernel_rfl
@[simp] theorem Lg:KC.up 109 26= .scopes 0:=by kernel_rfl
@[simp] theorem Lh:KC.up 116 64= .scopes 0:=by kernel_rfl
@[simp] theorem Li:KC.up 134 27= .scopes 0:=by kernel_rfl
@[simp] theorem Lj:KC.up 134 35= .scopes 0:=by kernel_rfl
@[simp] theorem Lk:KC.up 134 43= .scopes 0:=by kernel_rfl
@[simp] theorem Ll:KC.up 134 53= .scopes 0:=by kernel_rfl
@[simp] theorem Lm:KC.up 134 60= .scopes 0:=by kernel_rfl
@[simp] theorem Vl:au 8 18=[]:=by kernel_rfl
@[simp] theorem Vm:au 8 19=[]:=by kernel_rfl
@[simp] theorem Rm:au 11 20=[(4,0)]:=by kernel_rfl
@[simp] theorem Rn:au 11 34=[(20,4)]:=by kernel_rfl
@[simp] theorem Vn:au 12 5=[]:=by kernel_rfl
@[simp] theorem Vo:au 13 1=[(6,3)]:=by kernel_rfl
@[simp] theorem Vp:au 13 2=[(4,2),(8,2),(8,5)]:=by kernel_rfl
@[simp] theorem Vq:au 29 9=[]:=by kernel_rfl
@[simp] theorem Vr:au 39 7=[]:=by kernel_rfl
@[simp] theorem Ro:au 41 10=[]:=by kernel_rfl
@[simp] theorem Rp:au 41 14=[]:=by kernel_rfl
@[simp] theorem Rq:au 41 17=[]:=by kernel_rfl
@[simp] theorem Vs:au 47 6=[(3,1),(6,3),(7,3),(9,3)]:=by kernel_rfl
@[simp] theorem Rr:au 47 10=[(6,1),(11,1),(11,9),(13,1),(13,9)]:=by kernel_rfl
@[simp] theorem Vt:au 48 5=[(11,9)]:=by kernel_rfl
@[simp] theorem Vu:au 48 9=[]:=by kernel_rfl
@[simp] theorem Vv:au 49 6=[]:=by kernel_rfl
@[simp] theorem Vw:au 49 9=[]:=by kernel_rfl
@[simp] theorem Vx:au 50 1=[(6,3),(10,3),(10,7)]:=by kernel_rfl
@[simp] theorem Vy:au 51 1=[]:=by kernel_rfl
@[simp] theorem Vz:au 51 6=[(14,7),(14,9)]:=by kernel_rfl
@[simp] theorem VA:au 51 8=[(17,7)]:=by kernel_rfl
@[simp] theorem Rs:au 51 10=[(7,1),(7,3),(9,7),(11,7),(13,7),(17,9),(17,11),(17,13)]:=by kernel_rfl
@[simp] theorem VB:au 53 1=[(3,2),(4,2)]:=by kernel_rfl
@[simp] theorem Rt:au 57 11=[]:=by kernel_rfl
@[simp] theorem VC:au 58 1=[(3,1)]:=by kernel_rfl
@[simp] theorem VD:au 58 3=[(4,2),(4,3)]:=by kernel_rfl
@[simp] theorem VE:au 62 1=[(2,0)]:=by kernel_rfl
@[simp] theorem VF:au 63 1=[(6,3),(10,3),(10,7)]:=by kernel_rfl
@[simp] theorem VG:au 65 1=[(4,2),(7,2),(7,5),(10,2),(10,5),(10,8)]:=by kernel_rfl
@[simp] theorem VH:au 70 5=[(6,2)]:=by kernel_rfl
@[simp] theorem VI:au 73 1=[]:=by kernel_rfl
@[simp] theorem VJ:au 79 1=[(5,3),(9,3),(12,5),(12,9)]:=by kernel_rfl
@[simp] theorem VK:au 79 3=[(2,1),(3,1)]:=by kernel_rfl
@[simp] theorem VL:au 83 7=[]:=by kernel_rfl
@[simp] theorem VM:au 84 1=[]:=by kernel_rfl
@[simp] theorem VN:au 84 7=[]:=by kernel_rfl
@[simp] theorem VO:au 84 9=[]:=by kernel_rfl
@[simp] theorem Ru:au 84 11=[]:=by kernel_rfl
@[simp] theorem Rv:au 84 15=[]:=by kernel_rfl
@[simp] theorem VP:au 86 3=[]:=by kernel_rfl
@[simp] theorem VQ:au 86 4=[]:=by kernel_rfl
@[simp] theorem VR:au 88 2=[]:=by kernel_rfl
@[simp] theorem VS:au 88 6=[]:=by kernel_rfl
@[simp] theorem VT:au 93 5=[]:=by kernel_rfl
@[simp] theorem VU:au 93 7=[]:=by kernel_rfl
@[simp] theorem Rx:au 94 10=[]:=by kernel_rfl
@[simp] theorem Ry:au 104 2=[]:=by kernel_rfl
@[simp] theorem Rz:au 104 4=[(3,1)]:=by kernel_rfl
@[simp] theorem RA:au 105 1=[(4,2),(5,2)]:=by kernel_rfl
@[simp] theorem RC:au 109 5=[]:=by kernel_rfl
@[simp] theorem RD:au 114 1=[]:=by kernel_rfl
@[simp] theorem RE:au 116 2=[]:=by kernel_rfl
@[simp] theorem PW:au 116 10=[(8,5),(8,6),(9,8),(11,5),(11,6),(12,8),(12,11)]:=by kernel_rfl
@[simp] theorem PX:au 118 20=[(4,2),(5,2)]:=by kernel_rfl
@[simp] theorem RF:au 120 1=[]:=by kernel_rfl
@[simp] theorem RG:au 122 7=[]:=by kernel_rfl
@[simp] theorem RH:au 134 4=[]:=by kernel_rfl
@[simp] theorem RI:au 135 1=[]:=by kernel_rfl
@[simp] theorem RJ:au 137 1=[]:=by kernel_rfl
@[simp] theorem RK:au 138 1=[]:=by kernel_rfl
@[simp] theorem RL:au 140 1=[(5,2),(8,5),(10,5),(12,5)]:=by kernel_rfl
@[simp] theorem RM:au 140 2=[]:=by kernel_rfl
@[simp] theorem RN:au 141 1=[]:=by kernel_rfl
@[simp] theorem RO:au 142 1=[(8,2),(8,4),(9,8),(10,8),(11,2),(11,4)]:=by kernel_rfl
@[simp] theorem RP:au 142 2=[]:=by kernel_rfl
@[simp] theorem RQ:au 143 1=[(10,7)]:=by kernel_rfl
@[simp] theorem RR:au 144 1=[(5,2)]:=by kernel_rfl
@[simp] theorem RT:au 145 1=[(14,11),(21,18),(29,26),(37,34)]:=by kernel_rfl
@[simp] theorem RU:au 146 1=[(5,2)]:=by kernel_rfl
@[simp] theorem RV:au 146 2=[(5,2)]:=by kernel_rfl
@[simp] theorem RX:au 147 1=[(8,5)]:=by kernel_rfl
@[simp] theorem RY:au 148 1=[(5,2)]:=by kernel_rfl
@[simp] theorem RZ:au 149 1=[(8,5)]:=by kernel_rfl
@[simp] theorem R3:au 150 1=[(5,2)]:=by kernel_rfl
@[simp] theorem R4:au 151 4=[]:=by kernel_rfl
@[simp] theorem R5:au 151 6=[]:=by kernel_rfl
@[simp] theorem R6:au 153 1=[]:=by kernel_rfl
@[simp] theorem R7:au 154 1=[]:=by kernel_rfl
@[simp] theorem R8:au 155 1=[]:=by kernel_rfl
@[simp] theorem ab4 {t:Nat}:KC.eqs t=xh t:= .trans rfl rfl
@[simp] theorem R9 (x0 x1:Int):jn KC 170 (.agg [.int .i64 x0, .int .i64 x1])=true:=by kernel_rfl
end
@[simp] theorem aaZ:eI Tryz.prog 3=some false:=by kernel_rfl
@[simp] theorem YC:br Tryz.prog 3=some 1:=by kernel_rfl
@[simp] theorem YD:cw Tryz.prog 3=some (.pure (.int .i64 0)):=by kernel_rfl
@[simp] theorem aa0:eI Tryz.prog 4=some false:=by kernel_rfl
@[simp] theorem YE:br Tryz.prog 4=some 1:=by kernel_rfl
@[simp] theorem YF:cw Tryz.prog 4=some (.pure (.bool false)):=by kernel_rfl
@[simp] theorem YG:eI Tryz.prog 22=some false:=by kernel_rfl
@[simp] theorem VW:br Tryz.prog 22=some 1:=by kernel_rfl
@[simp] theorem VX:gG Tryz.prog 22=some (some 2):=by kernel_rfl
@[simp] theorem YH:fK Tryz.prog 22=none:=by kernel_rfl
@[simp] theorem YI:uN Tryz.prog 22=some ((some 2),(some 16),(some 2)):=by kernel_rfl
@[simp] theorem YJ:wN Tryz.prog 22=some ((some 2),(some [(.pure (.int .i64 0)),(.pure (.int .i64 0))])):=by kernel_rfl
@[simp] theorem PY:dV Tryz.prog (some 22)=true:=by kernel_rfl
@[simp] theorem YK:eI Tryz.prog 23=some false:=by kernel_rfl
@[simp] theorem VY:br Tryz.prog 23=some 1:=by kernel_rfl
@[simp] theorem VZ:gG Tryz.prog 23=some (some 5):=by kernel_rfl
@[simp] theorem YL:fK Tryz.prog 23=none:=by kernel_rfl
@[simp] theorem YM:uN Tryz.prog 23=some ((some 5),(some 40),(some 5)):=by kernel_rfl
@[simp] theorem YN:wN Tryz.prog 23=some ((some 5),(some [(.pure (.int .i64 0)),(.pure (.int .i64 0)),(.pure (.int .i64 0)),(.pure (.int .i64 0)),(.pure (.bool false))])):=by kernel_rfl
@[simp] theorem PZ:dV Tryz.prog (some 23)=true:=by kernel_rfl
@[simp] theorem YO:eI Tryz.prog 24=some false:=by kernel_rfl
@[simp] theorem V0:br Tryz.prog 24=some 1:=by kernel_rfl
@[simp] theorem V5:gG Tryz.prog 24=some (some 1):=by kernel_rfl
@[simp] theorem YP:fK Tryz.prog 24=none:=by kernel_rfl
@[simp] theorem YQ:uN Tryz.prog 24=some ((some 1),(some 8),(some 1)):=by kernel_rfl
@[simp] theorem YR:wN Tryz.prog 24=some ((some 1),(some [(.pure (.int .i64 0))])):=by kernel_rfl
@[simp] theorem aa1:tmk Tryz.prog 24=some ((some 1),(some 8),(some [(.int .i64 0)])):=by kernel_rfl
@[simp] theorem P0:dV Tryz.prog (some 24)=true:=by kernel_rfl
@[simp] theorem YS:eI Tryz.prog 25=some false:=by kernel_rfl
@[simp] theorem V6:br Tryz.prog 25=some 1:=by kernel_rfl
@[simp] theorem V7:cw Tryz.prog 25=some .aW:=by kernel_rfl
@[simp] theorem V8:gG Tryz.prog 25=some (some 9):=by kernel_rfl
@[simp] theorem YT:fK Tryz.prog 25=none:=by kernel_rfl
@[simp] theorem YU:uN Tryz.prog 25=some ((some 9),(some 72),(some 9)):=by kernel_rfl
@[simp] theorem YV:wN Tryz.prog 25=some ((some 9),(some [(.pure (.int .i64 0)),(.pure (.int .i64 0)),(.pure (.int .i64 0)),(.pure (.int .i64 0)),(.pure (.int .i64 0)),(.pure (.int .i64 0)),(.pure (.int .i64 0)),(.pure (.int .i64 0)),(.pure (.int .i64 0))])):=by kernel_rfl
@[simp] theorem P1:dV Tryz.prog (some 25)=true:=by kernel_rfl
@[simp] theorem YW:eI Tryz.prog 27=some true:=by kernel_rfl
@[simp] theorem V9:br Tryz.prog 27=some 7:=by kernel_rfl
@[simp] theorem Wa:cw Tryz.prog 27=some (.agg [(.pure (.int .i64 0)),(.pure (.int .i64 0)), .aW, .aW, .aW, .aW, .aW]):=by kernel_rfl
@[simp] theorem YX:fK Tryz.prog 27=none:=by kernel_rfl
@[simp] theorem P2:fH Tryz.prog 27=some [(0,1),(1,1),(2,1),(3,1),(4,1),(5,1),(6,1)]:=by kernel_rfl
@[simp] theorem YY:eI Tryz.prog 29=some true:=by kernel_rfl
@[simp] theorem Wb:br Tryz.prog 29=some 9:=by kernel_rfl
@[simp] theorem Wc:cw Tryz.prog 29=some (.pure (.agg [(.int .i64 0),(.int .i64 0),(.int .i64 0),(.int .i64 0),(.int .i64 0),(.int .i64 0),(.int .i64 0),(.int .i64 0),(.int .i64 0)])):=by kernel_rfl
@[simp] theorem YZ:fK Tryz.prog 29=none:=by kernel_rfl
@[simp] theorem P3:fH Tryz.prog 29=some [(0,1),(1,1),(2,1),(3,1),(4,1),(5,1),(6,1),(7,1),(8,1)]:=by kernel_rfl
@[simp] theorem Y0:eI Tryz.prog 38=some false:=by kernel_rfl
@[simp] theorem Wd:br Tryz.prog 38=some 1:=by kernel_rfl
@[simp] theorem We:gG Tryz.prog 38=some (some 2):=by kernel_rfl
@[simp] theorem Y1:fK Tryz.prog 38=none:=by kernel_rfl
@[simp] theorem Y2:uN Tryz.prog 38=some ((some 2),(some 16),(some 2)):=by kernel_rfl
@[simp] theorem Y3:wN Tryz.prog 38=some ((some 2),(some [(.pure (.int .i64 0)),(.pure (.int .i64 0))])):=by kernel_rfl
@[simp] theorem P4:dV Tryz.prog (some 38)=true:=by kernel_rfl
@[simp] theorem Y4:eI Tryz.prog 39=some false:=by kernel_rfl
@[simp] theorem Wf:br Tryz.prog 39=some 1:=by kernel_rfl
@[simp] theorem Wg:gG Tryz.prog 39=some (some 2):=by kernel_rfl
@[simp] theorem Y5:fK Tryz.prog 39=none:=by kernel_rfl
@[simp] theorem Y6:uN Tryz.prog 39=some ((some 2),(some 16),(some 2)):=by kernel_rfl
@[simp] theorem Y7:wN Tryz.prog 39=some ((some 2),(some [(.pure (.int .i64 0)),(.pure (.int .i64 0))])):=by kernel_rfl
@[simp] theorem P6:dV Tryz.prog (some 39)=true:=by kernel_rfl
@[simp] theorem Y8:eI Tryz.prog 41=some true:=by kernel_rfl
@[simp] theorem Wh:br Tryz.prog 41=some 3:=by kernel_rfl
@[simp] theorem Wi:cw Tryz.prog 41=some (.agg [.aW, .aW, .aW]):=by kernel_rfl
@[simp] theorem Y9:fK Tryz.prog 41=none:=by kernel_rfl
@[simp] theorem P7:fH Tryz.prog 41=some [(0,1),(1,1),(2,1)]:=by kernel_rfl
@[simp] theorem Za:eI Tryz.prog 45=some false:=by kernel_rfl
@[simp] theorem Wj:br Tryz.prog 45=some 1:=by kernel_rfl
@[simp] theorem Wk:cw Tryz.prog 45=some .aW:=by kernel_rfl
@[simp] theorem Wl:gG Tryz.prog 45=some (some 3):=by kernel_rfl
@[simp] theorem Zb:fK Tryz.prog 45=none:=by kernel_rfl
@[simp] theorem Zc:uN Tryz.prog 45=some ((some 3),(some 72),(some 3)):=by kernel_rfl
@[simp] theorem Zd:wN Tryz.prog 45=some ((some 3),(some [.aW, .aW, .aW])):=by kernel_rfl
@[simp] theorem P8:dV Tryz.prog (some 45)=true:=by kernel_rfl
@[simp] theorem Ze:eI Tryz.prog 74=some true:=by kernel_rfl
@[simp] theorem Wm:br Tryz.prog 74=some 2:=by kernel_rfl
@[simp] theorem Wn:cw Tryz.prog 74=some (.pure (.agg [(.int .i64 0),(.int .i64 0)])):=by kernel_rfl
@[simp] theorem Zf:fK Tryz.prog 74=none:=by kernel_rfl
@[simp] theorem P9:fH Tryz.prog 74=some [(0,1),(1,1)]:=by kernel_rfl
@[simp] theorem Zg:eI Tryz.prog 84=some true:=by kernel_rfl
@[simp] theorem Wo:br Tryz.prog 84=some 2:=by kernel_rfl
@[simp] theorem Wp:cw Tryz.prog 84=some (.pure (.agg [(.int .i64 0),(.int .i64 0)])):=by kernel_rfl
@[simp] theorem Zh:fK Tryz.prog 84=some (2,(some 1),(some false)):=by kernel_rfl
@[simp] theorem Zi:eI Tryz.prog 86=some true:=by kernel_rfl
@[simp] theorem Wq:br Tryz.prog 86=some 5:=by kernel_rfl
@[simp] theorem Wr:cw Tryz.prog 86=some (.pure (.agg [(.int .i64 0),(.int .i64 0),(.int .i64 0),(.int .i64 0),(.bool false)])):=by kernel_rfl
@[simp] theorem Zj:fK Tryz.prog 86=none:=by kernel_rfl
@[simp] theorem Qa:fH Tryz.prog 86=some [(0,1),(1,1),(2,1),(3,1),(4,1)]:=by kernel_rfl
@[simp] theorem Zk:eI Tryz.prog 87=some false:=by kernel_rfl
@[simp] theorem Ws:br Tryz.prog 87=some 1:=by kernel_rfl
@[simp] theorem Wt:cw Tryz.prog 89=some (.pure (.agg [(.int .u64 0)])):=by kernel_rfl
@[simp] theorem Zl:fK Tryz.prog 89=none:=by kernel_rfl
@[simp] theorem Qb:fH Tryz.prog 89=some [(0,1)]:=by kernel_rfl
@[simp] theorem Zm:eI Tryz.prog 94=some true:=by kernel_rfl
@[simp] theorem Wu:br Tryz.prog 94=some 10:=by kernel_rfl
@[simp] theorem Wv:cw Tryz.prog 94=some (.agg [(.pure (.int .i64 0)),(.pure (.int .i64 0)), .aW, .aW, .aW, .aW, .aW, .aW, .aW, .aW]):=by kernel_rfl
@[simp] theorem Zn:fK Tryz.prog 94=none:=by kernel_rfl
@[simp] theorem Qc:fH Tryz.prog 94=some [(0,7),(7,3)]:=by kernel_rfl
@[simp] theorem Ww:eI Tryz.prog 105=some true:=by kernel_rfl
@[simp] theorem Sa:br Tryz.prog 105=some 2:=by kernel_rfl
@[simp] theorem Sb:cw Tryz.prog 105=some (.pure (.agg [(.int .i64 0),(.int .i64 0)])):=by kernel_rfl
@[simp] theorem Wx:fK Tryz.prog 105=none:=by kernel_rfl
@[simp] theorem Ln:fH Tryz.prog 105=some [(0,1),(1,1)]:=by kernel_rfl
@[simp] theorem Wy:eI Tryz.prog 130=some true:=by kernel_rfl
@[simp] theorem Sc:br Tryz.prog 130=some 3:=by kernel_rfl
@[simp] theorem Sd:cw Tryz.prog 130=some (.agg [.aW, .aW, .aW]):=by kernel_rfl
@[simp] theorem Wz:fK Tryz.prog 130=none:=by kernel_rfl
@[simp] theorem Lo:fH Tryz.prog 130=some [(0,1),(1,1),(2,1)]:=by kernel_rfl
@[simp] theorem WA:eI Tryz.prog 133=some false:=by kernel_rfl
@[simp] theorem Se:br Tryz.prog 133=some 1:=by kernel_rfl
@[simp] theorem WC:eI Tryz.prog 146=some false:=by kernel_rfl
@[simp] theorem Sf:br Tryz.prog 146=some 1:=by kernel_rfl
@[simp] theorem Sg:cw Tryz.prog 146=some (.pure .fV):=by kernel_rfl
@[simp] theorem WD:eI Tryz.prog 147=some false:=by kernel_rfl
@[simp] theorem Sh:br Tryz.prog 147=some 1:=by kernel_rfl
@[simp] theorem Si:cw Tryz.prog 147=some (.pure .fV):=by kernel_rfl
@[simp] theorem WE:eI Tryz.prog 161=some true:=by kernel_rfl
@[simp] theorem Sj:br Tryz.prog 161=some 2:=by kernel_rfl
@[simp] theorem Sk:cw Tryz.prog 161=some (.pure (.agg [.fV, .fV])):=by kernel_rfl
@[simp] theorem WG:fK Tryz.prog 161=none:=by kernel_rfl
@[simp] theorem Lp:fH Tryz.prog 161=some [(0,1),(1,1)]:=by kernel_rfl
@[simp] theorem Zo:tmz Tryz.prog 166=some (170,(some (.pure (.bool false)))):=by kernel_rfl
@[simp] theorem WH:wO Tryz.prog 166=some (170,4):=by kernel_rfl
@[simp] theorem Sl:gG Tryz.prog 167=some (some 2):=by kernel_rfl
@[simp] theorem WI:fK Tryz.prog 167=none:=by kernel_rfl
@[simp] theorem WJ:uN Tryz.prog 167=some ((some 2),(some 16),(some 2)):=by kernel_rfl
@[simp] theorem WK:wN Tryz.prog 167=some ((some 2),(some [(.pure (.int .i64 0)),(.pure (.int .i64 0))])):=by kernel_rfl
@[simp] theorem Lq:dV Tryz.prog (some 167)=true:=by kernel_rfl
@[simp] theorem WL:eI Tryz.prog 170=some true:=by kernel_rfl
@[simp] theorem Sm:br Tryz.prog 170=some 2:=by kernel_rfl
@[simp] theorem Sn:cw Tryz.prog 170=some (.pure (.agg [(.int .i64 0),(.int .i64 0)])):=by kernel_rfl
@[simp] theorem WM:fK Tryz.prog 170=none:=by kernel_rfl
@[simp] theorem Lr:fH Tryz.prog 170=some [(0,1),(1,1)]:=by kernel_rfl
@[simp] theorem So:br Tryz.prog 172=some 18:=by kernel_rfl
@[simp] theorem Sp:cw Tryz.prog 172=some (.pure (.agg [.fV, .fV, .fV, .fV, .fV, .fV, .fV, .fV, .fV, .fV, .fV, .fV, .fV, .fV, .fV, .fV, .fV, .fV])):=by kernel_rfl
@[simp] theorem WN:fK Tryz.prog 172=some (9,(some 2),(some true)):=by kernel_rfl
@[simp] theorem Zp:G6 Tryz.prog 25=some ((some 9),(some [(.int .i64 0),(.int .i64 0),(.int .i64 0),(.int .i64 0),(.int .i64 0),(.int .i64 0),(.int .i64 0),(.int .i64 0),(.int .i64 0)])):=by kernel_rfl
@[simp] theorem WO:od Tryz.prog 27 0=some (0,(some 1)):=by kernel_rfl
@[simp] theorem WQ:od Tryz.prog 27 1=some (1,(some 1)):=by kernel_rfl
@[simp] theorem WR:od Tryz.prog 27 2=some (2,(some 1)):=by kernel_rfl
@[simp] theorem WS:od Tryz.prog 27 3=some (3,(some 1)):=by kernel_rfl
@[simp] theorem WT:od Tryz.prog 27 4=some (4,(some 1)):=by kernel_rfl
@[simp] theorem WU:od Tryz.prog 27 5=some (5,(some 1)):=by kernel_rfl
@[simp] theorem WV:od Tryz.prog 27 6=some (6,(some 1)):=by kernel_rfl
@[simp] theorem WW:od Tryz.prog 29 0=some (0,(some 1)):=by kernel_rfl
@[simp] theorem WX:od Tryz.prog 29 1=some (1,(some 1)):=by kernel_rfl
@[simp] theorem WY:od Tryz.prog 29 2=some (2,(some 1)):=by kernel_rfl
@[simp] theorem WZ:od Tryz.prog 29 3=some (3,(some 1)):=by kernel_rfl
@[simp] theorem W0:od Tryz.prog 29 4=some (4,(some 1)):=by kernel_rfl
@[simp] theorem W9:od Tryz.prog 29 5=some (5,(some 1)):=by kernel_rfl
@[simp] theorem Xa:od Tryz.prog 29 6=some (6,(some 1)):=by kernel_rfl
@[simp] theorem Xc:od Tryz.prog 29 7=some (7,(some 1)):=by kernel_rfl
@[simp] theorem Xd:od Tryz.prog 29 8=some (8,(some 1)):=by kernel_rfl
@[simp] theorem Xe:od Tryz.prog 41 0=some (0,(some 1)):=by kernel_rfl
@[simp] theorem Xf:od Tryz.prog 41 1=some (1,(some 1)):=by kernel_rfl
@[simp] theorem Xh:od Tryz.prog 41 2=some (2,(some 1)):=by kernel_rfl
@[simp] theorem Xi:od Tryz.prog 74 0=some (0,(some 1)):=by kernel_rfl
@[simp] theorem Xj:od Tryz.prog 74 1=some (1,(some 1)):=by kernel_rfl
@[simp] theorem Xk:od Tryz.prog 86 0=some (0,(some 1)):=by kernel_rfl
@[simp] theorem Xl:od Tryz.prog 86 1=some (1,(some 1)):=by kernel_rfl
@[simp] theorem Xm:od Tryz.prog 86 2=some (2,(some 1)):=by kernel_rfl
@[simp] theorem Xn:od Tryz.prog 86 3=some (3,(some 1)):=by kernel_rfl
@[simp] theorem Xo:od Tryz.prog 86 4=some (4,(some 1)):=by kernel_rfl
@[simp] theorem Xp:od Tryz.prog 89 0=some (0,(some 1)):=by kernel_rfl
@[simp] theorem Xq:od Tryz.prog 94 0=some (0,(some 7)):=by kernel_rfl
@[simp] theorem Xr:od Tryz.prog 94 1=some (7,(some 3)):=by kernel_rfl
@[simp] theorem Xs:Zq Tryz.prog 94 1=some (7,(some true),(some 3)):=by kernel_rfl
@[simp] theorem Sq:od Tryz.prog 105 0=some (0,(some 1)):=by kernel_rfl
@[simp] theorem Sr:od Tryz.prog 105 1=some (1,(some 1)):=by kernel_rfl
@[simp] theorem Ss:od Tryz.prog 130 0=some (0,(some 1)):=by kernel_rfl
@[simp] theorem St:od Tryz.prog 130 1=some (1,(some 1)):=by kernel_rfl
@[simp] theorem Su:od Tryz.prog 130 2=some (2,(some 1)):=by kernel_rfl
@[simp] theorem Sv:Zq Tryz.prog 161 0=some (0,(some false),(some 1)):=by kernel_rfl
@[simp] theorem Sw:Zq Tryz.prog 161 1=some (1,(some false),(some 1)):=by kernel_rfl
attribute [simp] Tryz.results2 Tryz.ntmps2
attribute [simp] Tryz.results3 Tryz.ntmps3
attribute [simp] Tryz.results4 Tryz.ntmps4
attribute [simp] Tryz.results5 Tryz.ntmps5
attribute [simp] Tryz.results6 Tryz.ntmps6
attribute [simp] Tryz.results7 Tryz.ntmps7
attribute [simp] Tryz.results8 Tryz.ntmps8
attribute [simp] Tryz.results9 Tryz.ntmps9
attribute [simp] Tryz.results10 Tryz.ntmps10
attribute [simp] Tryz.results11 Tryz.ntmps11
attribute [simp] Tryz.results12 Tryz.ntmps12
attribute [simp] Tryz.results13 Tryz.ntmps13
attribute [simp] Tryz.results14 Tryz.ntmps14
attribute [simp] Tryz.results15 Tryz.ntmps15
attribute [simp] Tryz.results16 Tryz.ntmps16
attribute [simp] Tryz.results17 Tryz.ntmps17
attribute [simp] Tryz.results18 Tryz.ntmps18
attribute [simp] Tryz.results19 Tryz.ntmps19
attribute [simp] Tryz.results20 Tryz.ntmps20
attribute [simp] Tryz.results21 Tryz.ntmps21
attribute [simp] Tryz.results22 Tryz.ntmps22
attribute [simp] Tryz.results23 Tryz.ntmps23
attribute [simp] Tryz.results24 Tryz.ntmps24
attribute [simp] Tryz.results25 Tryz.ntmps25
attribute [simp] Tryz.results26 Tryz.ntmps26
attribute [simp] Tryz.results27 Tryz.ntmps27
attribute [simp] Tryz.results28 Tryz.ntmps28
attribute [simp] Tryz.results29 Tryz.ntmps29
attribute [simp] Tryz.results30 Tryz.ntmps30
attribute [simp] Tryz.results31 Tryz.ntmps31
attribute [simp] Tryz.results32 Tryz.ntmps32
attribute [simp] Tryz.results33 Tryz.ntmps33
attribute [simp] Tryz.results34 Tryz.ntmps34
attribute [simp] Tryz.results35 Tryz.ntmps35
attribute [simp] Tryz.results36 Tryz.ntmps36
attribute [simp] Tryz.results37 Tryz.ntmps37
attribute [simp] Tryz.results38 Tryz.ntmps38
attribute [simp] Tryz.results39 Tryz.ntmps39
attribute [simp] Tryz.results40 Tryz.ntmps40
attribute [simp] Tryz.results41 Tryz.ntmps41
attribute [simp] Tryz.results42 Tryz.ntmps42
attribute [simp] Tryz.results43 Tryz.ntmps43
attribute [simp] Tryz.results44 Tryz.ntmps44
attribute [simp] Tryz.results45 Tryz.ntmps45
attribute [simp] Tryz.results46 Tryz.ntmps46
attribute [simp] Tryz.results47 Tryz.ntmps47
attribute [simp] Tryz.results48 Tryz.ntmps48
attribute [simp] Tryz.results49 Tryz.ntmps49
attribute [simp] Tryz.results50 Tryz.ntmps50
attribute [simp] Tryz.results51 Tryz.ntmps51
attribute [simp] Tryz.results52 Tryz.ntmps52
attribute [simp] Tryz.results53 Tryz.ntmps53
attribute [simp] Tryz.results54 Tryz.ntmps54
attribute [simp] Tryz.results55 Tryz.ntmps55
attribute [simp] Tryz.results56 Tryz.ntmps56
attribute [simp] Tryz.results57 Tryz.ntmps57
attribute [simp] Tryz.results58 Tryz.ntmps58
attribute [simp] Tryz.results59 Tryz.ntmps59
attribute [simp] Tryz.results60 Tryz.ntmps60
attribute [simp] Tryz.results61 Tryz.ntmps61
attribute [simp] Tryz.results62 Tryz.ntmps62
attribute [simp] Tryz.results63 Tryz.ntmps63
attribute [simp] Tryz.results64 Tryz.ntmps64
attribute [simp] Tryz.results65 Tryz.ntmps65
attribute [simp] Tryz.results66 Tryz.ntmps66
attribute [simp] Tryz.results67 Tryz.ntmps67
attribute [simp] Tryz.results68 Tryz.ntmps68
attribute [simp] Tryz.results69 Tryz.ntmps69
attribute [simp] Tryz.results70 Tryz.ntmps70
attribute [simp] Tryz.results71 Tryz.ntmps71
attribute [simp] Tryz.results72 Tryz.ntmps72
attribute [simp] Tryz.results73 Tryz.ntmps73
attribute [simp] Tryz.results74 Tryz.ntmps74
attribute [simp] Tryz.results75 Tryz.ntmps75
attribute [simp] Tryz.results76 Tryz.ntmps76
attribute [simp] Tryz.results77 Tryz.ntmps77
attribute [simp] Tryz.results78 Tryz.ntmps78
attribute [simp] Tryz.results79 Tryz.ntmps79
attribute [simp] Tryz.results80 Tryz.ntmps80
attribute [simp] Tryz.results81 Tryz.ntmps81
attribute [simp] Tryz.results82 Tryz.ntmps82
attribute [simp] Tryz.results83 Tryz.ntmps83
attribute [simp] Tryz.results84 Tryz.ntmps84
attribute [simp] Tryz.results85 Tryz.ntmps85
attribute [simp] Tryz.results86 Tryz.ntmps86
attribute [simp] Tryz.results87 Tryz.ntmps87
attribute [simp] Tryz.results88 Tryz.ntmps88
attribute [simp] Tryz.results89 Tryz.ntmps89
attribute [simp] Tryz.results90 Tryz.ntmps90
attribute [simp] Tryz.results91 Tryz.ntmps91
attribute [simp] Tryz.results92 Tryz.ntmps92
attribute [simp] Tryz.results93 Tryz.ntmps93
attribute [simp] Tryz.results94 Tryz.ntmps94
attribute [simp] Tryz.results95 Tryz.ntmps95
attribute [simp] Tryz.results96 Tryz.ntmps96
attribute [simp] Tryz.results97 Tryz.ntmps97
attribute [simp] Tryz.results98 Tryz.ntmps98
attribute [simp] Tryz.results99 Tryz.ntmps99
attribute [simp] Tryz.results100 Tryz.ntmps100
attribute [simp] Tryz.results101 Tryz.ntmps101
attribute [simp] Tryz.results102 Tryz.ntmps102
attribute [simp] Tryz.results103 Tryz.ntmps103
attribute [simp] Tryz.results104 Tryz.ntmps104
attribute [simp] Tryz.results105 Tryz.ntmps105
attribute [simp] Tryz.results106 Tryz.ntmps106
attribute [simp] Tryz.results107 Tryz.ntmps107
attribute [simp] Tryz.results108 Tryz.ntmps108
attribute [simp] Tryz.results109 Tryz.ntmps109
attribute [simp] Tryz.results110 Tryz.ntmps110
attribute [simp] Tryz.results111 Tryz.ntmps111
attribute [simp] Tryz.results112 Tryz.ntmps112
attribute [simp] Tryz.results113 Tryz.ntmps113
attribute [simp] Tryz.results114 Tryz.ntmps114
attribute [simp] Tryz.results115 Tryz.ntmps115
attribute [simp] Tryz.results116 Tryz.ntmps116
attribute [simp] Tryz.results117 Tryz.ntmps117
attribute [simp] Tryz.results118 Tryz.ntmps118
attribute [simp] Tryz.results119 Tryz.ntmps119
attribute [simp] Tryz.results120 Tryz.ntmps120
attribute [simp] Tryz.results121 Tryz.ntmps121
attribute [simp] Tryz.results122 Tryz.ntmps122
attribute [simp] Tryz.results123 Tryz.ntmps123
attribute [simp] Tryz.results124 Tryz.ntmps124
attribute [simp] Tryz.results125 Tryz.ntmps125
attribute [simp] Tryz.results126 Tryz.ntmps126
attribute [simp] Tryz.results127 Tryz.ntmps127
attribute [simp] Tryz.results128 Tryz.ntmps128
attribute [simp] Tryz.results129 Tryz.ntmps129
attribute [simp] Tryz.results130 Tryz.ntmps130
attribute [simp] Tryz.results131 Tryz.ntmps131
attribute [simp] Tryz.results132 Tryz.ntmps132
attribute [simp] Tryz.results133 Tryz.ntmps133
attribute [simp] Tryz.results134 Tryz.ntmps134
attribute [simp] Tryz.results135 Tryz.ntmps135
attribute [simp] Tryz.results136 Tryz.ntmps136
attribute [simp] Tryz.results137 Tryz.ntmps137
attribute [simp] Tryz.results138 Tryz.ntmps138
attribute [simp] Tryz.results139 Tryz.ntmps139
attribute [simp] Tryz.results140 Tryz.ntmps140
attribute [simp] Tryz.results141 Tryz.ntmps141
attribute [simp] Tryz.results142 Tryz.ntmps142
attribute [simp] Tryz.results143 Tryz.ntmps143
attribute [simp] Tryz.results144 Tryz.ntmps144
attribute [simp] Tryz.results145 Tryz.ntmps145
attribute [simp] Tryz.results146 Tryz.ntmps146
attribute [simp] Tryz.results147 Tryz.ntmps147
attribute [simp] Tryz.results148 Tryz.ntmps148
attribute [simp] Tryz.results149 Tryz.ntmps149
attribute [simp] Tryz.results150 Tryz.ntmps150
attribute [simp] Tryz.results151 Tryz.ntmps151
attribute [simp] Tryz.results152 Tryz.ntmps152
attribute [simp] Tryz.results153 Tryz.ntmps153
attribute [simp] Tryz.results154 Tryz.ntmps154
attribute [simp] Tryz.results155 Tryz.ntmps155
attribute [simp] Tryz.results156 Tryz.ntmps156
attribute [simp] Tryz.results157 Tryz.ntmps157
attribute [simp] Tryz.results158 Tryz.ntmps158
attribute [simp] Tryz.results159 Tryz.ntmps159
section
def jU:Code→List Code
 | .seq a b=>jU a++jU b
 | .cond _ a b=>jU a++jU b
 | .block _ a=>jU a
 | .scope a=>jU a
 | .loop a=>a::jU a
 | .rangeFunc _ _ a b=>jU a++jU b
 |_=> []
def lp (g:Func)(k:Nat):Code:=((jU (g.body.getD .skip))[k]?).getD .skip
noncomputable def nO {α:Type}(a:α):α:=Classical.choose (⟨a,rfl⟩: ∃x,x=a)
theorem cP {α:Type}(a:α):nO a=a:=Classical.choose_spec (⟨a,rfl⟩: ∃x,x=a)
section
variable {K:Ctx} {fn:FuncId} {H:aj}
def saV (v:GV)(x:Option (GV×aj)):Bool:=match x with|some (v',_)=>GV.beq v' v|none=>false
@[simp] theorem Zr {v v':GV}:saV v (some (v',H))=GV.beq v' v:=rfl
@[simp] theorem Sx {o:Oper}{s:a7}{v:GV}:sameAt K fn o s v H=saV v (ez K fn o s H):=by
 unfold sameAt saV;rfl
@[simp] theorem GP (n:Nat):((n:Int)<0)=False:=by simp
theorem dp {x:Int}(h1: -9223372036854775808≤x)(h2:x≤9223372036854775807):IntKind.i64.wrap x=x:=IntWalk.i64_in x ⟨h1,h2⟩
def bw (w:Int):dE:= .box [.pure (.int .u64 w)]
def fU (H:aj)(nm:Nm):Prop:= ∃w,H.get nm=some (bw w)∧H.set nm (bw w)=H
def bD (H:aj)(nm:Nm):Int:=match H.get nm with|some (.box [.pure (.int _ w)])=>w|_=>0
theorem xi {nm:Nm}(h:fU H nm):H.get nm=some (bw (bD H nm)):=by
 obtain⟨w,h1,h2⟩:=h;simp only [bD,h1,bw]
theorem jI {nm:Nm}(h:fU H nm):H.set nm (bw (bD H nm))=H:=by
 obtain⟨w,h1,h2⟩:=h;simp only [bD,h1,bw];exact h2
theorem gz {nm:Nm}(h:fU H nm):nm.1<H.length:=by
 obtain⟨w,h1,h2⟩:=h;exact aj.bR h1
theorem Fr.iq {q : Nat} {x y : dE} : ∀ f : Fr, (f.ins q x).ins q y = f.ins q y
  | [] => by simp [Fr.ins]
  | (k, b) :: r => by
    simp only [Fr.ins]
    split
    · simp [Fr.ins]
    · rename_i h
      split
      · simp [Fr.ins]
      · rename_i h2
        simp only [Fr.ins, h, h2, if_false, Fr.iq r]
@[simp] theorem aj.set_set {nm:Nm}{x y:dE}: ∀{H:aj},(H.set nm x).set nm y=H.set nm y
 | []=>rfl
 |f::H=>by
  simp only [aj.set];split
  ·rename_i h;simp only [aj.set,h,if_true,Fr.iq]
  ·rename_i h;simp only [aj.set,aj.length_set,h,if_false,aj.set_set]
attribute [simp] aj.length_set
@[simp] theorem aj.gV {nm:Nm}{b:dE}(h:nm.1<H.length):(H.set nm b).get nm=some b:=aj.dW b h
@[simp] theorem kT {nm:Nm}{w:Int}(h:nm.1<H.length):bD (H.set nm (bw w)) nm=w:=by
 simp only [bD,aj.gV h,bw]
@[simp] theorem kU {nm:Nm}{w:Int}(h:nm.1<H.length):fU (H.set nm (bw w)) nm:=⟨w,aj.gV h,aj.set_set⟩
theorem dU {nm:Nm}{fr:Fr}(h:fU H nm):fU (fr::H) nm:=by
 have hl:=gz h;obtain⟨w,h1,h2⟩:=h;have: ¬nm.1=H.length:=(by omega);exact⟨w,by simp [this,h1],by simp [this,h2]⟩
theorem dx {nm:Nm}{fr:Fr}(h:nm.1<H.length):bD (fr::H) nm=bD H nm:=by
 have: ¬nm.1=H.length:=(by omega);simp [bD,this]
theorem aj.dF {nm:Nm}{fr:Fr}{b:dE}(h:nm.1<H.length):aj.set (fr::H) nm b=fr::H.set nm b:=by
 have: ¬nm.1=H.length:=(by omega);simp [this]
end
end
theorem Zs:bz KC au 8 (Tryz.f8.body.getD .skip)=true:=by kernel_rfl
theorem Sy:bz KC au 11 (Tryz.f11.body.getD .skip)=true:=by kernel_rfl
theorem Sz:bz KC au 12 (Tryz.f12.body.getD .skip)=true:=by kernel_rfl
theorem SB:bz KC au 13 (Tryz.f13.body.getD .skip)=true:=by kernel_rfl
theorem Hi:bz KC au 15 (Tryz.f15.body.getD .skip)=true:=by kernel_rfl
theorem Hj:bz KC au 17 (Tryz.f17.body.getD .skip)=true:=by kernel_rfl
theorem SC:bz KC au 24 (Tryz.f24.body.getD .skip)=true:=by kernel_rfl
theorem SD:bz KC au 25 (Tryz.f25.body.getD .skip)=true:=by kernel_rfl
theorem SG:bz KC au 26 (Tryz.f26.body.getD .skip)=true:=by kernel_rfl
theorem SH:bz KC au 29 (Tryz.f29.body.getD .skip)=true:=by kernel_rfl
theorem SI:bz KC au 33 (Tryz.f33.body.getD .skip)=true:=by kernel_rfl
theorem SJ:bz KC au 34 (Tryz.f34.body.getD .skip)=true:=by kernel_rfl
theorem SL:bz KC au 36 (Tryz.f36.body.getD .skip)=true:=by kernel_rfl
theorem SM:bz KC au 39 (Tryz.f39.body.getD .skip)=true:=by kernel_rfl
theorem SO:bz KC au 41 (Tryz.f41.body.getD .skip)=true:=by kernel_rfl
theorem SP:bz KC au 44 (Tryz.f44.body.getD .skip)=true:=by kernel_rfl
theorem SQ:bz KC au 47 (Tryz.f47.body.getD .skip)=true:=by kernel_rfl
theorem SR:bz KC au 48 (Tryz.f48.body.getD .skip)=true:=by kernel_rfl
theorem SU:bz KC au 49 (Tryz.f49.body.getD .skip)=true:=by kernel_rfl
theorem SV:bz KC au 50 (Tryz.f50.body.getD .skip)=true:=by kernel_rfl
theorem gH:bz KC au 51 (Tryz.f51.body.getD .skip)=true:=by kernel_rfl
theorem SW:bz KC au 52 (Tryz.f52.body.getD .skip)=true:=by kernel_rfl
theorem SY:bz KC au 53 (Tryz.f53.body.getD .skip)=true:=by kernel_rfl
theorem SZ:bz KC au 54 (Tryz.f54.body.getD .skip)=true:=by kernel_rfl
theorem S5:bz KC au 55 (Tryz.f55.body.getD .skip)=true:=by kernel_rfl
theorem S6:bz KC au 56 (Tryz.f56.body.getD .skip)=true:=by kernel_rfl
theorem S7:bz KC au 57 (Tryz.f57.body.getD .skip)=true:=by kernel_rfl
theorem S8:bz KC au 58 (Tryz.f58.body.getD .skip)=true:=by kernel_rfl
theorem S9:bz KC au 59 (Tryz.f59.body.getD .skip)=true:=by kernel_rfl
theorem Ta:bz KC au 62 (Tryz.f62.body.getD .skip)=true:=by kernel_rfl
theorem Hk:bz KC au 63 (Tryz.f63.body.getD .skip)=true:=by kernel_rfl
theorem Tc:bz KC au 64 (Tryz.f64.body.getD .skip)=true:=by kernel_rfl
theorem Td:bz KC au 65 (Tryz.f65.body.getD .skip)=true:=by kernel_rfl
theorem Te:bz KC au 69 (Tryz.f69.body.getD .skip)=true:=by kernel_rfl
theorem Tf:bz KC au 70 (Tryz.f70.body.getD .skip)=true:=by kernel_rfl
theorem Th:bz KC au 73 (Tryz.f73.body.getD .skip)=true:=by kernel_rfl
theorem Ti:bz KC au 74 (Tryz.f74.body.getD .skip)=true:=by kernel_rfl
theorem Tj:bz KC au 75 (Tryz.f75.body.getD .skip)=true:=by kernel_rfl
theorem Tk:bz KC au 79 (Tryz.f79.body.getD .skip)=true:=by kernel_rfl
theorem Tl:bz KC au 83 (Tryz.f83.body.getD .skip)=true:=by kernel_rfl
theorem Hl:bz KC au 84 (Tryz.f84.body.getD .skip)=true:=by kernel_rfl
theorem Tm:bz KC au 85 (Tryz.f85.body.getD .skip)=true:=by kernel_rfl
theorem Tn:bz KC au 86 (Tryz.f86.body.getD .skip)=true:=by kernel_rfl
theorem Tp:bz KC au 87 (Tryz.f87.body.getD .skip)=true:=by kernel_rfl
theorem Hn:bz KC au 88 (Tryz.f88.body.getD .skip)=true:=by kernel_rfl
theorem Tq:bz KC au 89 (Tryz.f89.body.getD .skip)=true:=by kernel_rfl
theorem Tr:bz KC au 90 (Tryz.f90.body.getD .skip)=true:=by kernel_rfl
theorem Ts:bz KC au 91 (Tryz.f91.body.getD .skip)=true:=by kernel_rfl
theorem Tt:bz KC au 92 (Tryz.f92.body.getD .skip)=true:=by kernel_rfl
theorem Tu:bz KC au 93 (Tryz.f93.body.getD .skip)=true:=by kernel_rfl
theorem Tv:bz KC au 94 (Tryz.f94.body.getD .skip)=true:=by kernel_rfl
theorem Tw:bz KC au 99 (Tryz.f99.body.getD .skip)=true:=by kernel_rfl
theorem Ls:bz KC au 100 (Tryz.f100.body.getD .skip)=true:=by kernel_rfl
theorem Lt:bz KC au 101 (Tryz.f101.body.getD .skip)=true:=by kernel_rfl
theorem Lu:bz KC au 102 (Tryz.f102.body.getD .skip)=true:=by kernel_rfl
theorem Lv:bz KC au 103 (Tryz.f103.body.getD .skip)=true:=by kernel_rfl
theorem Lw:bz KC au 104 (Tryz.f104.body.getD .skip)=true:=by kernel_rfl
theorem Lx:bz KC au 105 (Tryz.f105.body.getD .skip)=true:=by kernel_rfl
theorem Ly:bz KC au 106 (Tryz.f106.body.getD .skip)=true:=by kernel_rfl
theorem Lz:bz KC au 107 (Tryz.f107.body.getD .skip)=true:=by kernel_rfl
theorem LA:bz KC au 108 (Tryz.f108.body.getD .skip)=true:=by kernel_rfl
theorem LB:bz KC au 109 (Tryz.f109.body.getD .skip)=true:=by kernel_rfl
theorem LC:bz KC au 112 (Tryz.f112.body.getD .skip)=true:=by kernel_rfl
theorem LF:bz KC au 114 (Tryz.f114.body.getD .skip)=true:=by kernel_rfl
theorem LG:bz KC au 115 (Tryz.f115.body.getD .skip)=true:=by kernel_rfl
theorem D6:bz KC au 116 (Tryz.f116.body.getD .skip)=true:=by kernel_rfl
theorem LI:bz KC au 117 (Tryz.f117.body.getD .skip)=true:=by kernel_rfl
theorem D7:bz KC au 118 (Tryz.f118.body.getD .skip)=true:=by kernel_rfl
theorem LJ:bz KC au 120 (Tryz.f120.body.getD .skip)=true:=by kernel_rfl
theorem LK:bz KC au 121 (Tryz.f121.body.getD .skip)=true:=by kernel_rfl
theorem LM:bz KC au 122 (Tryz.f122.body.getD .skip)=true:=by kernel_rfl
theorem LN:bz KC au 123 (Tryz.f123.body.getD .skip)=true:=by kernel_rfl
theorem LO:bz KC au 124 (Tryz.f124.body.getD .skip)=true:=by kernel_rfl
theorem LQ:bz KC au 125 (Tryz.f125.body.getD .skip)=true:=by kernel_rfl
theorem LR:bz KC au 126 (Tryz.f126.body.getD .skip)=true:=by kernel_rfl
theorem LS:bz KC au 127 (Tryz.f127.body.getD .skip)=true:=by kernel_rfl
theorem LU:bz KC au 128 (Tryz.f128.body.getD .skip)=true:=by kernel_rfl
theorem LW:bz KC au 129 (Tryz.f129.body.getD .skip)=true:=by kernel_rfl
theorem LX:bz KC au 130 (Tryz.f130.body.getD .skip)=true:=by kernel_rfl
theorem LY:bz KC au 131 (Tryz.f131.body.getD .skip)=true:=by kernel_rfl
theorem LZ:bz KC au 132 (Tryz.f132.body.getD .skip)=true:=by kernel_rfl
theorem L0:bz KC au 133 (Tryz.f133.body.getD .skip)=true:=by kernel_rfl
theorem L4:bz KC au 134 (Tryz.f134.body.getD .skip)=true:=by kernel_rfl
theorem L5:bz KC au 135 (Tryz.f135.body.getD .skip)=true:=by kernel_rfl
theorem D8:bz KC au 136 (Tryz.f136.body.getD .skip)=true:=by kernel_rfl
theorem L6:bz KC au 137 (Tryz.f137.body.getD .skip)=true:=by kernel_rfl
theorem L7:bz KC au 138 (Tryz.f138.body.getD .skip)=true:=by kernel_rfl
theorem L8:bz KC au 139 (Tryz.f139.body.getD .skip)=true:=by kernel_rfl
theorem L9:bz KC au 140 (Tryz.f140.body.getD .skip)=true:=by kernel_rfl
theorem Ma:bz KC au 141 (Tryz.f141.body.getD .skip)=true:=by kernel_rfl
theorem D9:bz KC au 142 (Tryz.f142.body.getD .skip)=true:=by kernel_rfl
theorem Mb:bz KC au 143 (Tryz.f143.body.getD .skip)=true:=by kernel_rfl
theorem Mc:bz KC au 144 (Tryz.f144.body.getD .skip)=true:=by kernel_rfl
theorem Md:bz KC au 145 (Tryz.f145.body.getD .skip)=true:=by kernel_rfl
theorem Me:bz KC au 146 (Tryz.f146.body.getD .skip)=true:=by kernel_rfl
theorem Mf:bz KC au 147 (Tryz.f147.body.getD .skip)=true:=by kernel_rfl
theorem Mg:bz KC au 148 (Tryz.f148.body.getD .skip)=true:=by kernel_rfl
theorem Mh:bz KC au 149 (Tryz.f149.body.getD .skip)=true:=by kernel_rfl
theorem Mi:bz KC au 150 (Tryz.f150.body.getD .skip)=true:=by kernel_rfl
theorem Mj:bz KC au 151 (Tryz.f151.body.getD .skip)=true:=by kernel_rfl
theorem Mk:bz KC au 153 (Tryz.f153.body.getD .skip)=true:=by kernel_rfl
theorem Ml:bz KC au 154 (Tryz.f154.body.getD .skip)=true:=by kernel_rfl
theorem Mm:bz KC au 155 (Tryz.f155.body.getD .skip)=true:=by kernel_rfl
theorem Mn:bz KC au 156 (Tryz.f156.body.getD .skip)=true:=by kernel_rfl
theorem Mo:bz KC au 157 (Tryz.f157.body.getD .skip)=true:=by kernel_rfl
section
@[simp] theorem aa2 (n:Nat):(n=n+1+1)=False:=by simp;omega
@[simp] theorem aa3 (n:Nat):(n=n+1+1+1)=False:=by simp;omega
@[simp] theorem aa4 (n:Nat):(n=n+1+1+1+1)=False:=by simp;omega
@[simp] theorem Zt (n:Nat):(n+1+1=n)=False:=by simp;omega
@[simp] theorem Zu (n:Nat):(n+1+1+1=n)=False:=by simp;omega
@[simp] theorem Zv (n:Nat):(n+1+1≤n)=False:=by simp;omega
@[simp] theorem aa5 (n:Nat):(n≤n+1+1)=True:=by simp;omega
@[simp] theorem aa6 (n:Nat):(n≤n+1+1+1)=True:=by simp;omega
def cY (nm:Nm)(es:Nat)(rows:List (List PV)):GV:=if rows=[]then .aW else .bc nm es rows.length 0 rows.length
def eG (key es:Nat)(rows:List (List PV))(fr:Fr):Fr:=if rows=[]then fr else fr.ins key (.arr es rows 0 false)
theorem fI {nm:Nm}{es:Nat}:cY nm es []= .aW:=rfl
theorem fJ {key es:Nat}{fr:Fr}:eG key es [] fr=fr:=rfl
theorem Fr.uP {q p : Nat} (x y : dE) (h : q ≠ p) : ∀ f : Fr, (f.ins p y).ins q x = (f.ins q x).ins p y
  | [] => by
    simp only [Fr.ins, h, Ne.symm h, if_false]
    split
    · rename_i h1; rw [if_neg (by omega)]
    · rename_i h1; rw [if_pos (by omega)]
  | (k, b) :: r => by
    have hp : ¬ p = q := fun e => h e.symm
    by_cases h1 : p = k
    · subst h1
      by_cases h3 : q < p
      · simp [Fr.ins, h, h3, hp, show ¬ p < q by omega]
      · simp [Fr.ins, h, h3]
    · by_cases h2 : q = k
      · subst h2
        by_cases h3 : p < q
        · simp [Fr.ins, h, h3, hp, show ¬ q < p by omega]
        · simp [Fr.ins, h1, h3]
      · by_cases h3 : p < k
        · by_cases h4 : q < k
          · by_cases h5 : q < p
            · simp [Fr.ins, h, hp, h1, h2, h3, h4, h5, show ¬ p < q by omega]
            · simp [Fr.ins, h, hp, h1, h2, h3, h4, h5, show p < q by omega]
          · simp [Fr.ins, h, hp, h1, h2, h3, h4, show ¬ q < p by omega]
        · by_cases h4 : q < k
          · simp [Fr.ins, h, hp, h1, h2, h3, h4, show ¬ p < q by omega]
          · simp [Fr.ins, h1, h2, h3, h4, Fr.uP x y h r]
section
variable {key es:Nat} {rows:List (List PV)} {fr:Fr} {H:aj} {nm:Nm}
@[simp] theorem bQ {k:Nat}(h:k≠key):(eG key es rows fr).get k=fr.get k:=by
 unfold eG;split
 ·rfl
 ·exact Fr.az _ h _
@[simp] theorem Mp {k:Nat}{b:dE}(h:k≠key):(eG key es rows fr).ins k b=eG key es rows (fr.ins k b):=by
 unfold eG;split
 ·rfl
 ·exact Fr.uP _ _ h _
theorem cV (h:rows≠[]):(eG key es rows fr).get key=some (.arr es rows 0 false):=by
 unfold eG;rw [if_neg h];exact Fr.bJ _ _ _
@[simp] theorem Tx:bB (cY nm es rows)=some [cY nm es rows]:=by
 unfold cY;split<;>rfl
@[simp] theorem JE {l0:Nat}(h:nm.1≤l0):fa H l0 (cY nm es rows)=(cY nm es rows,H):=by
 unfold cY;split
 ·rfl
 ·simp [h]
@[simp] theorem Qd {r:List GV}:bm (cY nm es rows::r)=none:=by
 unfold cY;split<;>rfl
@[simp] theorem Ho {l0:Nat}(h:nm.1≤l0):clean H l0 (cY nm es rows)=cY nm es rows:=by
 unfold cY;split
 ·rfl
 ·simp [h]
theorem rb {l bytes:Nat}{r:List PV}{H':aj}(hg:rows=[]→H'.get (l,key)=none)(hg2:rows≠[]→H'.get (l,key)=some (.arr es rows 0 false))(hl:l<H'.length)(hb:(rows.length+1)*bytes≤1099511627776):
  yH l key (cY (l,key) es rows) es bytes [r] H'=some (cY (l,key) es (rows++[r]),H'.set (l,key) (.arr es (rows++[r]) 0 false)):=by
 unfold cY;by_cases h:rows=[]
 ·subst h;have h1:=hg rfl;have h2: ¬H'.length≤l:=(by omega);have h3:bytes≤1099511627776:=(by simpa using hb);simp [h1,h2,h3]
 ·have h1:=hg2 h;simp [h,h1,hb]
@[simp] theorem Hp {l bytes:Nat}{r:List PV}{f0:Fr}(hl:H.length=l)(hf:fr.get key=none)(hb:(rows.length+1)*bytes≤1099511627776):
  yH l key (cY (l,key) es rows) es bytes [r] (f0::eG key es rows fr::H)=some (cY (l,key) es (rows++[r]),f0::eG key es (rows++[r]) fr::H):=by
 subst hl;rw [rb (fun h=>by subst h;simp [eG,hf]) (fun h=>by simp [cV h]) (by simp;omega) hb];simp [eG];split
 ·rfl
 ·rw [Fr.iq]
theorem Ty {l l0:Nat}(hl:H.length=l)(h:l0<l):canon (clean (eG key es rows fr::H) l0 (cY (l,key) es rows))= .pure (.slice rows):=by
 subst hl;unfold cY;by_cases hr:rows=[]
 ·subst hr;simp
 ·have: ¬H.length≤l0:=(by omega);simp [hr,this,cV hr]
theorem dc {l l0:Nat}{F:Fr}(hl:H.length=l)(h:l0<l)(hF:rows≠[]→F.get key=some (.arr es rows 0 false)):cH (F::H) l0 (cY (l,key) es rows)=if rows=[]then .aW else .pure (.slice rows):=by
 subst hl;unfold cY;by_cases hr:rows=[]
 ·subst hr;simp
 ·have: ¬H.length≤l0:=(by omega);simp [hr,this,hF hr]
end
end
section
def Zw (h:aj)(k:Fr→aj→Prop):Prop:=match h with|fr::H1=>k fr H1| []=>False
@[simp] theorem Zx {fr:Fr}{H:aj}{k:Fr→aj→Prop}:Zw (fr::H) k=k fr H:= .trans rfl rfl
def Qe (x:Option dE)(k:fL→Prop):Prop:=match x with|some (.loop l)=>k l|_=>False
@[simp] theorem Hq {l:fL}{k:fL→Prop}:Qe (some (.loop l)) k=k l:= .trans rfl rfl
def lG:Code→Option (Code×Code)
 | .seq a b=>match lG a with|some x=>some x|none=>lG b
 | .cond _ a b=>match lG a with|some x=>some x|none=>lG b
 | .block _ a=>lG a
 | .loop a=>lG a
 | .rangeFunc _ _ a b=>some (a,b)
 |_=>none
def rgA (g:Func):Code:=((lG (g.body.getD .skip)).getD (.skip, .skip)).1
def rgB (g:Func):Code:=((lG (g.body.getD .skip)).getD (.skip, .skip)).2
section
variable (K:Ctx) (N:FuncId→Nat→List (Nat×Nat))
def og (nm:Nm)(R:GV×aj→Prop)(e:GX)(st:bO):Prop:=
 Zw st.h fun _ H2=>Qe (aj.get H2 nm) fun l2=>
  R (match e with
   | .normal=>(.pure (.bool true),aj.set H2 nm (.loop {l2 with state:= .ready,pending:=none}))
   |e=>(.pure (.bool false),aj.set H2 nm (.loop {l2 with state:= .done,pending:=some e})))
def Ah (nm:Nm)(l:fL)(R:GV×aj→Prop)(e:GX)(st:bO):Prop:=
 e= .normal∧Zw st.h fun fr H1=>Qe (aj.get H1 nm) fun l1=>l1.state= .ready∧
  wp K N l.fn l.body ⟨st.s,fr::aj.set H1 nm (.loop {l1 with state:= .busy}),l.nt⟩ (og nm R)
theorem ER {nm:Nm} {args:List GV} {H:aj} {l:fL} {s:a7} {R:GV×aj→Prop} (hl:H.get nm=some (.loop l)) (hr:l.state= .ready) (hp:ir l.eA l.nt l.params (args.map canon)=some s)
  (ha:bz K N l.fn l.assign=true) (hb:bz K N l.fn l.body=true) (h:wp K N l.fn l.assign ⟨s,[]::H,l.nt⟩ (Ah K N nm l R)):mm (ground (aE K) nm args H) R:=by
 obtain⟨e,st,h1,rfl,h2⟩:=gW K N l.fn l.assign h ha;unfold Zw at h2;split at h2
 ·rename_i fr H1 hst;unfold Qe at h2;split at h2
  ·rename_i l1 hg1;obtain⟨h3,h4⟩:=h2;obtain⟨e2,st2,h5,h6⟩:=gW K N l.fn l.body h4 hb;unfold og Zw at h6;split at h6
   ·rename_i fr2 H2 hst2;unfold Qe at h6;split at h6
    ·rename_i l2 hg2;refine⟨_, ?_,h6⟩;simp only [ground,hl,hr,if_true,hp,h1,hst,hg1,h3,ne_eq,not_true_eq_false,if_false,h5,hst2,hg2];cases e2<;>rfl
    ·exact h6.elim
   ·exact h6.elim
  ·exact h2.elim
 ·exact h2.elim
def uQ (nm:Nm)(st:bO)(Q:GX→bO→Prop)(H:aj):Prop:=
 Qe (aj.get H nm) fun l=>l.state≠ .busy∧Q (match l.pending with|none=> .normal|some e=>e) {st with h:=aj.set H nm (.loop {l with state:= .exhausted})}
theorem Hs {fn:FuncId} {f:Operand} {ps:Array Tmp} {assign body:Code} {st:bO} {Q:GX→bO→Prop} {nm:Nm} {H1 H2:aj} {v:GV}
  (h1:iC st.h (10000000+aY body) (.loop {eA:=st.s,nt:=st.nt,params:=ps.toList,assign:=assign,body:=body,fn:=fn,state:= .ready,pending:=none})=some (nm,H1))
  (h2:mW K (aE K) (ev st.s f) [.yield nm] 0 H1=some (v,H2)) (h3:uQ nm st Q H2):WP K N fn (.rangeFunc f ps assign body) st Q:=fun _=>by
 rw [fj];unfold uQ Qe at h3;split at h3
 ·rename_i l hg;obtain⟨h4,h5⟩:=h3;simp only [cN,h1,h2,hg,h4,if_false]
  cases hp:l.pending with
  |none=>rw [hp]at h5;exact⟨_,_,rfl,h5⟩
  |some e=>rw [hp]at h5;exact⟨_,_,rfl,h5⟩
 ·exact h3.elim
end
end
section
structure aS where
 role:Int
 cell:Int
 deriving DecidableEq
structure aZ where
 cell:Int
 state:Int
 home:Int
 want:Int
 pR:Bool
 deriving DecidableEq
structure ak where
 ba:Int
 aO:Int
 kind:Int
 hand:Int
 bf:Int
 cell:Int
 other:Int
 cd:Int
 gR:Int
 deriving DecidableEq
structure bC where
 cell:Int
 state:Int
 deriving DecidableEq
structure aG where
 l:Int
 r:Int
 deriving DecidableEq
structure aA where
 wide:Int
 deep:Int
 ah:List aS
 aa:List aZ
 seen:List Int
 aX:List Int
 ai:List ak
 deriving DecidableEq
structure aw where
 ah:List Int
 aq:List aG
 aa:List bC
 deriving DecidableEq
def aS.row (p:aS):List PV:=[.int .i64 p.role, .int .i64 p.cell]
def aZ.row (t:aZ):List PV:=[.int .i64 t.cell, .int .i64 t.state, .int .i64 t.home, .int .i64 t.want, .bool t.pR]
def ak.row (a:ak):List PV:=[.int .i64 a.ba, .int .i64 a.aO, .int .i64 a.kind, .int .i64 a.hand, .int .i64 a.bf, .int .i64 a.cell, .int .i64 a.other, .int .i64 a.cd, .int .i64 a.gR]
def bC.row (s:bC):List PV:=[.int .i64 s.cell, .int .i64 s.state]
def aG.row (h:aG):List PV:=[.int .i64 h.l, .int .i64 h.r]
def aF (n:Int):List PV:=[.int .i64 n]
def aA.row (r:aA):List PV:=[.int .i64 r.wide, .int .i64 r.deep, .slice (r.ah.map aS.row), .slice (r.aa.map aZ.row), .slice (r.seen.map aF), .slice (r.aX.map aF), .slice (r.ai.map ak.row)]
def aw.row (s:aw):List PV:=[.slice (s.ah.map aF), .slice (s.aq.map aG.row), .slice (s.aa.map bC.row)]
@[simp] theorem Mq {f:Nat}:KC.Hh f=Hg.contains f:= .trans rfl rfl
attribute [simp] Hg
section
variable {f c:Nat} {H:aj} {args:List GV} {p:PV}
theorem eJ (hc:KC.wP f=false) (hb:KC.Af f=true) (hz:(bs H args).1.map canon=args) (hq:mX args=some none) (hfl:jc p=true) (hH:0<H.length)
  (h0: ∀H:aj,0<H.length→bI KC (aE KC) f args c H=some (.pure p,H)):aL KC (aE KC) f args c H=some (.pure p,H):=gX KC hc hb hz hq hH h0 hfl
end
theorem Ai {K:Ctx}{n:Nat}{f:FuncId}{args:List GV}{c:Nat}{H:aj}{r:GV×aj}(h:aL K (df K n) f args c H=some r):aL K (aE K) f args c H=some r:=by
 obtain⟨N,hN⟩:=sB K (F:=fun _=>aE K) (rec:=df K n) (fun fn c st r h=>⟨0,fun _ _=>(kH K).2 (mY K n _ _ _ _ h)⟩) h;exact hN N (Nat.le_refl _)
variable {c:Nat} {H:aj}
def di (x lo hi:Int):Bool:=decide (lo≤x) && decide (x≤hi)
theorem c8 {x lo hi:Int}(hH:0<H.length):aL KC (aE KC) 64 [.pure (.int .i64 x), .pure (.int .i64 lo), .pure (.int .i64 hi)] c H=some (.pure (.bool (di x lo hi)),H):=by
 refine eJ rfl rfl rfl rfl rfl hH fun H hH=> ?_;refine aM (aK KC au Tryz.func64 rfl rfl Tc (by simp) hH ?_);by_cases h:lo≤x
 ·simp [h,di,ae]
 ·simp [h,di,ae]
theorem pt {x lo hi:Int}:di x lo hi=true↔lo≤x∧x≤hi:=by simp [di]
theorem ES (fr:Fr)(c:Nat):aL KC (df KC 4000) 10 [] c [fr,[]]=some (.pure (.bool true),[fr,[]]):=by
 kernel_rfl
theorem Aj (fr:Fr)(c:Nat):aL KC (aE KC) 10 [] c [fr,[]]=some (.pure (.bool true),[fr,[]]):=Ai (ES fr c)
end
section
variable {c:Nat} {H:aj}
noncomputable def Ak:Int→Int:=nO fun w=>IntKind.u64.wrap (w+11507291218515648293)
theorem ET (w:Int):Ak w=IntKind.u64.wrap (w+11507291218515648293):=by rw [Ak,cP]
def Cf (x n:Int):Int:=Tz .u64 x (x.fdiv n)
noncomputable def pS:Int→Int:=nO fun w=>Cf (IntKind.u64.wrap (Cf (IntKind.u64.wrap (Cf (IntKind.u64.wrap (w+11507291218515648293)) 4294967296*15485907386658061715)) 536870912*14029467366897019727)) 4294967296
theorem xj (w:Int):pS w=Cf (IntKind.u64.wrap (Cf (IntKind.u64.wrap (Cf (IntKind.u64.wrap (w+11507291218515648293)) 4294967296*15485907386658061715)) 536870912*14029467366897019727)) 4294967296:=by rw [pS,cP]
theorem Mr (x:Int):0≤IntKind.u64.wrap x∧IntKind.u64.wrap x≤18446744073709551615:=by rw [IntKind.wrap_u64];omega
theorem EU (w:Int):0≤pS w∧pS w≤18446744073709551615:=by rw [xj];exact Mr _
@[simp] theorem Zy:IntKind.u64.bits=64:=rfl
@[simp] theorem Zz:IntKind.i64.bits=64:=rfl
theorem Ea {nm:Nm}(hB:fU H nm):aL KC (aE KC) 55 [.ay nm 0] c H=some (.pure (.int .u64 (pS (bD H nm))),H.set nm (bw (Ak (bD H nm)))):=by
 have hl:=gz hB;have hg:=xi hB;refine aM (bd KC au Tryz.func55 rfl rfl S5 rfl rfl rfl (by simp) (by omega) ?_);have hne: ¬nm.1=H.length:=(by omega);have h1:(IntKind.u64.wrap 32)=32:=rfl;generalize bD H nm=w at*;unfold bw at*;simp [hne,hl,hg,ae,xj,ET,Cf]
noncomputable def lA:Int→Int→Int×Int:=nO fun w n=>
 if n<2 then (0,w)else (IntKind.i64.wrap (((pS w).fdiv 2).tmod (IntKind.u64.wrap n)),Ak w)
theorem yI (w:Int)(n:Int):lA w n=
 (if n<2 then (0,w)else (IntKind.i64.wrap (((pS w).fdiv 2).tmod (IntKind.u64.wrap n)),Ak w)):=by rw [lA,cP]
theorem kB (w n:Int)(h:n≤9223372036854775807):0≤(lA w n).1∧((lA w n).1<n∨(lA w n).1=0):=by
 rw [yI];split
 ·simp
 ·have h1:=EU w;have h2:IntKind.u64.wrap n=n:=(by rw [IntKind.wrap_u64];omega);have h3:0≤(pS w).fdiv 2:=Int.fdiv_nonneg h1.1 (by omega);rw [h2,Int.tmod_eq_emod_of_nonneg h3];have h4:=Int.emod_nonneg ((pS w).fdiv 2) (show n≠0 by omega)
  have h5:=Int.emod_lt_of_pos ((pS w).fdiv 2) (show 0<n by omega)
  rw [dp (by omega) (by omega)];exact⟨h4, .inl h5⟩
theorem kV {nm:Nm}{n:Int}(hB:fU H nm)(hn:n≤9223372036854775807):aL KC (aE KC) 24 [.ay nm 0, .pure (.int .i64 n)] c H=some (.pure (.int .i64 (lA (bD H nm) n).1),H.set nm (bw (lA (bD H nm) n).2)):=by
 have hl:=gz hB;have hs:=jI hB;refine aM (bd KC au Tryz.func24 rfl rfl SC rfl rfl rfl (by simp) (by omega) ?_);have hne: ¬nm.1=H.length:=(by omega);by_cases h:n<2
 ·simp [h,yI,hs,ae]
 ·have h2:IntKind.u64.wrap n=n:=(by rw [IntKind.wrap_u64];omega);have h3: ¬n=0:=(by omega);have h4: ¬IntKind.u64.wrap n=0:=(by rw [h2];exact h3);simp [h,yI,Ea (dU hB),dx hl,aj.dF hl,ae,h4]
noncomputable def uR:Int→Int→Int→Int×Int:=nO fun w lo hi=>
 let r:=lA w (IntKind.i64.wrap (IntKind.i64.wrap (hi-lo)+1))
 (IntKind.i64.wrap (lo+r.1),r.2)
theorem Al (w:Int)(lo:Int)(hi:Int):uR w lo hi=
 (let r:=lA w (IntKind.i64.wrap (IntKind.i64.wrap (hi-lo)+1))
 (IntKind.i64.wrap (lo+r.1),r.2)):=by rw [uR,cP]
theorem Ms (x:Int): -9223372036854775808≤IntKind.i64.wrap x∧IntKind.i64.wrap x≤9223372036854775807:=by rw [IntKind.wrap_i64];omega
theorem Am (w lo hi:Int)(h0: -4611686018427387903≤lo)(h1:hi≤4611686018427387903)(h:lo≤hi):lo≤(uR w lo hi).1∧(uR w lo hi).1≤hi:=by
 rw [Al];rw [dp (x:=hi-lo) (by omega) (by omega),dp (x:=hi-lo+1) (by omega) (by omega)];have:=kB w (hi-lo+1) (by omega);simp only;rw [dp (by omega) (by omega)];omega
theorem uS {nm:Nm}{lo hi:Int}(hB:fU H nm):aL KC (aE KC) 26 [.ay nm 0, .pure (.int .i64 lo), .pure (.int .i64 hi)] c H=some (.pure (.int .i64 (uR (bD H nm) lo hi).1),H.set nm (bw (uR (bD H nm) lo hi).2)):=by
 have hl:=gz hB;refine aM (bd KC au Tryz.func26 rfl rfl SG rfl rfl rfl (by simp) (by omega) ?_);have hr:=(Ms (IntKind.i64.wrap (hi-lo)+1)).2;simp [Al,kV (dU hB) hr,dx hl,aj.dF hl,ae]
noncomputable def yJ:Int→Int→Bool×Int:=nO fun w n=>
 ((lA w n).1==0,(lA w n).2)
theorem Ht (w:Int)(n:Int):yJ w n=
 (((lA w n).1==0,(lA w n).2)):=by rw [yJ,cP]
theorem mZ {nm:Nm}{n:Int}(hB:fU H nm)(hn:n≤9223372036854775807):aL KC (aE KC) 52 [.ay nm 0, .pure (.int .i64 n)] c H=some (.pure (.bool (yJ (bD H nm) n).1),H.set nm (bw (yJ (bD H nm) n).2)):=by
 have hl:=gz hB;refine aM (bd KC au Tryz.func52 rfl rfl SW rfl rfl rfl (by simp) (by omega) ?_);simp [Ht,kV (dU hB) hn,dx hl,aj.dF hl,ae]
noncomputable def xk:Int→List Int→Int×Int:=nO fun w l=>
 if l.length=0 then (0,w)else (l.getD (lA w l.length).1.toNat 0,(lA w l.length).2)
theorem sC (w:Int)(l:List Int):xk w l=
 (if l.length=0 then (0,w)else (l.getD (lA w l.length).1.toNat 0,(lA w l.length).2)):=by rw [xk,cP]
theorem Eb {nm:Nm}{l:List Int}(hB:fU H nm)(hn:l.length<4611686018427387904):aL KC (aE KC) 54 [.ay nm 0, .pure (.slice (l.map aF))] c H=some (.pure (.int .i64 (xk (bD H nm) l).1),H.set nm (bw (xk (bD H nm) l).2)):=by
 have hl:=gz hB;have hs:=jI hB;refine aM (bd KC au Tryz.func54 rfl rfl SZ rfl rfl rfl (by simp) (by omega) ?_);by_cases h:l.length=0
 ·obtain rfl:l=[]:=List.length_eq_zero_iff.1 h;simp [sC,hs,ae]
 ·have h2:((l.length:Int)==0)=false:=beq_eq_false_iff_ne.2 (by omega);have hr:=kB (bD H nm) l.length (by omega);have h3: ¬(lA (bD H nm) l.length).1<0:=(by omega);have h4:(lA (bD H nm) l.length).1.toNat<l.length:=(by have:=hr;clear hl hs hB;omega);simp [h,h2,sC,kV (dU hB) (show (l.length:Int)≤9223372036854775807 by omega),dx hl,aj.dF hl,ae,h3,h4,aF]
theorem bU {K:Ctx}{f:Nat}{c:Nat}{r:GV}{fr:Fr}(h:K.Hh f=true):fW K f c r (fr::H)=(match cJ (tr c fr H (dedup (cz fr H.length (refs H.length r))) (H.length-1)) fr H c (dedup (cz fr H.length (refs H.length r))) H with|some H'=>some (ux H.length c r,H')|none=>none):=by
 unfold fW;simp only [h,if_true];rfl
theorem Hu (l:List Int)(hn:l.length≤9223372036854775807)(Q:GX→bO→Prop)(hH:0<H.length): ∀(k i:Nat) (w:Int),i+k=l.length→
  (∀w',Q (.exit 0) ⟨[(3, .ay (H.length,6) 0)],[(6,bw w')]::H,30⟩)→
  iB KC au 12 (lp Tryz.f12 0) [0,3,4] [3] Q [(0, .pure (.slice (l.map aF))),(3, .ay (H.length,6) 0),(4, .pure (.int .i64 i))] ([(6,bw w)]::H) 30:=by
 intro k
 induction k with
 |zero=>
  intro i w hi h1;have hia: ¬i<l.length:=(by omega);apply ax;conv=>arg 4;whnf
  simp [hia,hH];exact h1 w
 |succ k ih=>
  intro i w hi h1;have hia:i<l.length:=(by omega);have hw:=dp (x:=(i:Int)+1) (by omega) (by omega);have ih':=fun w=>ih (i+1) w (by omega) h1;apply ax;conv=>arg 4;whnf
  have T:=fun(v:Int) (c:Nat)=>Ea (c:=c) (H:=[]::[(6,bw v)]::H) (nm:=(H.length,6)) ⟨v,by simp,by simp⟩;simp [bD,bw]at T;simp [hia,hH,aF,hw,bw,T];simpa [bw]using ih' _
theorem Hv (l:List Int)(hn:l.length≤9223372036854775807)(hH:0<H.length)(hfree:H.get (H.length-1,ao c 6)=none):
  ∃w,aL KC (aE KC) 12 [.pure (.slice (l.map aF))] c H=some (.ay (H.length-1,ao c 6) 0,H.set (H.length-1,ao c 6) (bw w)):=by
 have key:mm (aL KC (aE KC) 12 [.pure (.slice (l.map aF))] c H) (fun x=> ∃w,x=(.ay (H.length-1,ao c 6) 0,H.set (H.length-1,ao c 6) (bw w))):=by
  refine bd KC au Tryz.func12 rfl rfl Sz rfl rfl rfl (by simp) hH ?_;have h0:=fun Q hq=>Hu l hn Q hH l.length 0 2685821657736338717 (by omega) hq;simp [bw]at h0;simp;refine h0 _ (fun w=> ?_);simp [bU,Mq,refs,dM,c9,cz,dq,dr,dedup,cJ,cf,tr,hfree,ux,jY,gY];exact⟨w,rfl⟩
 obtain⟨r,e1,w,e2⟩:=key;exact⟨w,by rw [e1,e2]⟩
end
section
variable {c:Nat} {H:aj}
@[simp] theorem ab7:IntKind.i64.wrap 1=1:=rfl
@[simp] theorem ab8:IntKind.i64.wrap 0=0:=rfl
noncomputable def cT:Int→Int→Int:=nO fun w d=>IntKind.i64.wrap (IntKind.i64.wrap (w*d)-1)
theorem An (w d:Int):cT w d=IntKind.i64.wrap (IntKind.i64.wrap (w*d)-1):=by rw [cT,cP]
theorem Ao {w d:Int}{x1 x2 x3 x4 x5:PV}(hH:0<H.length):aL KC (aE KC) 130 [.pure (.agg [.int .i64 w, .int .i64 d,x1,x2,x3,x4,x5])] c H=some (.pure (.int .i64 (IntKind.i64.wrap (w*d))),H):=by
 refine eJ rfl rfl rfl rfl rfl hH fun H hH=> ?_;refine aM (aK KC au Tryz.func130 rfl rfl LX (by simp) hH ?_);simp [ae]
theorem fM {w d n:Int}{x1 x2 x3 x4 x5:PV}(hH:0<H.length):aL KC (aE KC) 112 [.pure (.agg [.int .i64 w, .int .i64 d,x1,x2,x3,x4,x5]), .pure (.int .i64 n)] c H=some (.pure (.bool (di n 0 (cT w d))),H):=by
 refine eJ rfl rfl rfl rfl rfl hH fun H hH=> ?_;refine aM (aK KC au Tryz.func112 rfl rfl LC (by simp) hH ?_);simp [ae,Ao,c8,An]
def bK (g:Nat→Int):Nat→Nat→Int
 |0,_=>0
 |k+1,i=>if g i≠0 then g i else bK g k (i+1)
theorem re {g h:Nat→Int}: ∀(k i:Nat),(∀j,i≤j→j<i+k→g j=h j)→bK g k i=bK h k i
 |0,_,_=>rfl
 |k+1,i,hj=>by
  unfold bK;rw [hj i (by omega) (by omega),re k (i+1) fun j h1 h2=>hj j (by omega) (by omega)]
noncomputable def mq:(Int→Bool)→Int→List Int→Nat→Int:=nO fun p e l i=>if p (l.getD i 0)=false then e else if 0<i∧l.getD i 0≤l.getD (i-1) 0 then 11 else 0
theorem om (p:Int→Bool)(e:Int)(l:List Int)(i:Nat):mq p e l i=if p (l.getD i 0)=false then e else if 0<i∧l.getD i 0≤l.getD (i-1) 0 then 11 else 0:=by rw [mq,cP]
theorem Hw (l:List Int) (hn:l.length≤4611686018427387904) (p:Int→Bool) (e:Int) (he0:e≠0) (g:GV) (hg: ∀(x:Int) (c:Nat) (fr:Fr),dN KC (aE KC) g [.pure (.int .i64 x)] c (fr::H)=some (.pure (.bool (p x)),fr::H))
  (hcl: ∀fr,clean (fr::H) (H.length-1) g=g) (Q:GX→bO→Prop) (hH:0<H.length): ∀k i:Nat,i+k=l.length→
  (bK (mq p e l) k i=0→Q (.exit 0) ⟨[(6,aN)],H,35⟩)→(bK (mq p e l) k i≠0→Q .ret ⟨[(6, .pure (.int .i64 (bK (mq p e l) k i)))],H,35⟩)→
  iB KC au 123 (lp Tryz.f123 0) [0,1,2,9,10,11] [6] Q [(0, .pure (.slice (l.map aF))),(1,g),(2, .pure (.int .i64 e)),(9, .pure (.slice (l.map aF))),(10, .pure (.int .i64 l.length)),(11, .pure (.int .i64 i))] H 35:=by
 intro k
 induction k with
 |zero=>
  intro i hi h1 h2;apply ax;conv=>arg 4;whnf
  have: ¬i<l.length:=(by omega);simp [this,hH];exact h1 rfl
 |succ k ih=>
  intro i hi h1 h2;have hia:i<l.length:=(by omega);have hw:=dp (x:=(i:Int)+1) (by omega) (by omega);have hw2:=dp (x:=(i:Int)-1) (by omega) (by omega);have ih':=ih (i+1) (by omega);unfold bK at h1 h2;have hf:=om p e l i;have hgi:l.getD i 0=l[i]:=(by simp [List.getD_eq_getElem?_getD,hia]);rw [hgi]at hf;apply ax;conv=>arg 4;whnf
  by_cases hp:p l[i]=true
  ·by_cases h0:0<i
   ·have h0':(0:Int)<i:=(by omega);have hi1:i-1<l.length:=(by omega);have hgi1:l.getD (i-1) 0=l[i-1]:=(by simp [List.getD_eq_getElem?_getD,hi1]);have hnn: ¬(i:Int)-1<0:=(by omega);have htn:((i:Int)-1).toNat=i-1:=(by omega);rw [hgi1]at hf;by_cases hle:l[i]≤l[i-1]
    ·simp [hp,h0,hle]at hf;simp [hf]at h1 h2;simp [hia,hH,aF,hg,hp,hw,hw2,h0,h0',hnn,htn,hi1,hle];exact h2
    ·simp [hp,h0,hle]at hf;simp [hf]at h1 h2;simp [hia,hH,aF,hg,hp,hw,hw2,h0,h0',hnn,htn,hi1,hle,hcl];simpa [aF]using ih' h1 h2
   ·have h00:i=0:=(by omega);simp [hp,h0]at hf;simp [hf]at h1 h2;subst h00;simp [hia,hH,aF,hg,hp,hw,hcl];simpa [aF]using ih' h1 h2
  ·have hp':p l[i]=false:=(by simpa using hp);simp [hp']at hf;simp [hf,he0]at h1 h2;simp [hia,hH,aF,hg,hp'];exact h2
theorem Hz (l:List Int) (hn:l.length≤4611686018427387904) (p:Int→Bool) (e:Int) (he0:e≠0) (g:GV) (hcan:canon g=g) (hfz: ∀H,dy H g=(g,H)) (hg: ∀(x:Int) (c:Nat) (f0 fr:Fr),dN KC (aE KC) g [.pure (.int .i64 x)] c (f0::fr::H)=some (.pure (.bool (p x)),f0::fr::H))
  (hcl: ∀f0 fr,clean (f0::fr::H) (H.length) g=g) (hH:0<H.length):
  aL KC (aE KC) 123 [.pure (.slice (l.map aF)),g, .pure (.int .i64 e)] c H=some (.pure (.int .i64 (bK (mq p e l) l.length 0)),H):=by
 refine aM (bd KC au Tryz.func123 rfl rfl LN (by simp [bs,hfz]) rfl rfl (by simp) hH ?_);simp [hcan];refine Hw (H:=[]::H) l hn p e he0 g (fun x c fr=>hg x c fr []) (fun fr=>by simpa using hcl fr []) _ (by simp) l.length 0 (by omega) (fun h=> ?_) (fun h=> ?_)
 ·simp [h,ae]
 ·simp [ae]
theorem HA {w d x:Int}{x1 x2 x3 x4 x5:PV}{nm:Nm}(hg:H.get nm=some (.box [.pure (.int .i64 w), .pure (.int .i64 d), .pure x1, .pure x2, .pure x3, .pure x4, .pure x5])):
  aL KC (aE KC) 124 [.pure (.int .i64 x), .ay nm 0] c H=some (.pure (.bool (di x 0 (cT w d))),H):=by
 have hl:nm.1<H.length:=aj.bR hg;have hne: ¬nm.1=H.length:=(by omega);refine aM (bd KC au Tryz.func124 rfl rfl LO rfl rfl rfl (by simp) (by omega) ?_);simp [ae,fM,hg,hne]
theorem HB {x:Int}(hH:0<H.length):
  aL KC (aE KC) 125 [.pure (.int .i64 x)] c H=some (.pure (.bool (di x 1 3)),H):=by
 refine aM (bd KC au Tryz.func125 rfl rfl LQ rfl rfl rfl (by simp) hH ?_);simp [ae,c8]
def eK (ps:List aS)(i:Nat)(x:Int):Bool:=(ps.take i).any fun q=>q.cell==x
noncomputable def iO:Int→List aS→Nat→Int:=nO fun t ps i=>
 if di (ps.getD i ⟨0,0⟩).role 1 3=false then 4 else if di (ps.getD i ⟨0,0⟩).cell 0 t=false then 7 else if eK ps i (ps.getD i ⟨0,0⟩).cell=true then 12 else 0
theorem oo (t:Int)(ps:List aS)(i:Nat):iO t ps i=
 if di (ps.getD i ⟨0,0⟩).role 1 3=false then 4 else if di (ps.getD i ⟨0,0⟩).cell 0 t=false then 7 else if eK ps i (ps.getD i ⟨0,0⟩).cell=true then 12 else 0:=by rw [iO,cP]
noncomputable def kn:Int→List aZ→Nat→Int:=nO fun t ts i=>
 if di (ts.getD i ⟨0,0,0,0,false⟩).cell 0 t=false∨di (ts.getD i ⟨0,0,0,0,false⟩).home 0 t=false then 7 else if di (ts.getD i ⟨0,0,0,0,false⟩).state 0 15=false∨di (ts.getD i ⟨0,0,0,0,false⟩).want 0 15=false then 2 else 0
theorem qf (t:Int)(ts:List aZ)(i:Nat):kn t ts i=
 if di (ts.getD i ⟨0,0,0,0,false⟩).cell 0 t=false∨di (ts.getD i ⟨0,0,0,0,false⟩).home 0 t=false then 7 else if di (ts.getD i ⟨0,0,0,0,false⟩).state 0 15=false∨di (ts.getD i ⟨0,0,0,0,false⟩).want 0 15=false then 2 else 0:=by rw [kn,cP]
noncomputable def kx:aA→Int:=nO fun r=>
 if di r.wide 1 6=false∨di r.deep 1 6=false then 2 else if r.ah.length=0 then 6 else if 4<r.ah.length then 8
 else if bK (iO (cT r.wide r.deep) r.ah) r.ah.length 0≠0 then bK (iO (cT r.wide r.deep) r.ah) r.ah.length 0
 else if 8<r.aa.length then 8
 else if bK (kn (cT r.wide r.deep) r.aa) r.aa.length 0≠0 then bK (kn (cT r.wide r.deep) r.aa) r.aa.length 0
 else if bK (mq (fun x=>di x 0 (cT r.wide r.deep)) 7 r.seen) r.seen.length 0≠0 then bK (mq (fun x=>di x 0 (cT r.wide r.deep)) 7 r.seen) r.seen.length 0
 else bK (mq (fun x=>di x 1 3) 4 r.aX) r.aX.length 0
theorem kI (r:aA):kx r=
 if di r.wide 1 6=false∨di r.deep 1 6=false then 2 else if r.ah.length=0 then 6 else if 4<r.ah.length then 8
 else if bK (iO (cT r.wide r.deep) r.ah) r.ah.length 0≠0 then bK (iO (cT r.wide r.deep) r.ah) r.ah.length 0
 else if 8<r.aa.length then 8
 else if bK (kn (cT r.wide r.deep) r.aa) r.aa.length 0≠0 then bK (kn (cT r.wide r.deep) r.aa) r.aa.length 0
 else if bK (mq (fun x=>di x 0 (cT r.wide r.deep)) 7 r.seen) r.seen.length 0≠0 then bK (mq (fun x=>di x 0 (cT r.wide r.deep)) 7 r.seen) r.seen.length 0
 else bK (mq (fun x=>di x 1 3) 4 r.aX) r.aX.length 0:=by rw [kx,cP]
def aU (r:aA):dE:= .box [.pure (.int .i64 r.wide), .pure (.int .i64 r.deep), .pure (.slice (r.ah.map aS.row)), .pure (.slice (r.aa.map aZ.row)), .pure (.slice (r.seen.map aF)), .pure (.slice (r.aX.map aF)), .pure (.slice (r.ai.map ak.row))]
theorem wQ (ps:List aS)(i:Nat)(h:i<ps.length)(x:Int):eK ps (i+1) x=(eK ps i x||ps[i].cell==x):=by
 unfold eK;rw [List.take_succ_eq_append_getElem h,List.any_append];simp
theorem EV (ps:List aS)(n:Nat)(hn:n≤ps.length)(hl:ps.length≤4)(p:aS)(r:aA)(g30 g31 g32:PV)(Q:GX→bO→Prop)(f0:Fr)(hf0:f0=[(4, .box [.pure (.int .i64 p.role), .pure (.int .i64 p.cell)])]):
  ∀k i:Nat,i+k=n→eK ps i p.cell=false→
  (eK ps n p.cell=false→Q (.exit 4) ⟨[(1, .ay (H.length,1) 0),(2,aN),(30, .pure g30),(31, .pure g31),(32, .pure g32)],f0::[(1,aU r)]::H,106⟩)→
  (eK ps n p.cell=true→Q .ret ⟨[(1, .ay (H.length,1) 0),(2, .pure (.int .i64 12)),(30, .pure g30),(31, .pure g31),(32, .pure g32)],f0::[(1,aU r)]::H,106⟩)→
  iB KC au 89 (lp Tryz.f89 1) [1,4,30,31,32,51,52,53] [1,2,30,31,32] Q
   [(1, .ay (H.length,1) 0),(4, .ay (H.length+1,4) 0),(30, .pure g30),(31, .pure g31),(32, .pure g32),(51, .pure (.slice ((ps.take n).map aS.row))),(52, .pure (.int .i64 n)),(53, .pure (.int .i64 i))] (f0::[(1,aU r)]::H) 106:=by
 subst hf0;intro k
 induction k with
 |zero=>
  intro i hi hs h1 h2;have e:i=n:=(by omega);subst e;apply ax;conv=>arg 4;whnf
  simp [aU];exact h1 hs
 |succ k ih=>
  intro i hi hs h1 h2;have hin:i<n:=(by omega);have hil:i<ps.length:=(by omega);have hw:=dp (x:=(i:Int)+1) (by omega) (by omega);have hs1:=wQ ps i hil p.cell;apply ax;conv=>arg 4;whnf
  by_cases he:ps[i].cell=p.cell
  ·have ht:eK ps n p.cell=true:=by
    unfold eK;rw [List.any_eq_true];exact⟨ps[i],List.mem_take_iff_getElem.2 ⟨i,by omega,rfl⟩,by simp [he]⟩
   simp [hin,hil,hw,aU,aS.row,he];exact h2 ht
  ·have hs':eK ps (i+1) p.cell=false:=(by rw [hs1,hs];simpa using he);have he':(ps[i].cell==p.cell)=false:=(by simpa using he);simp [hin,hil,hw,aU,aS.row,he'];simpa [aU]using ih (i+1) (by omega) hs' h1 h2
end
section
variable {c:Nat} {H:aj}
theorem Ap (r:aA)(hl:r.ah.length≤4)(Q:GX→bO→Prop): ∀k i:Nat,i+k=r.ah.length→
  (bK (iO (cT r.wide r.deep) r.ah) k i=0→Q (.exit 1) ⟨[(1, .ay (H.length,1) 0),(2,aN)],[(1,aU r)]::H,106⟩)→
  (bK (iO (cT r.wide r.deep) r.ah) k i≠0→Q .ret ⟨[(1, .ay (H.length,1) 0),(2, .pure (.int .i64 (bK (iO (cT r.wide r.deep) r.ah) k i)))],[(1,aU r)]::H,106⟩)→
  iB KC au 89 (lp Tryz.f89 0) [1,30,31,32] [1,2] Q
   [(1, .ay (H.length,1) 0),(30, .pure (.slice (r.ah.map aS.row))),(31, .pure (.int .i64 r.ah.length)),(32, .pure (.int .i64 i))] ([(1,aU r)]::H) 106:=by
 intro k
 induction k with
 |zero=>
  intro i hi h1 h2;apply ax;conv=>arg 4;whnf
  have: ¬i<r.ah.length:=(by omega);simp [this];exact h1 rfl
 |succ k ih=>
  intro i hi h1 h2;have hia:i<r.ah.length:=(by omega);have hw:=dp (x:=(i:Int)+1) (by omega) (by omega);have ih':=ih (i+1) (by omega);unfold bK at h1 h2;have hf:=oo (cT r.wide r.deep) r.ah i;have hgi:r.ah.getD i ⟨0,0⟩=r.ah[i]:=(by simp [List.getD_eq_getElem?_getD,hia]);rw [hgi]at hf;have hmin:min i r.ah.length=i:=(by omega);have hile:i≤r.ah.length:=(by omega);have hnn: ¬(r.ah.length:Int)<i:=(by omega);apply ax;conv=>arg 4;whnf
  by_cases h3:di r.ah[i].role 1 3=true
  ·by_cases h4:di r.ah[i].cell 0 (cT r.wide r.deep)=true
   ·simp [hia,hile,hmin,aS.row,aU,c8,fM,h3,h4];have L:=fun Q=>EV (H:=H) r.ah i (by omega) hl r.ah[i] r (.slice (r.ah.map aS.row)) (.int .i64 r.ah.length) (.int .i64 i) Q _ rfl i 0 (by omega) (by simp [eK]);simp [aU]at L;refine L _ (fun h5=> ?_) (fun h5=> ?_)
    ·simp [h3,h4,h5]at hf;simp [hf]at h1 h2;simp [hw];simpa [aU]using ih' h1 h2
    ·simp [h3,h4,h5]at hf;simp [hf]at h1 h2;simp;simpa [aU]using h2
   ·have h4':di r.ah[i].cell 0 (cT r.wide r.deep)=false:=(by simpa using h4);simp [h3,h4']at hf;simp [hf]at h1 h2;simp [hia,aS.row,aU,c8,fM,h3,h4'];simpa [aU]using h2
  ·have h3':di r.ah[i].role 1 3=false:=(by simpa using h3);simp [h3']at hf;simp [hf]at h1 h2;simp [hia,aS.row,aU,c8,fM,h3'];simpa [aU]using h2
theorem Cg (r:aA)(hl:r.aa.length≤8)(Q:GX→bO→Prop): ∀k i:Nat,i+k=r.aa.length→
  (bK (kn (cT r.wide r.deep) r.aa) k i=0→Q (.exit 6) ⟨[(1, .ay (H.length,1) 0),(2,aN)],[(1,aU r)]::H,106⟩)→
  (bK (kn (cT r.wide r.deep) r.aa) k i≠0→Q .ret ⟨[(1, .ay (H.length,1) 0),(2, .pure (.int .i64 (bK (kn (cT r.wide r.deep) r.aa) k i)))],[(1,aU r)]::H,106⟩)→
  iB KC au 89 (lp Tryz.f89 2) [1,69,70,71] [1,2] Q
   [(1, .ay (H.length,1) 0),(69, .pure (.slice (r.aa.map aZ.row))),(70, .pure (.int .i64 r.aa.length)),(71, .pure (.int .i64 i))] ([(1,aU r)]::H) 106:=by
 intro k
 induction k with
 |zero=>
  intro i hi h1 h2;apply ax;conv=>arg 4;whnf
  have: ¬i<r.aa.length:=(by omega);simp [this];exact h1 rfl
 |succ k ih=>
  intro i hi h1 h2;have hia:i<r.aa.length:=(by omega);have hw:=dp (x:=(i:Int)+1) (by omega) (by omega);have ih':=ih (i+1) (by omega);unfold bK at h1 h2;have hf:=qf (cT r.wide r.deep) r.aa i;have hgi:r.aa.getD i ⟨0,0,0,0,false⟩=r.aa[i]:=(by simp [List.getD_eq_getElem?_getD,hia]);rw [hgi]at hf;apply ax;conv=>arg 4;whnf
  cases h3:di r.aa[i].cell 0 (cT r.wide r.deep)with
  |false=>
   simp [h3]at hf;simp [hf]at h1 h2;simp [hia,aZ.row,aU,c8,fM,h3];simpa [aU]using h2
  |true=>
   cases h4:di r.aa[i].home 0 (cT r.wide r.deep)with
   |false=>
    simp [h3,h4]at hf;simp [hf]at h1 h2;simp [hia,aZ.row,aU,c8,fM,h3,h4];simpa [aU]using h2
   |true=>
    cases h5:di r.aa[i].state 0 15 with
    |false=>
     simp [h3,h4,h5]at hf;simp [hf]at h1 h2;simp [hia,aZ.row,aU,c8,fM,h3,h4,h5];simpa [aU]using h2
    |true=>
     cases h6:di r.aa[i].want 0 15 with
     |false=>
      simp [h3,h4,h5,h6]at hf;simp [hf]at h1 h2;simp [hia,aZ.row,aU,c8,fM,h3,h4,h5,h6];simpa [aU]using h2
     |true=>
      simp [h3,h4,h5,h6]at hf;simp [hf]at h1 h2;simp [hia,aZ.row,aU,c8,fM,h3,h4,h5,h6,hw];simpa [aU]using ih' h1 h2
theorem eE (r:aA):r.row=[.int .i64 r.wide, .int .i64 r.deep, .slice (r.ah.map aS.row), .slice (r.aa.map aZ.row), .slice (r.seen.map aF), .slice (r.aX.map aF), .slice (r.ai.map ak.row)]:=rfl
theorem Mt (r:aA){x:Int}{nm:Nm}(hg:H.get nm=some (aU r)):aL KC (aE KC) 124 [.pure (.int .i64 x), .ay nm 0] c H=some (.pure (.bool (di x 0 (cT r.wide r.deep))),H):=HA hg
theorem yK (r:aA)(h1:r.seen.length≤1000000)(h2:r.aX.length≤1000000)(h3:r.ah.length≤1000000)(h4:r.aa.length≤1000000)(hH:0<H.length):
  aL KC (aE KC) 89 [.pure (.agg r.row)] c H=some (.pure (.int .i64 (kx r)),H):=by
 refine eJ rfl rfl rfl rfl rfl hH fun H hH=> ?_;refine aM (aK KC au Tryz.func89 rfl rfl Tq (by simp) hH ?_);have hr:=kI r;rw [eE]
 cases e1:di r.wide 1 6 with
 |false=>
  simp [e1]at hr;simp [c8,e1,ae,hr]
 |true=>
 cases e2:di r.deep 1 6 with
 |false=>
  simp [e1,e2]at hr;simp [c8,e1,e2,ae,hr]
 |true=>
 by_cases e3:r.ah.length=0
 ·have e3':r.ah=[]:=List.length_eq_zero_iff.1 e3;simp [e1,e2,e3,e3']at hr;simp [c8,e1,e2,e3,e3',ae,hr]
 have e3':((r.ah.length:Int)==0)=false:=beq_eq_false_iff_ne.2 (by omega);by_cases e4:4<r.ah.length
 ·have e4':(4:Int)<r.ah.length:=(by omega);simp [e1,e2,e3,e4]at hr;simp [c8,e1,e2,e3,e3',e4,e4',ae,hr]
 have e4': ¬(4:Int)<r.ah.length:=(by omega);simp only [e1,e2,e3,e4,Bool.true_eq_false,or_self,if_false]at hr;simp [c8,e1,e2,e3,e3',e4,e4'];have L:=fun Q=>Ap (H:=H) r (by omega) Q r.ah.length 0 (by omega);simp [aU]at L;refine L _ (fun z1=> ?_) (fun z1=> ?_)
 ·by_cases e5:8<r.aa.length
  ·have e5':(8:Int)<r.aa.length:=(by omega);simp [z1,e5]at hr;simp [e5',e5,ae,hr]
  ·have e5': ¬(8:Int)<r.aa.length:=(by omega);simp only [z1,e5,ne_eq,not_true_eq_false,if_false]at hr;simp [e5',e5];have L2:=fun Q=>Cg (H:=H) r (by omega) Q r.aa.length 0 (by omega);simp [aU]at L2;refine L2 _ (fun z2=> ?_) (fun z2=> ?_)
   ·simp only [z2,ne_eq,not_true_eq_false,if_false]at hr;have A:=fun c=>Hz (c:=c) (H:=[(1,aU r)]::H) r.seen (by omega) (fun x=>di x 0 (cT r.wide r.deep)) 7 (by decide) (.func 124 [] [.ay (H.length,1) 0]) rfl (fun _=>rfl) (fun x c f0 fr=>by
     rw [m0];exact Mt r (by simp)) (fun f0 fr=>by simp) (by simp)
    have B:=fun(H:aj) c (hH:0<H.length)=>Hz (c:=c) (H:=H) r.aX (by omega) (fun x=>di x 1 3) 4 (by decide) (.pure (.fn 125)) rfl (fun _=>rfl) (fun x c f0 fr=>by
     rw [uT];exact HB (by simp)) (fun f0 fr=>by simp) hH
    simp [aU]at A;by_cases z3:bK (mq (fun x=>di x 0 (cT r.wide r.deep)) 7 r.seen) r.seen.length 0=0
    ·simp only [z3,ne_eq,not_true_eq_false,if_false]at hr;simp [A,z3,B,ae,hr]
    ·have z3':(bK (mq (fun x=>di x 0 (cT r.wide r.deep)) 7 r.seen) r.seen.length 0 !=0)=true:=(by simpa using z3);simp only [z3,ne_eq,not_false_eq_true,if_true]at hr;simp [A,z3,z3',ae,hr]
   ·simp [z2]at hr;simp [ae,hr]
 ·simp [z1]at hr;simp [ae,hr]
end
section
variable {c:Nat} {H:aj}
def nP (a:ak):Bool:=
 if a.kind=1 then decide (a.hand=0∧a.bf=0∧a.other=0)
 else if a.kind=2 then decide (a.cell=0∧a.other=0)
 else if a.kind=4 then decide (a.bf=0∧a.cell=0)
 else decide (a.bf=0∧a.cell=0∧a.other=0)
noncomputable def dX:Int→Int→Int→ak→Int:=nO fun t nt np a=>
 if di a.kind 1 8=false then 4 else if nP a=false then 3 else if a.kind=1∧di a.cell 0 t=false then 7 else if di a.hand 0 1=false then 2
 else if a.kind=2∧di a.bf 0 (nt-1)=false then 7 else if a.kind=4∧di a.other 0 (np-1)=false then 7 else if a.kind=4∧a.other=a.aO then 3 else 0
theorem ot (t nt np:Int)(a:ak):dX t nt np a=
 if di a.kind 1 8=false then 4 else if nP a=false then 3 else if a.kind=1∧di a.cell 0 t=false then 7 else if di a.hand 0 1=false then 2
 else if a.kind=2∧di a.bf 0 (nt-1)=false then 7 else if a.kind=4∧di a.other 0 (np-1)=false then 7 else if a.kind=4∧a.other=a.aO then 3 else 0:=by rw [dX,cP]
theorem Ch (k:Int):k=1∨k=2∨k=4∨(k=3∨k=5∨k=6∨k=7∨k=8)∨(di k 1 8=false∧k≠1∧k≠2∧k≠3∧k≠4∧k≠5∧k≠6∧k≠7∧k≠8):=by
 by_cases h:1≤k∧k≤8
 ·omega
 ·refine .inr (.inr (.inr (.inr ⟨?_,by omega,by omega,by omega,by omega,by omega,by omega,by omega,by omega⟩)));simp [di];omega
theorem ou {r:aA}{q1 q2 kind hand bf cell other q3 q4:Int}(h1:r.ah.length≤1000000)(h2:r.aa.length≤1000000)(hH:0<H.length):
  aL KC (aE KC) 73 [.pure (.agg r.row), .pure (.agg [.int .i64 q1, .int .i64 q2, .int .i64 kind, .int .i64 hand, .int .i64 bf, .int .i64 cell, .int .i64 other, .int .i64 q3, .int .i64 q4])] c H=
   some (.pure (.int .i64 (dX (cT r.wide r.deep) r.aa.length r.ah.length ⟨q1,q2,kind,hand,bf,cell,other,q3,q4⟩)),H):=by
 refine eJ rfl rfl rfl rfl rfl hH fun H hH=> ?_;refine aM (aK KC au Tryz.func73 rfl rfl Th (by simp) hH ?_);have hr:=ot (cT r.wide r.deep) r.aa.length r.ah.length ⟨q1,q2,kind,hand,bf,cell,other,q3,q4⟩;simp only [nP]at hr;rw [eE];have w1:=dp (x:=(r.ah.length:Int)-1) (by omega) (by omega);have w2:=dp (x:=(r.aa.length:Int)-1) (by omega) (by omega);have i0:di 0 0 1=true:=rfl;rcases Ch kind with rfl|rfl|rfl|hk|⟨hk,n1,n2,n3,n4,n5,n6,n7,n8⟩
 ·have i1:di 1 1 8=true:=rfl;by_cases a1:hand=0
  ·by_cases a2:bf=0
   ·by_cases a3:other=0
    ·subst a1;subst a2;subst a3
     cases a4:di cell 0 (cT r.wide r.deep)with
     |false=>
      simp [a4,i1,i0]at hr;simp [c8,fM,a4,ae,hr]
     |true=>
      simp [a4,i1,i0]at hr;simp [c8,fM,a4,i0,ae,hr]
    ·have a3':(other==0)=false:=(by simpa using a3);subst a1;subst a2;simp [a3,i1]at hr;simp [a3',bne,ae,hr]
   ·have a2':(bf==0)=false:=(by simpa using a2);subst a1;simp [a2,i1]at hr;simp [a2',bne,ae,hr]
  ·have a1':(hand==0)=false:=(by simpa using a1);simp [a1,i1]at hr;simp [a1',bne,ae,hr]
 ·have i1:di 2 1 8=true:=rfl;by_cases a1:cell=0
  ·by_cases a2:other=0
   ·subst a1;subst a2
    cases a3:di hand 0 1 with
    |false=>
     simp [a3,i1]at hr;simp [c8,a3,ae,hr]
    |true=>
     cases a4:di bf 0 ((r.aa.length:Int)-1)with
     |false=>
      simp [a3,a4,i1]at hr;simp [c8,a3,a4,w2,ae,hr]
     |true=>
      simp [a3,a4,i1]at hr;simp [c8,a3,a4,w2,ae,hr]
   ·have a2':(other==0)=false:=(by simpa using a2);subst a1;simp [a2,i1]at hr;simp [a2',bne,ae,hr]
  ·have a1':(cell==0)=false:=(by simpa using a1);simp [a1,i1]at hr;simp [a1',bne,ae,hr]
 ·have i1:di 4 1 8=true:=rfl;by_cases a1:bf=0
  ·by_cases a2:cell=0
   ·subst a1;subst a2
    cases a3:di hand 0 1 with
    |false=>
     simp [a3,i1]at hr;simp [c8,a3,ae,hr]
    |true=>
     cases a4:di other 0 ((r.ah.length:Int)-1)with
     |false=>
      simp [a3,a4,i1]at hr;simp [c8,a3,a4,w1,ae,hr]
     |true=>
      by_cases a5:other=q2
      ·subst a5;simp [a3,a4,i1]at hr;simp [c8,a3,a4,w1,ae,hr]
      ·have a5':(other==q2)=false:=(by simpa using a5);simp [a3,a4,a5,i1]at hr;simp [c8,a3,a4,a5',w1,ae,hr]
   ·have a2':(cell==0)=false:=(by simpa using a2);subst a1;simp [a2,i1]at hr;simp [a2',bne,ae,hr]
  ·have a1':(bf==0)=false:=(by simpa using a1);simp [a1,i1]at hr;simp [a1',bne,ae,hr]
 ·have i1:di kind 1 8=true:=(by simp [di];omega);have m1:kind≠1:=(by omega);have m2:kind≠2:=(by omega);have m4:kind≠4:=(by omega);by_cases a1:bf=0
  ·by_cases a2:cell=0
   ·by_cases a3:other=0
    ·subst a1;subst a2;subst a3
     cases a4:di hand 0 1 with
     |false=>
      simp [a4,i1,m1,m2,m4]at hr;rcases hk with rfl|rfl|rfl|rfl|rfl<;>simp [c8,a4,ae,hr]
     |true=>
      simp [a4,i1,m1,m2,m4]at hr;rcases hk with rfl|rfl|rfl|rfl|rfl<;>simp [c8,a4,ae,hr]
    ·have a3':(other==0)=false:=(by simpa using a3);subst a1;subst a2;simp [a3,i1,m1,m2,m4]at hr;rcases hk with rfl|rfl|rfl|rfl|rfl<;>simp [a3',bne,ae,hr]
   ·have a2':(cell==0)=false:=(by simpa using a2);subst a1;simp [a2,i1,m1,m2,m4]at hr;rcases hk with rfl|rfl|rfl|rfl|rfl<;>simp [a2',bne,ae,hr]
  ·have a1':(bf==0)=false:=(by simpa using a1);simp [a1,i1,m1,m2,m4]at hr;rcases hk with rfl|rfl|rfl|rfl|rfl<;>simp [a1',bne,ae,hr]
 ·have e1:(kind==1)=false:=(by simpa using n1);have e2:(kind==2)=false:=(by simpa using n2);have e3:(kind==3)=false:=(by simpa using n3);have e4:(kind==4)=false:=(by simpa using n4);have e5:(kind==5)=false:=(by simpa using n5);have e6:(kind==6)=false:=(by simpa using n6);have e7:(kind==7)=false:=(by simpa using n7);have e8:(kind==8)=false:=(by simpa using n8);simp [hk]at hr;simp [e1,e2,e3,e4,e5,e6,e7,e8,ae,hr]
end
end Go.Gh
