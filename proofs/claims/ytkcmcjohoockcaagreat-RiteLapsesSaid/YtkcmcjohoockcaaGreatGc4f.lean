/- Texts joined: the evaluator over ghost values, its soundness, the walks. Spaces struck and names made short by a program, for the size. -/
import Derived.Test.YtkcmcjohoockcaaGreatGc4e
import Derived.Test.YtkcmcjohoockcaaGreatProg
import Derived.KernelRfl
import Derived.IntWalk
namespace Go.Gh
open Go.Proofs
set_option linter.unusedVariables false
set_option linter.unusedSimpArgs false
set_option linter.unnecessarySimpa false
set_option maxRecDepth 100000
set_option maxHeartbeats 8000000
section
section
variable {K:Ctx} {fn:FuncId} {rec:Rec} {dst:Option Tmp} {ty:TypeId} {pos:String} {af:Array Edge} {gu:Option (Nat×Bool)} {s:bd} {H:aj}
def uT (P:Program)(t:TypeId):Option (Option Nat×Option Nat×Option Nat):=(dY P t).map fun e=>(bD P e,lx P e,tQ P e)
def apV (lv:Option Nat)(k:Nat→Option (GV×aj)):Option (GV×aj):=match lv with|some l=>k l|none=>none
@[congr] theorem ad4 {lv lv':Option Nat}{k:Nat→Option (GV×aj)}(h: ∀_:Unit,lv=lv'):apV lv k=apV lv' k:=by rw [h ()]
@[simp] theorem aaz {l:Nat}{k:Nat→Option (GV×aj)}:apV (some l) k=k l:= .trans rfl rfl
def GG (ta:Option (Option Nat×Option Nat×Option Nat))(xs:Option (List (List PV)×aj))(k:Nat→Nat→List (List PV)→aj→Option (GV×aj)):Option (GV×aj):=
 match ta,xs with
 |some (some size,some bytes,zs),some (xs,H)=>
  if zs=some size∧(xs.all fun r=>r.length==size)=true∧0<size∧0<bytes∧bytes≤1048576 then k size bytes xs H else none
 |_,_=>none
@[congr] theorem ac0 {ta ta':Option (Option Nat×Option Nat×Option Nat)}{xs xs':Option (List (List PV)×aj)}{k:Nat→Nat→List (List PV)→aj→Option (GV×aj)}(h: ∀_:Unit,ta=ta')(h': ∀_:Unit,xs=xs'):GG ta xs k=GG ta' xs' k:=by rw [h (),h' ()]
@[simp] theorem Xn {size bytes:Nat}{zs:Option Nat}{xs:List (List PV)}{k:Nat→Nat→List (List PV)→aj→Option (GV×aj)}:GG (some (some size,some bytes,zs)) (some (xs,H)) k=
  if zs=some size∧(xs.all fun r=>r.length==size)=true∧0<size∧0<bytes∧bytes≤1048576 then k size bytes xs H else none:= .trans rfl rfl
def vo (l key:Nat)(s:GV)(size bytes:Nat)(xs:List (List PV))(H:aj):Option (GV×aj):=
 match s with
 | .aS=>
  if xs.length*bytes≤1099511627776 then (if xs.isEmpty then some (.aS,H)else rn (lD H l key (.arr size xs 0 false)) fun nm=> .aW nm size xs.length 0 xs.length)else none
 | .aW nm es top lo len=>
  (match H.get nm with
  |some (.arr es' elems vf ro)=>
   if es'=size∧es=size∧top=elems.length∧lo=0∧len=top∧vf≤top∧ro=false∧(len+xs.length)*bytes≤1099511627776 then
    (if xs.isEmpty then some (.aW nm es top lo len,H)else some (.aW nm es (top+xs.length) 0 (top+xs.length),H.set nm (.arr es' (elems++xs) vf false)))
   else if es'=size∧es=size∧top=elems.length∧vf≤top∧ro=false∧lo+len+xs.length≤top then
    (if xs.isEmpty then some (.aW nm es top lo len,H)else some (.aW nm es top lo (len+xs.length),H.set nm (.arr es' (aE elems (lo+len) xs) top false)))
   else none
  |_=>none)
 |_=>none
@[simp] theorem c8 {l key size bytes:Nat}{xs:List (List PV)}:vo l key .aS size bytes xs H=
  if xs.length*bytes≤1099511627776 then (if xs.isEmpty then some (.aS,H)else rn (lD H l key (.arr size xs 0 false)) fun nm=> .aW nm size xs.length 0 xs.length)else none:= .trans rfl rfl
def apH (H:aj)(nm:Nm)(es top lo len size bytes:Nat)(xs:List (List PV))(b:Option dM):Option (GV×aj):=match b with
  |some (.arr es' elems vf ro)=>
   if es'=size∧es=size∧top=elems.length∧lo=0∧len=top∧vf≤top∧ro=false∧(len+xs.length)*bytes≤1099511627776 then
    (if xs.isEmpty then some (.aW nm es top lo len,H)else some (.aW nm es (top+xs.length) 0 (top+xs.length),H.set nm (.arr es' (elems++xs) vf false)))
   else if es'=size∧es=size∧top=elems.length∧vf≤top∧ro=false∧lo+len+xs.length≤top then
    (if xs.isEmpty then some (.aW nm es top lo len,H)else some (.aW nm es top lo (len+xs.length),H.set nm (.arr es' (aE elems (lo+len) xs) top false)))
   else none
  |_=>none
@[congr] theorem ad5 {nm:Nm}{es top lo len size bytes:Nat}{xs:List (List PV)}{b b':Option dM}(h: ∀_:Unit,b=b'):apH H nm es top lo len size bytes xs b=apH H nm es top lo len size bytes xs b':=by rw [h ()]
@[simp] theorem ac1 {nm:Nm}{es top lo len size bytes:Nat}{xs:List (List PV)}{es' vf:Nat}{elems:List (List PV)}{ro:Bool}:apH H nm es top lo len size bytes xs (some (.arr es' elems vf ro))=
      if es'=size∧es=size∧top=elems.length∧lo=0∧len=top∧vf≤top∧ro=false∧(len+xs.length)*bytes≤1099511627776 then
        (if xs.isEmpty then some (.aW nm es top lo len,H)else some (.aW nm es (top+xs.length) 0 (top+xs.length),H.set nm (.arr es' (elems++xs) vf false)))
      else if es'=size∧es=size∧top=elems.length∧vf≤top∧ro=false∧lo+len+xs.length≤top then
        (if xs.isEmpty then some (.aW nm es top lo len,H)else some (.aW nm es top lo (len+xs.length),H.set nm (.arr es' (aE elems (lo+len) xs) top false)))
      else none:= .trans rfl rfl
@[simp] theorem ac2 {l key size bytes:Nat}{xs:List (List PV)}{nm:Nm}{es top lo len:Nat}:vo l key (.aW nm es top lo len) size bytes xs H=apH H nm es top lo len size bytes xs (H.get nm):=by
 unfold vo apH;rfl
theorem BJ {l key:Nat}{t:TypeId}{a x:GV}:pO K H l key t a x=GG (uT K.P t) (gn H x) (vo l key a):=by
 unfold pO uT
 cases dY K.P t with
 |none=>rfl
 |some e=>
  simp only [Option.map_some]
  cases bD K.P e with
  |none=>rfl
  |some size=>
   cases lx K.P e with
   |none=>rfl
   |some bytes=>
    cases gn H x with
    |none=>rfl
    |some y=>
     obtain⟨xs,H1⟩:=y;simp only [GG];by_cases hc:tQ K.P e=some size∧(xs.all fun r=>r.length==size)=true∧0<size∧0<bytes∧bytes≤1048576
     ·obtain⟨h1,h2,h3,h4,h5⟩:=hc;simp only [h1,h2,h3,h4,h5,decide_true,Bool.and_self,and_self,if_true];unfold vo
      cases a with
      |aS=>
       simp only;split
       ·split
        ·rfl
        ·cases lD H1 l key (.arr size xs 0 false)<;>rfl
       ·rfl
      |aW nm es top lo len=>rfl
      |_=>rfl
     ·rw [if_neg hc,if_neg];intro h;simp only [Bool.and_eq_true,decide_eq_true_eq]at h;exact hc ⟨h.1.1.1.1,h.1.1.1.2,h.1.1.2,h.1.2,h.2⟩
def apR (r:Option Nat)(x:Option (GV×aj))(y:Nat→Option (GV×aj)):Option (GV×aj):=match r with|none=>x|some key=>y key
@[simp] theorem aaB {x:Option (GV×aj)}{y:Nat→Option (GV×aj)}:apR none x y=x:= .trans rfl rfl
def upX (bn:Option Nm)(k:Nm→Option (GV×aj)):Option (GV×aj):=match bn with|some l=>k l|none=>none
@[congr] theorem ad7 {lv lv':Option Nm}{k:Nm→Option (GV×aj)}(h: ∀_:Unit,lv=lv'):upX lv k=upX lv' k:=by rw [h ()]
@[simp] theorem aaC {l:Nm}{k:Nm→Option (GV×aj)}:upX (some l) k=k l:= .trans rfl rfl
def upN:GV→Option Nm| .aD nm _=>some nm|_=>none
@[simp] theorem aaD {nm:Nm}{o:Nat}:upN (.aD nm o)=some nm:= .trans rfl rfl
@[simp] theorem Xo {t:Nat}:pZ s (.box t)=upN (look s t):=by
 unfold pZ upN;rfl
@[simp] theorem Tz {d:Nat}{x y:Operand}{t t2:TypeId}:eP K fn ⟨some d, .call ⟨.builtin .append,#[x,y],#[t,t2]⟩,ty,pos,af,gu⟩ s H=
  if ey K.P (some t2)=true then apR (K.row fn d) (apV (jX H s (K.up fn d)) fun l=>GG (uT K.P t) (gn H (ev s y)) (vo l d (ev s x))) fun key=>upX (pZ s (K.up fn d)) fun bn=>oL K H bn key t (ev s x) (ev s y)else none:=by
 show (if ey K.P (some t2)=true then (match K.row fn d with|none=>(match jX H s (K.up fn d)with|some l=>pO K H l d t (ev s x) (ev s y)|none=>none)|some key=>(match pZ s (K.up fn d)with|some bn=>oL K H bn key t (ev s x) (ev s y)|none=>none))else none)=_
 split
 ·cases K.row fn d with
  |none=>
   simp only [apR]
   cases jX H s (K.up fn d)with
   |none=>rfl
   |some l=>exact BJ
  |some key=>rfl
 ·rfl
@[simp] theorem IX {n:Nat}:jX H s (.scopes n)=if H.length≤n then none else some (H.length-1-n):= .trans rfl rfl
def upB:GV→Option Nat| .aD nm _=>some nm.1|_=>none
@[simp] theorem aaE {nm:Nm}{o:Nat}:upB (.aD nm o)=some nm.1:= .trans rfl rfl
@[simp] theorem PG {t:Nat}:jX H s (.box t)=upB (look s t):=by
 unfold jX upB;rfl
@[simp] theorem TA {l key:Nat}{b:dM}:lD H l key b=if H.length≤l then none else if (H.get (l,key)).isSome then none else some ((l,key),H.set (l,key) b):=by
 unfold lD;split
 ·rfl
 ·cases H.get (l,key)<;>simp
@[simp] theorem PH:gn H .aS=some ([],H):= .trans rfl rfl
@[simp] theorem PI {l:List (List PV)}:gn H (.pure (.slice l))=some (l,H):= .trans rfl rfl
def elH (H:aj)(x:PV):Option (List (List PV)×aj):=match x with| .slice l=>some (l,H)|_=>none
@[simp] theorem Xp {l:List (List PV)}:elH H (.slice l)=some (l,H):= .trans rfl rfl
@[simp] theorem wJ {nm:Nm}{es top lo len:Nat}:gn H (.aW nm es top lo len)=elH H (slD es top lo len (H.get nm)):=by
 rw [←ur];unfold gn elH;simp only;generalize js H nm es top lo len=q;cases q<;>rfl
@[simp] theorem Xq {t:TypeId}{x:Operand}{lo hi mx:Option Operand}:eP K fn ⟨dst, .slice t x lo hi mx,ty,pos,af,gu⟩ s H=rv H (km K t (ev s x) (lo.map (ev s)) (hi.map (ev s)) (mx.map (ev s))):=by
 simp only [eP,rv];rfl
def slP (es:Option (Option Nat))(a b:Option Nat)(l:List (List PV)):Option GV:=
 match es,a,b with
 |some (some es),some a,some b=>if a≤b∧b≤l.length∧(l.all fun r=>r.length==es)=true then some (.pure (.slice ((l.take b).drop a)))else none
 |_,_,_=>none
@[simp] theorem aaG {es a b:Nat}{l:List (List PV)}:slP (some (some es)) (some a) (some b) l=if a≤b∧b≤l.length∧(l.all fun r=>r.length==es)=true then some (.pure (.slice ((l.take b).drop a)))else none:= .trans rfl rfl
@[simp] theorem PJ {t:TypeId}{l:List (List PV)}{lo hi:Option GV}:km K t (.pure (.slice l)) lo hi none=slP (fR K.P t) (cZ lo 0) (cZ hi l.length) l:=by
 unfold km slP fR;simp only [Option.isSome_none,Bool.false_eq_true,if_false];generalize cZ lo 0=a;generalize cZ hi l.length=b;rcases a with _|a<;>rcases b with _|b
 ·cases dY K.P t with
  |none=>rfl
  |some e=>simp only [Option.map_some];cases bD K.P e<;>rfl
 ·cases dY K.P t with
  |none=>rfl
  |some e=>simp only [Option.map_some];cases bD K.P e<;>rfl
 ·cases dY K.P t with
  |none=>rfl
  |some e=>simp only [Option.map_some];cases bD K.P e<;>rfl
 ·cases dY K.P t with
  |none=>rfl
  |some e=>
   simp only [Option.map_some]
   cases bD K.P e with
   |none=>simp
   |some es=>
    simp only;by_cases h:a≤b∧b≤l.length
    ·rw [if_pos h];simp only [h.1,h.2,true_and]
    ·rw [if_neg h,if_neg (fun h'=>h ⟨h'.1,h'.2.1⟩)]
def slH (es:Option (Option Nat))(a b:Option Nat)(nm:Nm)(es' top l0 len:Nat):Option GV:=
 match es,a,b with
 |some es,some a,some b=>if a≤b∧(b≤len∨l0+b≤top)∧es=some es' then (if a=b∧0<a then some (.pure (.slice []))else some (.aW nm es' top (l0+a) (b-a)))else none
 |_,_,_=>none
@[simp] theorem aaH {es:Option Nat}{a b:Nat}{nm:Nm}{es' top l0 len:Nat}:slH (some es) (some a) (some b) nm es' top l0 len=if a≤b∧(b≤len∨l0+b≤top)∧es=some es' then (if a=b∧0<a then some (.pure (.slice []))else some (.aW nm es' top (l0+a) (b-a)))else none:= .trans rfl rfl
@[simp] theorem TB {t:TypeId}{nm:Nm}{es top l0 len:Nat}{lo hi:Option GV}:km K t (.aW nm es top l0 len) lo hi none=slH (fR K.P t) (cZ lo 0) (cZ hi len) nm es top l0 len:=by
 unfold km slH fR;simp only [Option.isSome_none,Bool.false_eq_true,if_false];generalize cZ lo 0=a;generalize cZ hi len=b
 cases dY K.P t with
 |none=>cases a<;>cases b<;>rfl
 |some e=>cases a<;>cases b<;>rfl
def slX (es:Option (Option Nat))(a:Option Nat)(b m:Int)(x:GV):Option GV:=
 match es,a with
 |some (some es'),some a=>
  (match x with
  | .aS=>if a=0∧b=0∧m=0 then some .aS else none
  | .pure (.slice _)=>if a=0∧b=0∧m=0 then some .aS else none
  | .aW nm es top l0 len=>
   if a=0∧b=0∧m=0 then some .aS
   else if (a:Int)<b∧b≤m∧m=len∧l0+len=top∧es'=es then some (.aW nm es top (l0+a) (b.toNat-a))else none
  |_=>none)
 |_,_=>none
@[simp] theorem ac4 {es' a:Nat}{b m:Int}{nm:Nm}{es top l0 len:Nat}:slX (some (some es')) (some a) b m (.aW nm es top l0 len)=
  if a=0∧b=0∧m=0 then some .aS
  else if (a:Int)<b∧b≤m∧m=len∧l0+len=top∧es'=es then some (.aW nm es top (l0+a) (b.toNat-a))else none:= .trans rfl rfl
@[simp] theorem TC {t:TypeId}{x:GV}{lo:Option GV}{k k':IntKind}{b m:Int}:km K t x lo (some (.pure (.int k b))) (some (.pure (.int k' m)))=slX (fR K.P t) (cZ lo 0) b m x:=by
 unfold km slX fR;simp only [Option.isSome_some,if_true];generalize cZ lo 0=a
 cases dY K.P t with
 |none=>cases a<;>rfl
 |some e=>
  simp only [Option.map_some]
  cases a with
  |none=>cases bD K.P e<;>rfl
  |some a=>
   simp only
   cases bD K.P e with
   |none=>rfl
   |some es=>
    cases x with
    |pure p=>cases p<;>rfl
    |_=>rfl
def GH (e:Option Nat)(z:Option (List PV))(H:aj)(x:GV):Option aj:=
 match e,z,x with
 |some size,some ps, .aW nm es top lo len=>
  (match H.get nm with
  |some (.arr es' elems vf ro)=>if es'=size∧es=size∧ps.length=size∧top=elems.length∧vf≤top∧ro=false∧lo+len≤top∧0<len then some (H.set nm (.arr es' (aE elems lo (List.replicate len ps)) top false))else none
  |_=>none)
 |_,_,_=>none
def IY (P:Program)(t:TypeId):Option (Option Nat×Option (List PV)):=(dY P t).map fun e=>(bD P e,match cT P e with|some z=>(match bQ z with|some zs=>bG (zs.map cK)|none=>none)|none=>none)
def IZ (r:Option (Option Nat×Option (List PV)))(H:aj)(x:GV):Option aj:=match r with|some (e,z)=>GH e z H x|none=>none
@[simp] theorem Xr {e:Option Nat}{z:Option (List PV)}{x:GV}:IZ (some (e,z)) H x=GH e z H x:= .trans rfl rfl
def L9 (H:aj)(size:Nat)(ps:List PV)(nm:Nm)(es top lo len:Nat)(b:Option dM):Option aj:=match b with
  |some (.arr es' elems vf ro)=>if es'=size∧es=size∧ps.length=size∧top=elems.length∧vf≤top∧ro=false∧lo+len≤top∧0<len then some (H.set nm (.arr es' (aE elems lo (List.replicate len ps)) top false))else none
  |_=>none
@[congr] theorem ac5 {size:Nat}{ps:List PV}{nm:Nm}{es top lo len:Nat}{b b':Option dM}(h: ∀_:Unit,b=b'):L9 H size ps nm es top lo len b=L9 H size ps nm es top lo len b':=by rw [h ()]
@[simp] theorem aaI {size:Nat}{ps:List PV}{nm:Nm}{es top lo len:Nat}{es' vf:Nat}{elems:List (List PV)}{ro:Bool}:L9 H size ps nm es top lo len (some (.arr es' elems vf ro))=
  if es'=size∧es=size∧ps.length=size∧top=elems.length∧vf≤top∧ro=false∧lo+len≤top∧0<len then some (H.set nm (.arr es' (aE elems lo (List.replicate len ps)) top false))else none:= .trans rfl rfl
@[simp] theorem aaJ {size:Nat}{ps:List PV}{nm:Nm}{es top lo len:Nat}:GH (some size) (some ps) H (.aW nm es top lo len)=L9 H size ps nm es top lo len (H.get nm):= .trans rfl rfl
theorem DF {t:TypeId}{x:GV}:te K t H x=IZ (IY K.P t) H x:=by
 unfold te IY
 cases dY K.P t with
 |none=>rfl
 |some e=>
  simp only [Option.map_some,IZ]
  cases bD K.P e with
  |none=>rfl
  |some size=>
   cases cT K.P e with
   |none=>cases x<;>rfl
   |some z=>
    cases x with
    |aW nm es top lo len=>
     simp only
     cases bQ z with
     |none=>rfl
     |some zs=>
      simp only
      cases hg:H.get nm with
      |none=>cases bG (zs.map cK)<;>simp only [GH,hg]
      |some b=>
       cases b with
       |arr es' elems vf ro=>simp only;cases bG (zs.map cK)<;>simp only [GH,hg]
       |_=>cases bG (zs.map cK)<;>simp only [GH,hg]
    |_=>
     simp only;generalize (match bQ z with|some zs=>bG (zs.map cK)|none=>none)=ps
     cases ps<;>rfl
@[simp] theorem Xs {x:Operand}{t:TypeId}:eP K fn ⟨dst, .call ⟨.builtin .clear,#[x],#[t]⟩,ty,pos,af,gu⟩ s H=(IZ (IY K.P t) H (ev s x)).map fun H=>(GV.pure (.tuple []),H):=by
 show (match te K t H (ev s x)with|some H=>some (GV.pure (.tuple []),H)|none=>none)=_
 rw [DF];cases IZ (IY K.P t) H (ev s x)<;>rfl
@[simp] theorem PK {d:Nat}:cZ none d=some d:= .trans rfl rfl
@[simp] theorem PL {k:IntKind}{i:Int}{d:Nat}:cZ (some (.pure (.int k i))) d=if i<0 then none else some i.toNat:= .trans rfl rfl
def tf (P:Program)(t:TypeId):Option (Option Nat×Option (List GV)):=(dY P t).map fun e=>(bD P e,vc (cT P e))
def Xt (own:Bool)(d:Nat)(H:aj)(size len:Nat)(cs:List GV)(ps:Option (List PV)):Option (GV×aj):=
 match ps with
 |some ps=>if own then rn (jx H d (.arr size (chunks size len ps) 0 false)) (fun nm=> .aW nm size len 0 len)else some (.pure (.slice (chunks size len ps)),H)
 |none=>if own then rn (jx (bI H cs).2 d (.arr size (chunks size len (bI H cs).1) 0 false)) (fun nm=> .aW nm size len 0 len)else some (.lits (chunks size len cs),H)
def blL (own:Bool)(d:Nat)(H:aj)(size len:Nat)(x:Option (List GV)):Option (GV×aj):=match x with
 |some cs=>if len=0 then some (.aS,H)else Xt own d H size len cs (bG (cs.map cK))
 |none=>none
def blV (own:Bool)(d:Nat)(H:aj)(len:Nat)(ps:List (Nat×GV))(tl:Option (Option Nat×Option (List GV))):Option (GV×aj):=match tl with
 |some (some size,some zs)=>if zs.length=size∧0<size∧len*size≤16777216 then blL own d H size len (fa (fun i=>some (i*size,size)) (List.replicate len zs).flatten ps)else none
 |_=>none
@[simp] theorem Ma {d size len:Nat}{cs:List GV}{ps:List PV}:Xt true d H size len cs (some ps)=rn (jx H d (.arr size (chunks size len ps) 0 false)) (fun nm=> .aW nm size len 0 len):= .trans rfl rfl
@[simp] theorem aaK {d size len:Nat}{cs:List GV}{ps:List PV}:Xt false d H size len cs (some ps)=some (.pure (.slice (chunks size len ps)),H):= .trans rfl rfl
@[simp] theorem aaL {d size len:Nat}{cs:List GV}:Xt false d H size len cs none=some (.lits (chunks size len cs),H):= .trans rfl rfl
@[simp] theorem BK {d size len:Nat}{cs:List GV}:Xt true d H size len cs none=rn (jx (bI H cs).2 d (.arr size (chunks size len (bI H cs).1) 0 false)) (fun nm=> .aW nm size len 0 len):= .trans rfl rfl
@[simp] theorem I0 {own:Bool}{d size len:Nat}{cs:List GV}:blL own d H size len (some cs)=if len=0 then some (.aS,H)else Xt own d H size len cs (bG (cs.map cK)):= .trans rfl rfl
@[simp] theorem I3 {own:Bool}{d size len:Nat}{zs:List GV}{ps:List (Nat×GV)}:blV own d H len ps (some (some size,some zs))=
  if zs.length=size∧0<size∧len*size≤16777216 then blL own d H size len (fa (fun i=>some (i*size,size)) (List.replicate len zs).flatten ps)else none:= .trans rfl rfl
@[simp] theorem I4 {d:Nat}{t:TypeId}{n:Nat}{ps:Array (Nat×Operand)}:eP K fn ⟨some d, .buildSlice t n ps,ty,pos,af,gu⟩ s H=blV (K.own fn d) d H n (ps.toList.map (u5 s)) (tf K.P t):=by
 simp only [eP,tf]
 cases dY K.P t with
 |none=>rfl
 |some e=>
  simp only [Option.map_some]
  cases bD K.P e with
  |none=>rfl
  |some size=>
   cases cT K.P e with
   |none=>rfl
   |some z=>
    simp only [nL]
    cases bQ z with
    |none=>rfl
    |some zs=>
     simp only [I3];split
     ·cases fa (fun i=>some (i*size,size)) (List.replicate n zs).flatten (ps.toList.map (u5 s))with
      |none=>rfl
      |some cs=>
       simp only [I0];split
       ·rfl
       ·cases bG (cs.map cK)with
        |none=>
         simp only
         cases K.own fn d with
         |true=>
          simp only [if_true,BK];cases jx (bI H cs).2 d (.arr size (chunks size n (bI H cs).1) 0 false)<;>rfl
         |false=>rfl
        |some qs=>
         simp only
         cases K.own fn d with
         |true=>
          simp only [if_true,Ma];cases jx H d (.arr size (chunks size n qs) 0 false)<;>rfl
         |false=>rfl
     ·rfl
@[simp] theorem PM {α:Type}{es:Nat}{l:List α}:chunks es 0 l=[]:= .trans rfl rfl
@[simp] theorem PN {α:Type}{es n:Nat}{l:List α}:chunks es (n+1) l=l.take es::chunks es n (l.drop es):= .trans rfl rfl
def mkS (d:Nat)(H:aj)(a b:GV)(tm:Option (Option Nat×Option Nat×Option (List PV))):Option (GV×aj):=match tm,a,b with
 |some (some size,some bytes,some ps), .pure (.int _ l), .pure (.int _ c)=>if ps.length=size∧0<size∧0<bytes∧0≤l∧l≤c∧c*bytes≤1099511627776 then
   rn (jx H d (.arr size (List.replicate l.toNat ps) 0 false)) (fun nm=> .aW nm size l.toNat 0 l.toNat)else none
 |_,_,_=>none
@[simp] theorem PO {d:Nat}{t:TypeId}:eP K fn ⟨some d, .makeMap t none,ty,pos,af,gu⟩ s H=rn (jx H d (.map [])) .map:=by
 simp only [eP];cases jx H d (.map [])<;>rfl
def luV (ok:Bool)(z:Option GV)(x:Option (Option (Nat×GV))):Option GV:=match x with
 |some (some (_,v))=>some (if ok then mkTuple [v, .pure (.bool true)]else v)
 |some none=>(match z with|some z=>some (if ok then mkTuple [z, .pure (.bool false)]else z)|none=>none)
 |none=>none
@[simp] theorem ac6 {ok:Bool}{z:Option GV}{i:Nat}{v:GV}:luV ok z (some (some (i,v)))=some (if ok then mkTuple [v, .pure (.bool true)]else v):= .trans rfl rfl
@[simp] theorem aaN {ok:Bool}{z:GV}:luV ok (some z) (some none)=some (if ok then mkTuple [z, .pure (.bool false)]else z):= .trans rfl rfl
def tmz (P:Program)(t:TypeId):Option (TypeId×Option GV):=(xx P t).map fun x=>(x.1,cT P x.2)
def luK (K:Ctx)(ok:Bool)(tm:Option (TypeId×Option GV))(k:GV)(es:Option (List (PV×GV))):Option GV:=match tm,k,es with
 |some (kt,z), .pure k,some es=>if jr K kt k=false then none else luV ok z (cN k es 0)
 |_,_,_=>none
@[simp] theorem aaO {K:Ctx}{ok:Bool}{kt:TypeId}{z:Option GV}{k:PV}{es:List (PV×GV)}:luK K ok (some (kt,z)) (.pure k) (some es)=if jr K kt k=false then none else luV ok z (cN k es 0):= .trans rfl rfl
@[simp] theorem TD {t:TypeId}{x k:Operand}{ok:Bool}:eP K fn ⟨dst, .lookup t x k ok,ty,pos,af,gu⟩ s H=rv H (luK K ok (tmz K.P t) (ev s k) (mapOf H (ev s x))):=by
 have h:rK K t H (ev s x) (ev s k) ok=luK K ok (tmz K.P t) (ev s k) (mapOf H (ev s x)):=by
  unfold rK luK tmz;generalize ev s k=g;generalize mapOf H (ev s x)=m
  cases xx K.P t with
  |none=>rfl
  |some p=>
   obtain⟨kt,e⟩:=p
   cases g with
   |pure q=>
    cases m with
    |none=>rfl
    |some es=>
     simp only [Option.map_some];split
     ·rfl
     ·unfold luV
      cases cN q es 0 with
      |none=>rfl
      |some y=>cases y<;>rfl
   |_=>cases m<;>rfl
 simp only [eP,h];rfl
def Mb (b:Option dM):Option (List (PV×GV)):=match b with|some (.map es)=>some es|_=>none
@[simp] theorem aaP {es:List (PV×GV)}:Mb (some (.map es))=some es:= .trans rfl rfl
def muE (nm:Nm)(H:aj)(k:PV)(v:GV)(es:List (PV×GV))(x:Option (Option (Nat×GV))):Option aj:=match x with
 |some (some (i,_))=>some (H.set nm (.map (es.set i (k,v))))
 |some none=>some (H.set nm (.map (es++[(k,v)])))
 |none=>none
@[simp] theorem ac9 {nm:Nm}{k:PV}{v v':GV}{es:List (PV×GV)}{i:Nat}:muE nm H k v es (some (some (i,v')))=some (H.set nm (.map (es.set i (k,v)))):= .trans rfl rfl
@[simp] theorem aaR {nm:Nm}{k:PV}{v:GV}{es:List (PV×GV)}:muE nm H k v es (some none)=some (H.set nm (.map (es++[(k,v)]))):= .trans rfl rfl
def muK (K:Ctx)(kt:TypeId)(nm:Nm)(k:PV)(x:Option (GV×aj)):Option aj:=match x with
 |some (v',H1)=>(match Mb (H1.get nm)with|some es=>if jr K kt k=false then none else muE nm H1 k v' es (cN k es 0)|none=>none)
 |none=>none
@[simp] theorem aaS {K:Ctx}{kt:TypeId}{nm:Nm}{k:PV}{v:GV}:muK K kt nm k (some (v,H))=(match Mb (H.get nm)with|some es=>if jr K kt k=false then none else muE nm H k v es (cN k es 0)|none=>none):= .trans rfl rfl
def muV (K:Ctx)(tm:Option (TypeId×TypeId))(H:aj)(m k v:GV):Option aj:=match tm,m,k with
 |some (kt,_), .map nm, .pure k=>muK K kt nm k (lq H nm.1 v)
 |_,_,_=>none
@[simp] theorem Km {t:TypeId}{m k v:Operand}:eP K fn ⟨dst, .mapUpdate t m k v,ty,pos,af,gu⟩ s H=rh (muV K (xx K.P t) H (ev s m) (ev s k) (ev s v)):=by
 have h:jM K t H (ev s m) (ev s k) (ev s v)=muV K (xx K.P t) H (ev s m) (ev s k) (ev s v):=by
  unfold jM muV;generalize ev s m=gm;generalize ev s k=gk
  cases xx K.P t with
  |none=>rfl
  |some p=>
   obtain⟨kt,e⟩:=p
   cases gm with
   |map nm=>
    cases gk with
    |pure q=>
     simp only
     cases lq H nm.1 (ev s v)with
     |none=>rfl
     |some y=>
      obtain⟨v',H1⟩:=y;simp only [muK,Mb]
      cases H1.get nm with
      |none=>rfl
      |some b=>
       cases b with
       |map es=>
        simp only;split
        ·rfl
        ·unfold muE
         cases cN q es 0 with
         |none=>rfl
         |some y=>cases y<;>rfl
       |_=>rfl
    |_=>rfl
   |_=>rfl
 simp only [eP,h];rfl
@[simp] theorem Mc {f:Nat}{a c:Array Operand}:eP K fn ⟨dst, .makeFunc (.func f) a c,ty,pos,af,gu⟩ s H=rv H (some (sR f (a.toList.map (ev s)) (c.toList.map (ev s)))):= .trans rfl rfl
@[simp] theorem TE {f:Nat}{a:List GV}{g:GV}{c:List GV}:sR f a (g::c)= .func f a (g::c):=by unfold sR;simp
@[simp] theorem ada {args:Array Operand}{ats:Array TypeId}:eP K fn ⟨dst, .call ⟨.builtin .min,args,ats⟩,ty,pos,af,gu⟩ s H=rv H (iz false (args.toList.map (ev s))):=by
 simp only [eP,rv];rfl
@[simp] theorem PQ {mx:Bool}{k:IntKind}{a:Int}:iz mx [.pure (.int k a)]=some (.pure (.int k a)):=by
 rw [iz]
@[simp] theorem PR {mx:Bool}{k:IntKind}{a b:Int}{r:List GV}:iz mx (.pure (.int k a):: .pure (.int k b)::r)=iz mx (.pure (.int k (if mx=true then (if a<b then b else a)else (if b<a then b else a)))::r):=by
 rw [iz];simp
def BL (x:Option GV)(r:Option (List GV)):Option (List GV):=match x,r with|some v,some l=>some (v::l)|_,_=>none
@[simp] theorem TF {v:GV}{l:List GV}:BL (some v) (some l)=some (v::l):= .trans rfl rfl
def BM (K:Ctx)(st:bP):List ResultVar→Option (List GV)
 | []=>some []
 | .tmp t::r=>BL (some (look st.s t)) (BM K st r)
 | .cell a t::r=>BL (jH K.P t st.h (look st.s a)) (BM K st r)
@[simp] theorem aaU {st:bP}:BM K st []=some []:= .trans rfl rfl
@[simp] theorem I5 {st:bP}{t:Nat}{r:List ResultVar}:BM K st (.tmp t::r)=BL (some (look st.s t)) (BM K st r):= .trans rfl rfl
@[simp] theorem GI {st:bP}{a:Nat}{t:TypeId}{r:List ResultVar}:BM K st (.cell a t::r)=BL (jH K.P t st.h (look st.s a)) (BM K st r):= .trans rfl rfl
@[simp] theorem Md {g:Func}{st:bP}:fC K g st=BM K st g.results.toList:=by
 unfold fC;generalize g.results.toList=l
 induction l with
 |nil=>rfl
 |cons x r ih=>
  cases x with
  |tmp t=>
   simp only [List.mapM_cons,I5,←ih];generalize List.mapM (m:=Option) _ r=q;cases q<;>rfl
  |cell a t=>
   simp only [List.mapM_cons,GI,←ih]
   cases jH K.P t st.h (look st.s a)with
   |none=>rfl
   |some v=>
    generalize List.mapM (m:=Option) _ r=q;cases q<;>rfl
@[simp] theorem DG {id:Nat}{ops:Array Oper}{b:Bool}:ba (.region id ops b)=id+1:= .trans rfl rfl
@[simp] theorem HR {a b:Code}:ba (.seq a b)=if ba a=0 then ba b else ba a:= .trans rfl rfl
theorem aN {α:Type}{x:Option α}{a:α}(h:ku x (fun r=>r=a)):x=some a:=by
 obtain⟨r,h1,h2⟩:=h;rw [h1,h2]
end
end
def aeg:List (Nat×Nat×List Nat×List Nat):=[(3,12,[3,4,16,17],[12]),(4,9,[1,2,3,5,11,12,13,14,15],[1,2,3,5,11,12,13,14]),(4,15,[17,18,19,20,21],[10]),(5,9,[12,13,14,15],[8]),(6,10,[3,4,5,6,8,10],[2,3,4,5]),(7,12,[4,5,6,7,8,9,10],[2]),(7,16,[4,5,6,7,8,9,10,11,12],[2,4,5,6,7,8,9,10]),(7,22,[4,5,6,7,8,9,10,11,13,14],[4,5,6,7,8,9,10,11,13]),(8,13,[4,10],[2]),(8,16,[4,10,11],[2,4,10]),(11,6,[0,6,7,8,9,10],[6,7,8,9]),(11,23,[6,7,8,9,18],[6,7,8]),(11,26,[6,7,8,9,18,19],[6,7,8,9,18]),(11,33,[6,7,8,21],[6,7]),(12,4,[0,3,4],[3]),(19,9,[1,2,3,6,9,28,29,30],[3,6,9]),(20,10,[1,2,3,6,9,10,11],[3,6,10]),(21,5,[2,3,5],[2,3,4]),(21,10,[2,3,6],[4]),(22,5,[0,1,5],[4]),(23,5,[2,3,5],[2,3,4]),(23,10,[2,3,6],[4]),(25,4,[1,2,5,6],[1,2,5]),(25,8,[1,2,5,7],[5]),(25,11,[1,2,5,7,8],[1,2,5,7]),(25,18,[1,2,5,7,8,9,10],[1,2,5,7,8]),(25,24,[1,2,5,7,8,9,11],[1,2,5,7,8]),(29,8,[1,2,3,4,8,34,35,36],[1,2,3,4,8,9]),(29,22,[3,4,8,14,15,16,17,90,91,92],[3,4,8,14,16,17]),(29,28,[3,4,8,17,109,110,111],[4,8,17]),(30,8,[1,2,3,4,8,10,12],[1,2,3,4,8,9,10]),(31,5,[0,1,5],[4]),(33,5,[0,3,4,5],[3,4]),(35,7,[3,10,11],[3,10]),(35,17,[10,12,13],[6,7]),(36,6,[1,24,25],[2,3,4]),(36,9,[1,8,24,25,29,30,31],[1,2,3,4,24,25]),(37,6,[1,8],[2,3,4]),(37,9,[1,8,9],[1,2,3,4,8]),(38,5,[1,2,3,4],[1,2,3]),(38,9,[1,2,3,5],[1,2,3]),(38,14,[1,2,3,6,7],[1,2,3,6]),(38,19,[1,2,3,8],[1,2]),(39,6,[2,3,5,6],[2,3,4,5]),(39,11,[2,3,5,6,7],[2,3,4,5,6]),(39,19,[2,3,5,9],[4]),(40,4,[1,2,4,5],[1,2,4]),(40,8,[1,2,4,6],[2,4]),(41,13,[3,4,9,11,13,14,15,16],[8]),(42,3,[0,1,5],[4]),(43,4,[1,2,3,4,5,11,12],[1,2,5,11]),(44,3,[0,1,5],[4]),(47,5,[0,4,5,6,7],[0,4,5]),(47,9,[0,4,5,8],[0,4,5]),(47,16,[0,4,5,10],[4,5]),(48,4,[1,2,3,4],[1,2,3]),(48,8,[1,2,3,5],[2,3]),(49,5,[0,5,6,8,10,11,12],[0,8,10]),(57,8,[1,17,18,19],[2]),(68,5,[0,1,5],[4]),(70,11,[7,8,9],[7]),(72,14,[9,10,11,12],[10,11]),(74,5,[3,8,9],[8,9]),(77,4,[0,1,2,7,8],[0,1,2,7,8]),(77,8,[0,1,2,7,8,9],[0,2,7,8]),(77,13,[0,2,7,8],[7]),(79,12,[12,16,17,51],[6,7]),(80,4,[2,3,4,9,10],[6,7,8,9]),(80,6,[2,3,4,9,10,11],[2,3,4,9,10,11]),(80,11,[2,3,4,9,11,12,13,14],[2,3,4,6,7,8,9,11,12]),(80,17,[2,3,4,9,11,12,13,14,15,16],[2,3,4,6,7,8,9,11,12,13,14,15]),(81,6,[0,2,3,5,13],[8,9]),(83,4,[0,1,5,6],[5]),(84,6,[3,4,5,9],[3,4,5,6]),(85,3,[1,2,5],[4]),(89,10,[1,30,31,32],[1,2]),(89,17,[1,4,30,31,32,51,52,53],[1,2,30,31,32]),(89,26,[1,69,70,71],[1,2]),(92,4,[1,2,3,11,12,13],[1,2,3]),(92,10,[2,3,36,37,38],[2,3]),(93,4,[1,2,3,6,9],[3,6,7,8]),(93,6,[1,2,3,6,9,10],[1,2,3,6,9,10]),(94,3,[1,9,10,11],[1,2]),(94,9,[1,21,22,23],[2]),(95,7,[1,3],[2]),(95,15,[1,3,4,5],[1,2,3]),(96,5,[1,3],[1,2]),(96,13,[1,5],[1,2]),(96,20,[1,6],[2]),(97,5,[1,3],[2]),(97,15,[1,3,4,5],[1,2,3,4]),(98,3,[2,3,5],[2,3,4]),(98,8,[2,3,6],[4]),(104,3,[1,2,4,5],[2,4,5]),(110,4,[1,2,3,6,7,8],[1,6,7]),(111,4,[0,3,4],[3]),(111,7,[0,3,4,5],[0,3,4,5]),(111,11,[0,3,4,5,6],[0,3,4,5]),(118,5,[2,4,7,8,19,20,21],[4,5,6,7]),(118,11,[2,4,7,8,9,10,11,19,20,21,35,36,37],[2,4,5,6,7,8,10,11,19,20,21]),(118,17,[2,4,7,8,10,19,20,21,47,48,49],[2,4,7,8,10,19,20,21]),(122,3,[0,1,5],[4]),(122,6,[0,1,5,6],[0,1,4,5]),(123,3,[0,1,2,9,10,11],[6]),(126,3,[0,1,7,8],[4]),(128,3,[0,1,2,6,7,8],[0,1,2,6,7]),(128,8,[0,1,2,6],[]),(128,10,[0,1,2,6,7,8],[0,1,2,6,7]),(131,3,[0,1,7,8],[4]),(132,4,[1,2,4,5],[]),(132,8,[1,2,4,5,18,19],[1,2,4,5]),(132,13,[1,2,4,5,30],[1,2,4,5]),(132,20,[1,2,4,5,8,30,47,48],[1,2,4,5,30]),(132,26,[1,2,4,5,8,30,62,63],[1,2,4,5,30]),(151,2,[0,1,2,3,8],[]),(151,5,[0,1,2,3,8,9],[0,1,2,3,8]),(152,4,[0,1,4,10,11],[0,1,10]),(152,10,[0,10,13],[]),(152,16,[0,2,4,14,15],[0,2,14]),(152,22,[0,14,17],[]),(152,34,[0,1,2,3,4,18,19,20,21,22],[0,1,2,3,4,18,19,20]),(158,3,[0,2,4,10,11],[0,2,4,10]),(159,2,[0,1,2,3,10],[])]
def upT:List (Nat×Nat×Up):=[(4,78, .scopes 1),(4,112, .scopes 0),(11,62, .box 7),(11,102, .box 7),(11,140, .box 7),(13,6, .scopes 0),(13,10, .scopes 0),(13,22, .scopes 0),(19,56, .scopes 1),(20,66, .scopes 1),(25,26, .scopes 1),(25,43, .scopes 2),(25,58, .scopes 3),(25,76, .scopes 3),(29,105, .scopes 1),(29,124, .scopes 1),(33,24, .box 3),(35,89, .box 10),(38,87, .scopes 1),(43,33, .scopes 1),(46,10, .scopes 0),(46,16, .scopes 0),(47,46, .box 5),(47,83, .box 5),(47,96, .box 5),(48,22, .box 3),(48,27, .box 3),(48,53, .box 3),(49,35, .scopes 1),(49,52, .scopes 1),(50,6, .scopes 0),(50,10, .scopes 0),(50,14, .scopes 0),(56,5, .scopes 0),(61,27, .scopes 0),(62,8, .box 1),(67,8, .scopes 0),(67,12, .scopes 0),(67,18, .scopes 0),(67,22, .scopes 0),(67,27, .scopes 0),(72,23, .scopes 0),(72,30, .scopes 0),(72,48, .scopes 0),(72,58, .scopes 0),(72,83, .scopes 0),(75,7, .scopes 0),(77,31, .scopes 1),(77,52, .scopes 1),(77,72, .scopes 1),(80,80, .scopes 1),(80,92, .scopes 1),(81,78, .scopes 0),(81,87, .scopes 0),(83,20, .scopes 1),(88,61, .box 5),(92,23, .box 3),(92,31, .box 3),(92,51, .box 3),(99,7, .scopes 0),(100,7, .scopes 0),(101,7, .scopes 0),(102,7, .scopes 0),(103,7, .scopes 0),(109,26, .scopes 0),(111,36, .scopes 1),(116,64, .scopes 0),(134,27, .scopes 0),(134,35, .scopes 0),(134,43, .scopes 0),(134,53, .scopes 0),(134,60, .scopes 0)]
def aaV (f r:Nat):Option (List Nat×List Nat):=(aeg.find? fun x=>x.1==f && x.2.1==r).map fun x=>x.2.2
def aeh (f d:Nat):Up:=((upT.find? fun x=>x.1==f && x.2.1==d).map fun x=>x.2.2).getD (.scopes 0)
def aaW:List (Nat×Nat×List (Nat×Nat)):=[(3,7,[(13,7),(13,11)]),(4,12,[(10,0),(10,1),(10,2)]),(4,16,[(9,4)]),(5,6,[(9,0),(9,1),(9,2),(12,9),(13,9),(14,0),(14,1),(14,2),(18,0),(18,1),(18,2)]),(6,11,[(22,18)]),(11,20,[(4,0)]),(11,34,[(20,4)]),(13,1,[(6,3)]),(13,2,[(4,2),(8,2),(8,5)]),(27,4,[(4,0)]),(28,4,[(5,0)]),(30,17,[(5,0),(6,5),(9,0),(11,0)]),(35,4,[(14,0),(14,2),(14,6),(15,14),(19,0),(19,2),(19,6),(20,14),(20,19),(23,0),(23,2),(23,6)]),(38,10,[(24,4)]),(46,2,[(7,5)]),(47,6,[(3,1),(6,3),(7,3),(9,3)]),(47,10,[(6,1),(11,1),(11,9),(13,1),(13,9)]),(48,5,[(11,9)]),(50,1,[(6,3),(10,3),(10,7)]),(51,6,[(14,7),(14,9)]),(51,8,[(17,7)]),(51,10,[(7,1),(7,3),(9,7),(11,7),(13,7),(17,9),(17,11),(17,13)]),(53,1,[(3,2),(4,2)]),(58,1,[(3,1)]),(58,3,[(4,2),(4,3)]),(62,1,[(2,0)]),(63,1,[(6,3),(10,3),(10,7)]),(65,1,[(4,2),(7,2),(7,5),(10,2),(10,5),(10,8)]),(67,1,[(6,3)]),(67,2,[(6,3)]),(70,5,[(6,2)]),(72,7,[(4,0),(5,4)]),(79,1,[(5,3),(9,3),(12,5),(12,9)]),(79,3,[(2,1),(3,1)]),(81,2,[(13,3)]),(81,10,[(4,1),(8,4),(11,4),(13,1)]),(104,4,[(3,1)]),(105,1,[(4,2),(5,2)]),(116,10,[(8,5),(8,6),(9,8),(11,5),(11,6),(12,8),(12,11)]),(118,20,[(4,2),(5,2)]),(140,1,[(5,2),(8,5),(10,5),(12,5)]),(142,1,[(8,2),(8,4),(9,8),(10,8),(11,2),(11,4)]),(143,1,[(10,7)]),(144,1,[(5,2)]),(145,1,[(14,11),(21,18),(29,26),(37,34)]),(146,1,[(5,2)]),(146,2,[(5,2)]),(147,1,[(8,5)]),(148,1,[(5,2)]),(149,1,[(8,5)]),(150,1,[(5,2)])]
def au (f r:Nat):List (Nat×Nat):=((aaW.find? fun x=>x.1==f && x.2.1==r).map fun x=>x.2.2).getD []
def ru:Nat→Option (List SK)
 |29=>some [.int .i64, .int .i64, .int .i64, .int .i64, .int .i64, .int .i64, .int .i64, .int .i64, .int .i64]
 |74=>some [.int .i64, .int .i64]
 |84=>some [.int .i64, .int .i64]
 |86=>some [.int .i64, .int .i64, .int .i64, .int .i64, .bool]
 |105=>some [.int .i64, .int .i64]
 |170=>some [.int .i64, .int .i64]
 |_=>none
@[simp] theorem aaX:ru 29=some [.int .i64, .int .i64, .int .i64, .int .i64, .int .i64, .int .i64, .int .i64, .int .i64, .int .i64]:= .trans rfl rfl
@[simp] theorem aaY:ru 74=some [.int .i64, .int .i64]:= .trans rfl rfl
@[simp] theorem aaZ:ru 84=some [.int .i64, .int .i64]:= .trans rfl rfl
@[simp] theorem aa0:ru 86=some [.int .i64, .int .i64, .int .i64, .int .i64, .bool]:= .trans rfl rfl
@[simp] theorem Xu:ru 105=some [.int .i64, .int .i64]:= .trans rfl rfl
def I6:List Nat:=[13,12,47,48,50,63,45,46,99,100,101,102,103,75]
def aei:List Nat:=[17,15,34,25,88,134,79,93,58,118,16,18,61,80,20,67,27,29,28,30,71,72,77,111,70,104,110,78,19,65,33,38,40,35,81,13,116]
def aej:List Nat:=[48,9,14,57,60,23,39,21,22,31,49,53,89,64,73,66,95,96,97,68,44,36,84,85,87,112,113,76,94,115,69,120,121,122,130,82,74,105,153,154,135,137,139,141,143,145,147,149,131,155,156,157,98]
def K6:List Nat:=[99,100,101,102,103,75]
def TG:List (Nat×Nat):=[(134,9),(88,10),(45,3),(45,6),(45,7),(45,8),(45,14),(61,25)]
def aek:List (Nat×Nat):=[(11,6)]
def DH (f d:Nat):Option Nat:=if f=11∧d=54 then some 8 else none
def rowOf (_ _:Nat):Option Nat:=none
noncomputable def K5 (cl:List Nat):Ctx:={P:=Tryz.prog,IT:=fun f=>I6.contains f,fA:=aaV,up:=aeh,own:=fun f d=>TG.contains (f,d),Gs:=fun f=>aei.contains f,Aw:=fun f=>aej.contains f,fB:=fun f r=>aek.contains (f,r),tG:=fun f=>cl.contains f,lift:=DH,row:=rowOf,eqs:=ru}
noncomputable def KC:Ctx:=K5 K6
section
@[simp] theorem GJ:KC.P=Tryz.prog:= .trans rfl rfl
@[simp] theorem ael {f d:Nat}:KC.own f d=TG.contains (f,d):= .trans rfl rfl
@[simp] theorem adb {f d:Nat}:KC.lift f d=DH f d:= .trans rfl rfl
@[simp] theorem aem {f d:Nat}:KC.row f d=rowOf f d:= .trans rfl rfl
attribute [simp] DH TG rowOf
@[simp] theorem TH:KC.fA 4 9=some ([1,2,3,5,11,12,13,14,15],[1,2,3,5,11,12,13,14]):=by kernel_rfl
@[simp] theorem TI:KC.fB 4 9=false:=by kernel_rfl
@[simp] theorem PS:KC.fA 4 15=some ([17,18,19,20,21],[10]):=by kernel_rfl
@[simp] theorem PT:KC.fB 4 15=false:=by kernel_rfl
@[simp] theorem PU:KC.fA 11 6=some ([0,6,7,8,9,10],[6,7,8,9]):=by kernel_rfl
@[simp] theorem PW:KC.fB 11 6=true:=by kernel_rfl
@[simp] theorem Me:KC.fA 11 23=some ([6,7,8,9,18],[6,7,8]):=by kernel_rfl
@[simp] theorem Mf:KC.fB 11 23=false:=by kernel_rfl
@[simp] theorem Mg:KC.fA 11 26=some ([6,7,8,9,18,19],[6,7,8,9,18]):=by kernel_rfl
@[simp] theorem Mh:KC.fB 11 26=false:=by kernel_rfl
@[simp] theorem Mi:KC.fA 11 33=some ([6,7,8,21],[6,7]):=by kernel_rfl
@[simp] theorem Mj:KC.fB 11 33=false:=by kernel_rfl
@[simp] theorem PX:KC.fA 12 4=some ([0,3,4],[3]):=by kernel_rfl
@[simp] theorem PY:KC.fB 12 4=false:=by kernel_rfl
@[simp] theorem PZ:KC.fA 23 5=some ([2,3,5],[2,3,4]):=by kernel_rfl
@[simp] theorem P0:KC.fB 23 5=false:=by kernel_rfl
@[simp] theorem Mk:KC.fA 23 10=some ([2,3,6],[4]):=by kernel_rfl
@[simp] theorem Ml:KC.fB 23 10=false:=by kernel_rfl
@[simp] theorem P1:KC.fA 25 4=some ([1,2,5,6],[1,2,5]):=by kernel_rfl
@[simp] theorem P3:KC.fB 25 4=false:=by kernel_rfl
@[simp] theorem P4:KC.fA 25 8=some ([1,2,5,7],[5]):=by kernel_rfl
@[simp] theorem P6:KC.fB 25 8=false:=by kernel_rfl
@[simp] theorem Mm:KC.fA 25 11=some ([1,2,5,7,8],[1,2,5,7]):=by kernel_rfl
@[simp] theorem Mn:KC.fB 25 11=false:=by kernel_rfl
@[simp] theorem Mo:KC.fA 25 18=some ([1,2,5,7,8,9,10],[1,2,5,7,8]):=by kernel_rfl
@[simp] theorem Mp:KC.fB 25 18=false:=by kernel_rfl
@[simp] theorem Mq:KC.fA 25 24=some ([1,2,5,7,8,9,11],[1,2,5,7,8]):=by kernel_rfl
@[simp] theorem Mr:KC.fB 25 24=false:=by kernel_rfl
@[simp] theorem P7:KC.fA 29 8=some ([1,2,3,4,8,34,35,36],[1,2,3,4,8,9]):=by kernel_rfl
@[simp] theorem P8:KC.fB 29 8=false:=by kernel_rfl
@[simp] theorem Ms:KC.fA 29 22=some ([3,4,8,14,15,16,17,90,91,92],[3,4,8,14,16,17]):=by kernel_rfl
@[simp] theorem Mt:KC.fB 29 22=false:=by kernel_rfl
@[simp] theorem Mv:KC.fA 29 28=some ([3,4,8,17,109,110,111],[4,8,17]):=by kernel_rfl
@[simp] theorem Mw:KC.fB 29 28=false:=by kernel_rfl
@[simp] theorem P9:KC.fA 30 8=some ([1,2,3,4,8,10,12],[1,2,3,4,8,9,10]):=by kernel_rfl
@[simp] theorem Qa:KC.fB 30 8=false:=by kernel_rfl
@[simp] theorem Qb:KC.fA 31 5=some ([0,1,5],[4]):=by kernel_rfl
@[simp] theorem Qc:KC.fB 31 5=false:=by kernel_rfl
@[simp] theorem Qd:KC.fA 47 5=some ([0,4,5,6,7],[0,4,5]):=by kernel_rfl
@[simp] theorem Qe:KC.fB 47 5=false:=by kernel_rfl
@[simp] theorem Qf:KC.fA 47 9=some ([0,4,5,8],[0,4,5]):=by kernel_rfl
@[simp] theorem Qg:KC.fB 47 9=false:=by kernel_rfl
@[simp] theorem Mx:KC.fA 47 16=some ([0,4,5,10],[4,5]):=by kernel_rfl
@[simp] theorem My:KC.fB 47 16=false:=by kernel_rfl
@[simp] theorem Qh:KC.fA 48 4=some ([1,2,3,4],[1,2,3]):=by kernel_rfl
@[simp] theorem Qi:KC.fB 48 4=false:=by kernel_rfl
@[simp] theorem Qj:KC.fA 48 8=some ([1,2,3,5],[2,3]):=by kernel_rfl
@[simp] theorem Qk:KC.fB 48 8=false:=by kernel_rfl
@[simp] theorem Ql:KC.fA 49 5=some ([0,5,6,8,10,11,12],[0,8,10]):=by kernel_rfl
@[simp] theorem Qm:KC.fB 49 5=false:=by kernel_rfl
@[simp] theorem Qn:KC.fA 57 8=some ([1,17,18,19],[2]):=by kernel_rfl
@[simp] theorem Qo:KC.fB 57 8=false:=by kernel_rfl
@[simp] theorem Qp:KC.fA 68 5=some ([0,1,5],[4]):=by kernel_rfl
@[simp] theorem Qq:KC.fB 68 5=false:=by kernel_rfl
@[simp] theorem Mz:KC.fA 70 11=some ([7,8,9],[7]):=by kernel_rfl
@[simp] theorem MA:KC.fB 70 11=false:=by kernel_rfl
@[simp] theorem MB:KC.fA 72 14=some ([9,10,11,12],[10,11]):=by kernel_rfl
@[simp] theorem MC:KC.fB 72 14=false:=by kernel_rfl
@[simp] theorem Qr:KC.fA 74 5=some ([3,8,9],[8,9]):=by kernel_rfl
@[simp] theorem Qs:KC.fB 74 5=false:=by kernel_rfl
@[simp] theorem Qt:KC.fA 77 4=some ([0,1,2,7,8],[0,1,2,7,8]):=by kernel_rfl
@[simp] theorem Qu:KC.fB 77 4=false:=by kernel_rfl
@[simp] theorem Qv:KC.fA 77 8=some ([0,1,2,7,8,9],[0,2,7,8]):=by kernel_rfl
@[simp] theorem Qw:KC.fB 77 8=false:=by kernel_rfl
@[simp] theorem MG:KC.fA 77 13=some ([0,2,7,8],[7]):=by kernel_rfl
@[simp] theorem MH:KC.fB 77 13=false:=by kernel_rfl
@[simp] theorem Qx:KC.fA 80 4=some ([2,3,4,9,10],[6,7,8,9]):=by kernel_rfl
@[simp] theorem Qy:KC.fB 80 4=false:=by kernel_rfl
@[simp] theorem Qz:KC.fA 80 6=some ([2,3,4,9,10,11],[2,3,4,9,10,11]):=by kernel_rfl
@[simp] theorem QA:KC.fB 80 6=false:=by kernel_rfl
@[simp] theorem MJ:KC.fA 80 11=some ([2,3,4,9,11,12,13,14],[2,3,4,6,7,8,9,11,12]):=by kernel_rfl
@[simp] theorem MK:KC.fB 80 11=false:=by kernel_rfl
@[simp] theorem ML:KC.fA 80 17=some ([2,3,4,9,11,12,13,14,15,16],[2,3,4,6,7,8,9,11,12,13,14,15]):=by kernel_rfl
@[simp] theorem MM:KC.fB 80 17=false:=by kernel_rfl
@[simp] theorem QB:KC.fA 83 4=some ([0,1,5,6],[5]):=by kernel_rfl
@[simp] theorem QC:KC.fB 83 4=false:=by kernel_rfl
@[simp] theorem QD:KC.fA 84 6=some ([3,4,5,9],[3,4,5,6]):=by kernel_rfl
@[simp] theorem QE:KC.fB 84 6=false:=by kernel_rfl
@[simp] theorem QF:KC.fA 85 3=some ([1,2,5],[4]):=by kernel_rfl
@[simp] theorem QG:KC.fB 85 3=false:=by kernel_rfl
@[simp] theorem MN:KC.fA 89 10=some ([1,30,31,32],[1,2]):=by kernel_rfl
@[simp] theorem MO:KC.fB 89 10=false:=by kernel_rfl
@[simp] theorem MP:KC.fA 89 17=some ([1,4,30,31,32,51,52,53],[1,2,30,31,32]):=by kernel_rfl
@[simp] theorem MQ:KC.fB 89 17=false:=by kernel_rfl
@[simp] theorem MS:KC.fA 89 26=some ([1,69,70,71],[1,2]):=by kernel_rfl
@[simp] theorem MT:KC.fB 89 26=false:=by kernel_rfl
@[simp] theorem QH:KC.fA 92 4=some ([1,2,3,11,12,13],[1,2,3]):=by kernel_rfl
@[simp] theorem QI:KC.fB 92 4=false:=by kernel_rfl
@[simp] theorem MU:KC.fA 92 10=some ([2,3,36,37,38],[2,3]):=by kernel_rfl
@[simp] theorem MV:KC.fB 92 10=false:=by kernel_rfl
@[simp] theorem QJ:KC.fA 93 4=some ([1,2,3,6,9],[3,6,7,8]):=by kernel_rfl
@[simp] theorem QK:KC.fB 93 4=false:=by kernel_rfl
@[simp] theorem QL:KC.fA 93 6=some ([1,2,3,6,9,10],[1,2,3,6,9,10]):=by kernel_rfl
@[simp] theorem QM:KC.fB 93 6=false:=by kernel_rfl
@[simp] theorem QN:KC.fA 94 3=some ([1,9,10,11],[1,2]):=by kernel_rfl
@[simp] theorem QO:KC.fB 94 3=false:=by kernel_rfl
@[simp] theorem QP:KC.fA 94 9=some ([1,21,22,23],[2]):=by kernel_rfl
@[simp] theorem QQ:KC.fB 94 9=false:=by kernel_rfl
@[simp] theorem QR:KC.fA 95 7=some ([1,3],[2]):=by kernel_rfl
@[simp] theorem QS:KC.fB 95 7=false:=by kernel_rfl
@[simp] theorem MW:KC.fA 95 15=some ([1,3,4,5],[1,2,3]):=by kernel_rfl
@[simp] theorem MY:KC.fB 95 15=false:=by kernel_rfl
@[simp] theorem QT:KC.fA 96 5=some ([1,3],[1,2]):=by kernel_rfl
@[simp] theorem QU:KC.fB 96 5=false:=by kernel_rfl
@[simp] theorem MZ:KC.fA 96 13=some ([1,5],[1,2]):=by kernel_rfl
@[simp] theorem M3:KC.fB 96 13=false:=by kernel_rfl
@[simp] theorem M4:KC.fA 96 20=some ([1,6],[2]):=by kernel_rfl
@[simp] theorem M5:KC.fB 96 20=false:=by kernel_rfl
@[simp] theorem QV:KC.fA 97 5=some ([1,3],[2]):=by kernel_rfl
@[simp] theorem QW:KC.fB 97 5=false:=by kernel_rfl
@[simp] theorem M6:KC.fA 97 15=some ([1,3,4,5],[1,2,3,4]):=by kernel_rfl
@[simp] theorem M7:KC.fB 97 15=false:=by kernel_rfl
@[simp] theorem QX:KC.fA 98 3=some ([2,3,5],[2,3,4]):=by kernel_rfl
@[simp] theorem QY:KC.fB 98 3=false:=by kernel_rfl
@[simp] theorem QZ:KC.fA 98 8=some ([2,3,6],[4]):=by kernel_rfl
@[simp] theorem Q0:KC.fB 98 8=false:=by kernel_rfl
@[simp] theorem M8:KC.fA 104 3=some ([1,2,4,5],[2,4,5]):=by kernel_rfl
@[simp] theorem M9:KC.fB 104 3=false:=by kernel_rfl
@[simp] theorem Na:KC.fA 110 4=some ([1,2,3,6,7,8],[1,6,7]):=by kernel_rfl
@[simp] theorem Nb:KC.fB 110 4=false:=by kernel_rfl
@[simp] theorem Nc:KC.fA 111 4=some ([0,3,4],[3]):=by kernel_rfl
@[simp] theorem Nd:KC.fB 111 4=false:=by kernel_rfl
@[simp] theorem Nf:KC.fA 111 7=some ([0,3,4,5],[0,3,4,5]):=by kernel_rfl
@[simp] theorem Ng:KC.fB 111 7=false:=by kernel_rfl
@[simp] theorem Ko:KC.fA 111 11=some ([0,3,4,5,6],[0,3,4,5]):=by kernel_rfl
@[simp] theorem Kp:KC.fB 111 11=false:=by kernel_rfl
@[simp] theorem Nh:KC.fA 118 5=some ([2,4,7,8,19,20,21],[4,5,6,7]):=by kernel_rfl
@[simp] theorem Ni:KC.fB 118 5=false:=by kernel_rfl
@[simp] theorem Kq:KC.fA 118 11=some ([2,4,7,8,9,10,11,19,20,21,35,36,37],[2,4,5,6,7,8,10,11,19,20,21]):=by kernel_rfl
@[simp] theorem Kr:KC.fB 118 11=false:=by kernel_rfl
@[simp] theorem Ks:KC.fA 118 17=some ([2,4,7,8,10,19,20,21,47,48,49],[2,4,7,8,10,19,20,21]):=by kernel_rfl
@[simp] theorem Kt:KC.fB 118 17=false:=by kernel_rfl
@[simp] theorem Nj:KC.fA 122 3=some ([0,1,5],[4]):=by kernel_rfl
@[simp] theorem Nk:KC.fB 122 3=false:=by kernel_rfl
@[simp] theorem Nl:KC.fA 122 6=some ([0,1,5,6],[0,1,4,5]):=by kernel_rfl
@[simp] theorem Nn:KC.fB 122 6=false:=by kernel_rfl
@[simp] theorem Np:KC.fA 123 3=some ([0,1,2,9,10,11],[6]):=by kernel_rfl
@[simp] theorem Nq:KC.fB 123 3=false:=by kernel_rfl
@[simp] theorem Nr:KC.fA 126 3=some ([0,1,7,8],[4]):=by kernel_rfl
@[simp] theorem Ns:KC.fB 126 3=false:=by kernel_rfl
@[simp] theorem Nt:KC.fA 128 3=some ([0,1,2,6,7,8],[0,1,2,6,7]):=by kernel_rfl
@[simp] theorem Nu:KC.fB 128 3=false:=by kernel_rfl
@[simp] theorem Nv:KC.fA 128 8=some ([0,1,2,6],[]):=by kernel_rfl
@[simp] theorem Nw:KC.fB 128 8=false:=by kernel_rfl
@[simp] theorem Ku:KC.fA 128 10=some ([0,1,2,6,7,8],[0,1,2,6,7]):=by kernel_rfl
@[simp] theorem Kv:KC.fB 128 10=false:=by kernel_rfl
@[simp] theorem Nx:KC.fA 131 3=some ([0,1,7,8],[4]):=by kernel_rfl
@[simp] theorem Ny:KC.fB 131 3=false:=by kernel_rfl
@[simp] theorem Nz:KC.fA 151 2=some ([0,1,2,3,8],[]):=by kernel_rfl
@[simp] theorem NA:KC.fB 151 2=false:=by kernel_rfl
@[simp] theorem NB:KC.fA 151 5=some ([0,1,2,3,8,9],[0,1,2,3,8]):=by kernel_rfl
@[simp] theorem NC:KC.fB 151 5=false:=by kernel_rfl
@[simp] theorem ND:KC.fA 152 4=some ([0,1,4,10,11],[0,1,10]):=by kernel_rfl
@[simp] theorem NF:KC.fB 152 4=false:=by kernel_rfl
@[simp] theorem Kw:KC.fA 152 10=some ([0,10,13],[]):=by kernel_rfl
@[simp] theorem Kx:KC.fB 152 10=false:=by kernel_rfl
@[simp] theorem Ky:KC.fA 152 16=some ([0,2,4,14,15],[0,2,14]):=by kernel_rfl
@[simp] theorem Kz:KC.fB 152 16=false:=by kernel_rfl
@[simp] theorem KA:KC.fA 152 22=some ([0,14,17],[]):=by kernel_rfl
@[simp] theorem KB:KC.fB 152 22=false:=by kernel_rfl
@[simp] theorem KD:KC.fA 152 34=some ([0,1,2,3,4,18,19,20,21,22],[0,1,2,3,4,18,19,20]):=by kernel_rfl
@[simp] theorem KE:KC.fB 152 34=false:=by kernel_rfl
@[simp] theorem NG:KC.fA 158 3=some ([0,2,4,10,11],[0,2,4,10]):=by kernel_rfl
@[simp] theorem NH:KC.fB 158 3=false:=by kernel_rfl
@[simp] theorem NI:KC.fA 159 2=some ([0,1,2,3,10],[]):=by kernel_rfl
@[simp] theorem NJ:KC.fB 159 2=false:=by kernel_rfl
@[simp] theorem TJ:KC.up 4 78= .scopes 1:=by kernel_rfl
@[simp] theorem Q1:KC.up 4 112= .scopes 0:=by kernel_rfl
@[simp] theorem Q3:KC.up 11 62= .box 7:=by kernel_rfl
@[simp] theorem NK:KC.up 11 102= .box 7:=by kernel_rfl
@[simp] theorem NL:KC.up 11 140= .box 7:=by kernel_rfl
@[simp] theorem TK:KC.up 13 6= .scopes 0:=by kernel_rfl
@[simp] theorem Q4:KC.up 13 10= .scopes 0:=by kernel_rfl
@[simp] theorem Q5:KC.up 13 22= .scopes 0:=by kernel_rfl
@[simp] theorem Q6:KC.up 25 26= .scopes 1:=by kernel_rfl
@[simp] theorem Q7:KC.up 25 43= .scopes 2:=by kernel_rfl
@[simp] theorem Q8:KC.up 25 58= .scopes 3:=by kernel_rfl
@[simp] theorem Q9:KC.up 25 76= .scopes 3:=by kernel_rfl
@[simp] theorem NM:KC.up 29 105= .scopes 1:=by kernel_rfl
@[simp] theorem NN:KC.up 29 124= .scopes 1:=by kernel_rfl
@[simp] theorem Ra:KC.up 47 46= .box 5:=by kernel_rfl
@[simp] theorem Rb:KC.up 47 83= .box 5:=by kernel_rfl
@[simp] theorem Rc:KC.up 47 96= .box 5:=by kernel_rfl
@[simp] theorem Rd:KC.up 48 22= .box 3:=by kernel_rfl
@[simp] theorem Re:KC.up 48 27= .box 3:=by kernel_rfl
@[simp] theorem Rf:KC.up 48 53= .box 3:=by kernel_rfl
@[simp] theorem Rg:KC.up 49 35= .scopes 1:=by kernel_rfl
@[simp] theorem Rh:KC.up 49 52= .scopes 1:=by kernel_rfl
@[simp] theorem TL:KC.up 50 6= .scopes 0:=by kernel_rfl
@[simp] theorem Ri:KC.up 50 10= .scopes 0:=by kernel_rfl
@[simp] theorem Rj:KC.up 50 14= .scopes 0:=by kernel_rfl
@[simp] theorem TM:KC.up 56 5= .scopes 0:=by kernel_rfl
@[simp] theorem Rk:KC.up 61 27= .scopes 0:=by kernel_rfl
@[simp] theorem TN:KC.up 67 8= .scopes 0:=by kernel_rfl
@[simp] theorem Rl:KC.up 67 12= .scopes 0:=by kernel_rfl
@[simp] theorem Rm:KC.up 67 18= .scopes 0:=by kernel_rfl
@[simp] theorem Rn:KC.up 67 22= .scopes 0:=by kernel_rfl
@[simp] theorem Ro:KC.up 67 27= .scopes 0:=by kernel_rfl
@[simp] theorem Rp:KC.up 72 23= .scopes 0:=by kernel_rfl
@[simp] theorem Rq:KC.up 72 30= .scopes 0:=by kernel_rfl
@[simp] theorem Rr:KC.up 72 48= .scopes 0:=by kernel_rfl
@[simp] theorem Rs:KC.up 72 58= .scopes 0:=by kernel_rfl
@[simp] theorem Rt:KC.up 72 83= .scopes 0:=by kernel_rfl
@[simp] theorem TP:KC.up 75 7= .scopes 0:=by kernel_rfl
@[simp] theorem Ru:KC.up 77 31= .scopes 1:=by kernel_rfl
@[simp] theorem Rv:KC.up 77 52= .scopes 1:=by kernel_rfl
@[simp] theorem Rx:KC.up 77 72= .scopes 1:=by kernel_rfl
@[simp] theorem Ry:KC.up 80 80= .scopes 1:=by kernel_rfl
@[simp] theorem Rz:KC.up 80 92= .scopes 1:=by kernel_rfl
@[simp] theorem RA:KC.up 83 20= .scopes 1:=by kernel_rfl
@[simp] theorem RC:KC.up 88 61= .box 5:=by kernel_rfl
@[simp] theorem RD:KC.up 92 23= .box 3:=by kernel_rfl
@[simp] theorem RE:KC.up 92 31= .box 3:=by kernel_rfl
@[simp] theorem RG:KC.up 92 51= .box 3:=by kernel_rfl
@[simp] theorem TQ:KC.up 99 7= .scopes 0:=by kernel_rfl
@[simp] theorem RH:KC.up 100 7= .scopes 0:=by kernel_rfl
@[simp] theorem RI:KC.up 101 7= .scopes 0:=by kernel_rfl
@[simp] theorem RJ:KC.up 102 7= .scopes 0:=by kernel_rfl
@[simp] theorem RK:KC.up 103 7= .scopes 0:=by kernel_rfl
@[simp] theorem NO:KC.up 109 26= .scopes 0:=by kernel_rfl
@[simp] theorem NP:KC.up 111 36= .scopes 1:=by kernel_rfl
@[simp] theorem NQ:KC.up 134 27= .scopes 0:=by kernel_rfl
@[simp] theorem NR:KC.up 134 35= .scopes 0:=by kernel_rfl
@[simp] theorem NS:KC.up 134 43= .scopes 0:=by kernel_rfl
@[simp] theorem NT:KC.up 134 53= .scopes 0:=by kernel_rfl
@[simp] theorem NU:KC.up 134 60= .scopes 0:=by kernel_rfl
@[simp] theorem Xv:au 4 10=[]:=by kernel_rfl
@[simp] theorem Xw:au 4 12=[(10,0),(10,1),(10,2)]:=by kernel_rfl
@[simp] theorem Xx:au 4 16=[(9,4)]:=by kernel_rfl
@[simp] theorem Xy:au 4 17=[]:=by kernel_rfl
@[simp] theorem Xz:au 4 18=[]:=by kernel_rfl
@[simp] theorem XA:au 4 19=[]:=by kernel_rfl
@[simp] theorem XB:au 4 20=[]:=by kernel_rfl
@[simp] theorem XC:au 4 21=[]:=by kernel_rfl
@[simp] theorem TR:au 11 20=[(4,0)]:=by kernel_rfl
@[simp] theorem TU:au 11 34=[(20,4)]:=by kernel_rfl
@[simp] theorem XD:au 12 5=[]:=by kernel_rfl
@[simp] theorem XE:au 13 1=[(6,3)]:=by kernel_rfl
@[simp] theorem XF:au 13 2=[(4,2),(8,2),(8,5)]:=by kernel_rfl
@[simp] theorem XG:au 23 6=[]:=by kernel_rfl
@[simp] theorem TV:au 23 11=[]:=by kernel_rfl
@[simp] theorem XH:au 27 4=[(4,0)]:=by kernel_rfl
@[simp] theorem XI:au 28 4=[(5,0)]:=by kernel_rfl
@[simp] theorem XJ:au 29 9=[]:=by kernel_rfl
@[simp] theorem TW:au 30 10=[]:=by kernel_rfl
@[simp] theorem TX:au 30 17=[(5,0),(6,5),(9,0),(11,0)]:=by kernel_rfl
@[simp] theorem XK:au 31 6=[]:=by kernel_rfl
@[simp] theorem XL:au 47 6=[(3,1),(6,3),(7,3),(9,3)]:=by kernel_rfl
@[simp] theorem TY:au 47 10=[(6,1),(11,1),(11,9),(13,1),(13,9)]:=by kernel_rfl
@[simp] theorem XM:au 48 5=[(11,9)]:=by kernel_rfl
@[simp] theorem XN:au 48 9=[]:=by kernel_rfl
@[simp] theorem XO:au 49 6=[]:=by kernel_rfl
@[simp] theorem XP:au 49 9=[]:=by kernel_rfl
@[simp] theorem XQ:au 50 1=[(6,3),(10,3),(10,7)]:=by kernel_rfl
@[simp] theorem XR:au 51 1=[]:=by kernel_rfl
@[simp] theorem XS:au 51 6=[(14,7),(14,9)]:=by kernel_rfl
@[simp] theorem XT:au 51 8=[(17,7)]:=by kernel_rfl
@[simp] theorem TZ:au 51 10=[(7,1),(7,3),(9,7),(11,7),(13,7),(17,9),(17,11),(17,13)]:=by kernel_rfl
@[simp] theorem XU:au 53 1=[(3,2),(4,2)]:=by kernel_rfl
@[simp] theorem T0:au 57 11=[]:=by kernel_rfl
@[simp] theorem XV:au 58 1=[(3,1)]:=by kernel_rfl
@[simp] theorem XW:au 58 3=[(4,2),(4,3)]:=by kernel_rfl
@[simp] theorem XX:au 61 6=[]:=by kernel_rfl
@[simp] theorem XY:au 61 7=[]:=by kernel_rfl
@[simp] theorem XZ:au 63 1=[(6,3),(10,3),(10,7)]:=by kernel_rfl
@[simp] theorem X4:au 65 1=[(4,2),(7,2),(7,5),(10,2),(10,5),(10,8)]:=by kernel_rfl
@[simp] theorem X5:au 67 1=[(6,3)]:=by kernel_rfl
@[simp] theorem X6:au 67 2=[(6,3)]:=by kernel_rfl
@[simp] theorem X7:au 68 6=[]:=by kernel_rfl
@[simp] theorem X8:au 70 5=[(6,2)]:=by kernel_rfl
@[simp] theorem X9:au 72 7=[(4,0),(5,4)]:=by kernel_rfl
@[simp] theorem T3:au 72 15=[]:=by kernel_rfl
@[simp] theorem Ya:au 73 1=[]:=by kernel_rfl
@[simp] theorem Yb:au 80 5=[]:=by kernel_rfl
@[simp] theorem T4:au 80 12=[]:=by kernel_rfl
@[simp] theorem T5:au 80 14=[]:=by kernel_rfl
@[simp] theorem T6:au 80 18=[]:=by kernel_rfl
@[simp] theorem T7:au 80 21=[]:=by kernel_rfl
@[simp] theorem Yc:au 83 7=[]:=by kernel_rfl
@[simp] theorem Yd:au 84 1=[]:=by kernel_rfl
@[simp] theorem Ye:au 84 7=[]:=by kernel_rfl
@[simp] theorem Yf:au 84 9=[]:=by kernel_rfl
@[simp] theorem T8:au 84 11=[]:=by kernel_rfl
@[simp] theorem T9:au 84 15=[]:=by kernel_rfl
@[simp] theorem Yg:au 86 3=[]:=by kernel_rfl
@[simp] theorem Yh:au 86 4=[]:=by kernel_rfl
@[simp] theorem Yi:au 88 2=[]:=by kernel_rfl
@[simp] theorem Yj:au 88 6=[]:=by kernel_rfl
@[simp] theorem Yk:au 93 5=[]:=by kernel_rfl
@[simp] theorem Yl:au 93 7=[]:=by kernel_rfl
@[simp] theorem Ua:au 94 10=[]:=by kernel_rfl
@[simp] theorem Ub:au 95 16=[]:=by kernel_rfl
@[simp] theorem Uc:au 96 14=[]:=by kernel_rfl
@[simp] theorem Ud:au 96 16=[]:=by kernel_rfl
@[simp] theorem Ue:au 96 23=[]:=by kernel_rfl
@[simp] theorem Ym:au 97 9=[]:=by kernel_rfl
@[simp] theorem Uf:au 97 16=[]:=by kernel_rfl
@[simp] theorem Yn:au 98 9=[]:=by kernel_rfl
@[simp] theorem Ug:au 104 2=[]:=by kernel_rfl
@[simp] theorem Uh:au 104 4=[(3,1)]:=by kernel_rfl
@[simp] theorem Ui:au 105 1=[(4,2),(5,2)]:=by kernel_rfl
@[simp] theorem Uj:au 109 5=[]:=by kernel_rfl
@[simp] theorem Uk:au 110 5=[]:=by kernel_rfl
@[simp] theorem Ul:au 111 6=[]:=by kernel_rfl
@[simp] theorem RL:au 118 20=[(4,2),(5,2)]:=by kernel_rfl
@[simp] theorem Um:au 120 1=[]:=by kernel_rfl
@[simp] theorem Un:au 122 7=[]:=by kernel_rfl
@[simp] theorem Uo:au 134 4=[]:=by kernel_rfl
@[simp] theorem Uq:au 135 1=[]:=by kernel_rfl
@[simp] theorem Ur:au 137 1=[]:=by kernel_rfl
@[simp] theorem Us:au 138 1=[]:=by kernel_rfl
@[simp] theorem Ut:au 140 1=[(5,2),(8,5),(10,5),(12,5)]:=by kernel_rfl
@[simp] theorem Uu:au 140 2=[]:=by kernel_rfl
@[simp] theorem Uv:au 141 1=[]:=by kernel_rfl
@[simp] theorem Uw:au 142 1=[(8,2),(8,4),(9,8),(10,8),(11,2),(11,4)]:=by kernel_rfl
@[simp] theorem Ux:au 142 2=[]:=by kernel_rfl
@[simp] theorem Uy:au 143 1=[(10,7)]:=by kernel_rfl
@[simp] theorem Uz:au 144 1=[(5,2)]:=by kernel_rfl
@[simp] theorem UA:au 145 1=[(14,11),(21,18),(29,26),(37,34)]:=by kernel_rfl
@[simp] theorem UB:au 146 1=[(5,2)]:=by kernel_rfl
@[simp] theorem UC:au 146 2=[(5,2)]:=by kernel_rfl
@[simp] theorem UD:au 147 1=[(8,5)]:=by kernel_rfl
@[simp] theorem UE:au 148 1=[(5,2)]:=by kernel_rfl
@[simp] theorem UF:au 149 1=[(8,5)]:=by kernel_rfl
@[simp] theorem UG:au 150 1=[(5,2)]:=by kernel_rfl
@[simp] theorem UH:au 151 4=[]:=by kernel_rfl
@[simp] theorem UI:au 151 6=[]:=by kernel_rfl
@[simp] theorem UJ:au 152 5=[]:=by kernel_rfl
@[simp] theorem RM:au 152 11=[]:=by kernel_rfl
@[simp] theorem RN:au 152 17=[]:=by kernel_rfl
@[simp] theorem RO:au 152 23=[]:=by kernel_rfl
@[simp] theorem RP:au 152 35=[]:=by kernel_rfl
@[simp] theorem UK:au 153 1=[]:=by kernel_rfl
@[simp] theorem UL:au 154 1=[]:=by kernel_rfl
@[simp] theorem UM:au 155 1=[]:=by kernel_rfl
@[simp] theorem UN:au 159 3=[]:=by kernel_rfl
@[simp] theorem aen {t:Nat}:KC.eqs t=ru t:= .trans rfl rfl
@[simp] theorem UO (x0 x1:Int):jr KC 170 (.agg [.int .i64 x0, .int .i64 x1])=true:=by kernel_rfl
end
@[simp] theorem ade:fk Tryz.prog 3=some false:=by kernel_rfl
@[simp] theorem aa1:bD Tryz.prog 3=some 1:=by kernel_rfl
@[simp] theorem adf:fk Tryz.prog 4=some false:=by kernel_rfl
@[simp] theorem aa2:bD Tryz.prog 4=some 1:=by kernel_rfl
@[simp] theorem aa3:fk Tryz.prog 22=some false:=by kernel_rfl
@[simp] theorem Yo:bD Tryz.prog 22=some 1:=by kernel_rfl
@[simp] theorem Yp:fR Tryz.prog 22=some (some 2):=by kernel_rfl
@[simp] theorem aa4:fh Tryz.prog 22=none:=by kernel_rfl
@[simp] theorem aa5:uT Tryz.prog 22=some ((some 2),(some 16),(some 2)):=by kernel_rfl
@[simp] theorem aa6:tf Tryz.prog 22=some ((some 2),(some [(.pure (.int .i64 0)),(.pure (.int .i64 0))])):=by kernel_rfl
@[simp] theorem RQ:ey Tryz.prog (some 22)=true:=by kernel_rfl
@[simp] theorem aa7:fk Tryz.prog 23=some false:=by kernel_rfl
@[simp] theorem Yq:bD Tryz.prog 23=some 1:=by kernel_rfl
@[simp] theorem Yr:fR Tryz.prog 23=some (some 5):=by kernel_rfl
@[simp] theorem aa8:fh Tryz.prog 23=none:=by kernel_rfl
@[simp] theorem aa9:uT Tryz.prog 23=some ((some 5),(some 40),(some 5)):=by kernel_rfl
@[simp] theorem aba:tf Tryz.prog 23=some ((some 5),(some [(.pure (.int .i64 0)),(.pure (.int .i64 0)),(.pure (.int .i64 0)),(.pure (.int .i64 0)),(.pure (.bool false))])):=by kernel_rfl
@[simp] theorem RR:ey Tryz.prog (some 23)=true:=by kernel_rfl
@[simp] theorem abb:fk Tryz.prog 24=some false:=by kernel_rfl
@[simp] theorem Ys:bD Tryz.prog 24=some 1:=by kernel_rfl
@[simp] theorem Yt:fR Tryz.prog 24=some (some 1):=by kernel_rfl
@[simp] theorem abc:fh Tryz.prog 24=none:=by kernel_rfl
@[simp] theorem abd:uT Tryz.prog 24=some ((some 1),(some 8),(some 1)):=by kernel_rfl
@[simp] theorem abe:tf Tryz.prog 24=some ((some 1),(some [(.pure (.int .i64 0))])):=by kernel_rfl
@[simp] theorem RT:ey Tryz.prog (some 24)=true:=by kernel_rfl
@[simp] theorem abf:fk Tryz.prog 25=some false:=by kernel_rfl
@[simp] theorem Yu:bD Tryz.prog 25=some 1:=by kernel_rfl
@[simp] theorem Yv:fR Tryz.prog 25=some (some 9):=by kernel_rfl
@[simp] theorem abg:fh Tryz.prog 25=none:=by kernel_rfl
@[simp] theorem abh:uT Tryz.prog 25=some ((some 9),(some 72),(some 9)):=by kernel_rfl
@[simp] theorem abi:tf Tryz.prog 25=some ((some 9),(some [(.pure (.int .i64 0)),(.pure (.int .i64 0)),(.pure (.int .i64 0)),(.pure (.int .i64 0)),(.pure (.int .i64 0)),(.pure (.int .i64 0)),(.pure (.int .i64 0)),(.pure (.int .i64 0)),(.pure (.int .i64 0))])):=by kernel_rfl
@[simp] theorem RU:ey Tryz.prog (some 25)=true:=by kernel_rfl
@[simp] theorem abj:fk Tryz.prog 27=some true:=by kernel_rfl
@[simp] theorem Yw:bD Tryz.prog 27=some 7:=by kernel_rfl
@[simp] theorem Yx:cT Tryz.prog 27=some (.agg [(.pure (.int .i64 0)),(.pure (.int .i64 0)), .aS, .aS, .aS, .aS, .aS]):=by kernel_rfl
@[simp] theorem abk:fh Tryz.prog 27=none:=by kernel_rfl
@[simp] theorem RV:fV Tryz.prog 27=some [(0,1),(1,1),(2,1),(3,1),(4,1),(5,1),(6,1)]:=by kernel_rfl
@[simp] theorem abl:fk Tryz.prog 29=some true:=by kernel_rfl
@[simp] theorem Yy:bD Tryz.prog 29=some 9:=by kernel_rfl
@[simp] theorem Yz:cT Tryz.prog 29=some (.pure (.agg [(.int .i64 0),(.int .i64 0),(.int .i64 0),(.int .i64 0),(.int .i64 0),(.int .i64 0),(.int .i64 0),(.int .i64 0),(.int .i64 0)])):=by kernel_rfl
@[simp] theorem abm:fh Tryz.prog 29=none:=by kernel_rfl
@[simp] theorem RX:fV Tryz.prog 29=some [(0,1),(1,1),(2,1),(3,1),(4,1),(5,1),(6,1),(7,1),(8,1)]:=by kernel_rfl
@[simp] theorem YA:fR Tryz.prog 37=some (some 7):=by kernel_rfl
@[simp] theorem abn:fh Tryz.prog 37=none:=by kernel_rfl
@[simp] theorem abo:tf Tryz.prog 37=some ((some 7),(some [(.pure (.int .i64 0)),(.pure (.int .i64 0)), .aS, .aS, .aS, .aS, .aS])):=by kernel_rfl
@[simp] theorem abp:fk Tryz.prog 38=some false:=by kernel_rfl
@[simp] theorem YB:bD Tryz.prog 38=some 1:=by kernel_rfl
@[simp] theorem YC:fR Tryz.prog 38=some (some 2):=by kernel_rfl
@[simp] theorem abq:fh Tryz.prog 38=none:=by kernel_rfl
@[simp] theorem abr:uT Tryz.prog 38=some ((some 2),(some 16),(some 2)):=by kernel_rfl
@[simp] theorem abt:tf Tryz.prog 38=some ((some 2),(some [(.pure (.int .i64 0)),(.pure (.int .i64 0))])):=by kernel_rfl
@[simp] theorem RY:ey Tryz.prog (some 38)=true:=by kernel_rfl
@[simp] theorem abu:fk Tryz.prog 39=some false:=by kernel_rfl
@[simp] theorem YD:bD Tryz.prog 39=some 1:=by kernel_rfl
@[simp] theorem YE:fR Tryz.prog 39=some (some 2):=by kernel_rfl
@[simp] theorem abv:fh Tryz.prog 39=none:=by kernel_rfl
@[simp] theorem abw:uT Tryz.prog 39=some ((some 2),(some 16),(some 2)):=by kernel_rfl
@[simp] theorem abx:tf Tryz.prog 39=some ((some 2),(some [(.pure (.int .i64 0)),(.pure (.int .i64 0))])):=by kernel_rfl
@[simp] theorem RZ:ey Tryz.prog (some 39)=true:=by kernel_rfl
@[simp] theorem aby:fk Tryz.prog 41=some true:=by kernel_rfl
@[simp] theorem YF:bD Tryz.prog 41=some 3:=by kernel_rfl
@[simp] theorem YG:cT Tryz.prog 41=some (.agg [.aS, .aS, .aS]):=by kernel_rfl
@[simp] theorem abz:fh Tryz.prog 41=none:=by kernel_rfl
@[simp] theorem R4:fV Tryz.prog 41=some [(0,1),(1,1),(2,1)]:=by kernel_rfl
@[simp] theorem YH:fR Tryz.prog 45=some (some 3):=by kernel_rfl
@[simp] theorem abA:fh Tryz.prog 45=none:=by kernel_rfl
@[simp] theorem abB:uT Tryz.prog 45=some ((some 3),(some 72),(some 3)):=by kernel_rfl
@[simp] theorem abC:tf Tryz.prog 45=some ((some 3),(some [.aS, .aS, .aS])):=by kernel_rfl
@[simp] theorem R5:ey Tryz.prog (some 45)=true:=by kernel_rfl
@[simp] theorem YI:fR Tryz.prog 56=some (some 1):=by kernel_rfl
@[simp] theorem abD:fh Tryz.prog 56=none:=by kernel_rfl
@[simp] theorem abE:tf Tryz.prog 56=some ((some 1),(some [.aS])):=by kernel_rfl
@[simp] theorem abF:fk Tryz.prog 74=some true:=by kernel_rfl
@[simp] theorem YJ:bD Tryz.prog 74=some 2:=by kernel_rfl
@[simp] theorem YK:cT Tryz.prog 74=some (.pure (.agg [(.int .i64 0),(.int .i64 0)])):=by kernel_rfl
@[simp] theorem abG:fh Tryz.prog 74=none:=by kernel_rfl
@[simp] theorem R6:fV Tryz.prog 74=some [(0,1),(1,1)]:=by kernel_rfl
@[simp] theorem abH:fk Tryz.prog 84=some true:=by kernel_rfl
@[simp] theorem YL:bD Tryz.prog 84=some 2:=by kernel_rfl
@[simp] theorem YM:cT Tryz.prog 84=some (.pure (.agg [(.int .i64 0),(.int .i64 0)])):=by kernel_rfl
@[simp] theorem abI:fh Tryz.prog 84=some (2,(some 1),(some false)):=by kernel_rfl
@[simp] theorem abJ:fk Tryz.prog 86=some true:=by kernel_rfl
@[simp] theorem YN:bD Tryz.prog 86=some 5:=by kernel_rfl
@[simp] theorem YO:cT Tryz.prog 86=some (.pure (.agg [(.int .i64 0),(.int .i64 0),(.int .i64 0),(.int .i64 0),(.bool false)])):=by kernel_rfl
@[simp] theorem abK:fh Tryz.prog 86=none:=by kernel_rfl
@[simp] theorem R7:fV Tryz.prog 86=some [(0,1),(1,1),(2,1),(3,1),(4,1)]:=by kernel_rfl
@[simp] theorem abL:fk Tryz.prog 87=some false:=by kernel_rfl
@[simp] theorem YP:bD Tryz.prog 87=some 1:=by kernel_rfl
@[simp] theorem YQ:cT Tryz.prog 89=some (.pure (.agg [(.int .u64 0)])):=by kernel_rfl
@[simp] theorem abM:fh Tryz.prog 89=none:=by kernel_rfl
@[simp] theorem R8:fV Tryz.prog 89=some [(0,1)]:=by kernel_rfl
@[simp] theorem abN:fk Tryz.prog 94=some true:=by kernel_rfl
@[simp] theorem YR:bD Tryz.prog 94=some 10:=by kernel_rfl
@[simp] theorem YS:cT Tryz.prog 94=some (.agg [(.pure (.int .i64 0)),(.pure (.int .i64 0)), .aS, .aS, .aS, .aS, .aS, .aS, .aS, .aS]):=by kernel_rfl
@[simp] theorem abO:fh Tryz.prog 94=none:=by kernel_rfl
@[simp] theorem R9:fV Tryz.prog 94=some [(0,7),(7,3)]:=by kernel_rfl
@[simp] theorem YT:fk Tryz.prog 105=some true:=by kernel_rfl
@[simp] theorem UP:bD Tryz.prog 105=some 2:=by kernel_rfl
@[simp] theorem UQ:cT Tryz.prog 105=some (.pure (.agg [(.int .i64 0),(.int .i64 0)])):=by kernel_rfl
@[simp] theorem YU:fh Tryz.prog 105=none:=by kernel_rfl
@[simp] theorem NV:fV Tryz.prog 105=some [(0,1),(1,1)]:=by kernel_rfl
@[simp] theorem YV:fk Tryz.prog 130=some true:=by kernel_rfl
@[simp] theorem UR:bD Tryz.prog 130=some 3:=by kernel_rfl
@[simp] theorem US:cT Tryz.prog 130=some (.agg [.aS, .aS, .aS]):=by kernel_rfl
@[simp] theorem YW:fh Tryz.prog 130=none:=by kernel_rfl
@[simp] theorem NW:fV Tryz.prog 130=some [(0,1),(1,1),(2,1)]:=by kernel_rfl
@[simp] theorem UT:fR Tryz.prog 152=some (some 3):=by kernel_rfl
@[simp] theorem YX:fh Tryz.prog 152=none:=by kernel_rfl
@[simp] theorem YY:uT Tryz.prog 152=some ((some 3),(some 72),(some 3)):=by kernel_rfl
@[simp] theorem YZ:tf Tryz.prog 152=some ((some 3),(some [.aS, .aS, .aS])):=by kernel_rfl
@[simp] theorem NX:ey Tryz.prog (some 152)=true:=by kernel_rfl
@[simp] theorem Y1:fk Tryz.prog 161=some true:=by kernel_rfl
@[simp] theorem UU:bD Tryz.prog 161=some 2:=by kernel_rfl
@[simp] theorem UW:cT Tryz.prog 161=some (.pure (.agg [.iA, .iA])):=by kernel_rfl
@[simp] theorem Y2:fh Tryz.prog 161=none:=by kernel_rfl
@[simp] theorem NY:fV Tryz.prog 161=some [(0,1),(1,1)]:=by kernel_rfl
@[simp] theorem abP:tmz Tryz.prog 166=some (170,(some (.pure (.bool false)))):=by kernel_rfl
@[simp] theorem Y3:xx Tryz.prog 166=some (170,4):=by kernel_rfl
@[simp] theorem UX:fR Tryz.prog 167=some (some 2):=by kernel_rfl
@[simp] theorem Y4:fh Tryz.prog 167=none:=by kernel_rfl
@[simp] theorem Y5:uT Tryz.prog 167=some ((some 2),(some 16),(some 2)):=by kernel_rfl
@[simp] theorem Y6:tf Tryz.prog 167=some ((some 2),(some [(.pure (.int .i64 0)),(.pure (.int .i64 0))])):=by kernel_rfl
@[simp] theorem NZ:ey Tryz.prog (some 167)=true:=by kernel_rfl
@[simp] theorem Y7:fk Tryz.prog 170=some true:=by kernel_rfl
@[simp] theorem UY:bD Tryz.prog 170=some 2:=by kernel_rfl
@[simp] theorem UZ:cT Tryz.prog 170=some (.pure (.agg [(.int .i64 0),(.int .i64 0)])):=by kernel_rfl
@[simp] theorem Y8:fh Tryz.prog 170=none:=by kernel_rfl
@[simp] theorem N0:fV Tryz.prog 170=some [(0,1),(1,1)]:=by kernel_rfl
@[simp] theorem U0:bD Tryz.prog 172=some 18:=by kernel_rfl
@[simp] theorem U1:cT Tryz.prog 172=some (.pure (.agg [.iA, .iA, .iA, .iA, .iA, .iA, .iA, .iA, .iA, .iA, .iA, .iA, .iA, .iA, .iA, .iA, .iA, .iA])):=by kernel_rfl
@[simp] theorem Y9:fh Tryz.prog 172=some (9,(some 2),(some true)):=by kernel_rfl
@[simp] theorem abQ:IY Tryz.prog 25=some ((some 9),(some [(.int .i64 0),(.int .i64 0),(.int .i64 0),(.int .i64 0),(.int .i64 0),(.int .i64 0),(.int .i64 0),(.int .i64 0),(.int .i64 0)])):=by kernel_rfl
@[simp] theorem Za:oc Tryz.prog 27 0=some (0,(some 1)):=by kernel_rfl
@[simp] theorem Zb:oc Tryz.prog 27 1=some (1,(some 1)):=by kernel_rfl
@[simp] theorem Zc:oc Tryz.prog 27 2=some (2,(some 1)):=by kernel_rfl
@[simp] theorem Zd:oc Tryz.prog 27 3=some (3,(some 1)):=by kernel_rfl
@[simp] theorem Ze:oc Tryz.prog 27 4=some (4,(some 1)):=by kernel_rfl
@[simp] theorem Zf:oc Tryz.prog 27 5=some (5,(some 1)):=by kernel_rfl
@[simp] theorem Zg:oc Tryz.prog 27 6=some (6,(some 1)):=by kernel_rfl
@[simp] theorem Zh:oc Tryz.prog 29 0=some (0,(some 1)):=by kernel_rfl
@[simp] theorem Zi:oc Tryz.prog 29 1=some (1,(some 1)):=by kernel_rfl
@[simp] theorem Zj:oc Tryz.prog 29 2=some (2,(some 1)):=by kernel_rfl
@[simp] theorem Zk:oc Tryz.prog 29 3=some (3,(some 1)):=by kernel_rfl
@[simp] theorem Zl:oc Tryz.prog 29 4=some (4,(some 1)):=by kernel_rfl
@[simp] theorem Zm:oc Tryz.prog 29 5=some (5,(some 1)):=by kernel_rfl
@[simp] theorem Zn:oc Tryz.prog 29 6=some (6,(some 1)):=by kernel_rfl
@[simp] theorem Zo:oc Tryz.prog 29 7=some (7,(some 1)):=by kernel_rfl
@[simp] theorem Zp:oc Tryz.prog 29 8=some (8,(some 1)):=by kernel_rfl
@[simp] theorem Zq:oc Tryz.prog 41 0=some (0,(some 1)):=by kernel_rfl
@[simp] theorem Zr:oc Tryz.prog 41 1=some (1,(some 1)):=by kernel_rfl
@[simp] theorem Zs:oc Tryz.prog 41 2=some (2,(some 1)):=by kernel_rfl
@[simp] theorem Zt:oc Tryz.prog 74 0=some (0,(some 1)):=by kernel_rfl
@[simp] theorem Zu:oc Tryz.prog 74 1=some (1,(some 1)):=by kernel_rfl
@[simp] theorem Zv:oc Tryz.prog 86 0=some (0,(some 1)):=by kernel_rfl
@[simp] theorem Zw:oc Tryz.prog 86 1=some (1,(some 1)):=by kernel_rfl
@[simp] theorem Zx:oc Tryz.prog 86 2=some (2,(some 1)):=by kernel_rfl
@[simp] theorem Zy:oc Tryz.prog 86 3=some (3,(some 1)):=by kernel_rfl
@[simp] theorem Zz:oc Tryz.prog 86 4=some (4,(some 1)):=by kernel_rfl
@[simp] theorem ZA:oc Tryz.prog 89 0=some (0,(some 1)):=by kernel_rfl
@[simp] theorem ZB:oc Tryz.prog 94 0=some (0,(some 7)):=by kernel_rfl
@[simp] theorem ZC:oc Tryz.prog 94 1=some (7,(some 3)):=by kernel_rfl
@[simp] theorem U3:oc Tryz.prog 105 0=some (0,(some 1)):=by kernel_rfl
@[simp] theorem U4:oc Tryz.prog 105 1=some (1,(some 1)):=by kernel_rfl
@[simp] theorem U5:oc Tryz.prog 130 0=some (0,(some 1)):=by kernel_rfl
@[simp] theorem U6:oc Tryz.prog 130 1=some (1,(some 1)):=by kernel_rfl
@[simp] theorem U7:oc Tryz.prog 130 2=some (2,(some 1)):=by kernel_rfl
@[simp] theorem U8:tfa Tryz.prog 161 0=some (0,(some false),(some 1)):=by kernel_rfl
@[simp] theorem U9:tfa Tryz.prog 161 1=some (1,(some false),(some 1)):=by kernel_rfl
attribute [simp] Tryz.results2 Tryz.ntmps2
attribute [simp] Tryz.results3 Tryz.ntmps3
attribute [simp] Tryz.results4 Tryz.ntmps4
attribute [simp] Tryz.results5 Tryz.ntmps5
attribute [simp] Tryz.results6 Tryz.ntmps6
attribute [simp] Tryz.results7 Tryz.ntmps7
attribute [simp] Tryz.results8 Tryz.ntmps8
attribute [simp] Tryz.results9 Tryz.ntmps9
attribute [simp] Tryz.results10 Tryz.ntmps10
attribute [simp] Tryz.results11 Tryz.ntmps11
attribute [simp] Tryz.results12 Tryz.ntmps12
attribute [simp] Tryz.results13 Tryz.ntmps13
attribute [simp] Tryz.results14 Tryz.ntmps14
attribute [simp] Tryz.results15 Tryz.ntmps15
attribute [simp] Tryz.results16 Tryz.ntmps16
attribute [simp] Tryz.results17 Tryz.ntmps17
attribute [simp] Tryz.results18 Tryz.ntmps18
attribute [simp] Tryz.results19 Tryz.ntmps19
attribute [simp] Tryz.results20 Tryz.ntmps20
attribute [simp] Tryz.results21 Tryz.ntmps21
attribute [simp] Tryz.results22 Tryz.ntmps22
attribute [simp] Tryz.results23 Tryz.ntmps23
attribute [simp] Tryz.results24 Tryz.ntmps24
attribute [simp] Tryz.results25 Tryz.ntmps25
attribute [simp] Tryz.results26 Tryz.ntmps26
attribute [simp] Tryz.results27 Tryz.ntmps27
attribute [simp] Tryz.results28 Tryz.ntmps28
attribute [simp] Tryz.results29 Tryz.ntmps29
attribute [simp] Tryz.results30 Tryz.ntmps30
attribute [simp] Tryz.results31 Tryz.ntmps31
attribute [simp] Tryz.results32 Tryz.ntmps32
attribute [simp] Tryz.results33 Tryz.ntmps33
attribute [simp] Tryz.results34 Tryz.ntmps34
attribute [simp] Tryz.results35 Tryz.ntmps35
attribute [simp] Tryz.results36 Tryz.ntmps36
attribute [simp] Tryz.results37 Tryz.ntmps37
attribute [simp] Tryz.results38 Tryz.ntmps38
attribute [simp] Tryz.results39 Tryz.ntmps39
attribute [simp] Tryz.results40 Tryz.ntmps40
attribute [simp] Tryz.results41 Tryz.ntmps41
attribute [simp] Tryz.results42 Tryz.ntmps42
attribute [simp] Tryz.results43 Tryz.ntmps43
attribute [simp] Tryz.results44 Tryz.ntmps44
attribute [simp] Tryz.results45 Tryz.ntmps45
attribute [simp] Tryz.results46 Tryz.ntmps46
attribute [simp] Tryz.results47 Tryz.ntmps47
attribute [simp] Tryz.results48 Tryz.ntmps48
attribute [simp] Tryz.results49 Tryz.ntmps49
attribute [simp] Tryz.results50 Tryz.ntmps50
attribute [simp] Tryz.results51 Tryz.ntmps51
attribute [simp] Tryz.results52 Tryz.ntmps52
attribute [simp] Tryz.results53 Tryz.ntmps53
attribute [simp] Tryz.results54 Tryz.ntmps54
attribute [simp] Tryz.results55 Tryz.ntmps55
attribute [simp] Tryz.results56 Tryz.ntmps56
attribute [simp] Tryz.results57 Tryz.ntmps57
attribute [simp] Tryz.results58 Tryz.ntmps58
attribute [simp] Tryz.results59 Tryz.ntmps59
attribute [simp] Tryz.results60 Tryz.ntmps60
attribute [simp] Tryz.results61 Tryz.ntmps61
attribute [simp] Tryz.results62 Tryz.ntmps62
attribute [simp] Tryz.results63 Tryz.ntmps63
attribute [simp] Tryz.results64 Tryz.ntmps64
attribute [simp] Tryz.results65 Tryz.ntmps65
attribute [simp] Tryz.results66 Tryz.ntmps66
attribute [simp] Tryz.results67 Tryz.ntmps67
attribute [simp] Tryz.results68 Tryz.ntmps68
attribute [simp] Tryz.results69 Tryz.ntmps69
attribute [simp] Tryz.results70 Tryz.ntmps70
attribute [simp] Tryz.results71 Tryz.ntmps71
attribute [simp] Tryz.results72 Tryz.ntmps72
attribute [simp] Tryz.results73 Tryz.ntmps73
attribute [simp] Tryz.results74 Tryz.ntmps74
attribute [simp] Tryz.results75 Tryz.ntmps75
attribute [simp] Tryz.results76 Tryz.ntmps76
attribute [simp] Tryz.results77 Tryz.ntmps77
attribute [simp] Tryz.results78 Tryz.ntmps78
attribute [simp] Tryz.results79 Tryz.ntmps79
attribute [simp] Tryz.results80 Tryz.ntmps80
attribute [simp] Tryz.results81 Tryz.ntmps81
attribute [simp] Tryz.results82 Tryz.ntmps82
attribute [simp] Tryz.results83 Tryz.ntmps83
attribute [simp] Tryz.results84 Tryz.ntmps84
attribute [simp] Tryz.results85 Tryz.ntmps85
attribute [simp] Tryz.results86 Tryz.ntmps86
attribute [simp] Tryz.results87 Tryz.ntmps87
attribute [simp] Tryz.results88 Tryz.ntmps88
attribute [simp] Tryz.results89 Tryz.ntmps89
attribute [simp] Tryz.results90 Tryz.ntmps90
attribute [simp] Tryz.results91 Tryz.ntmps91
attribute [simp] Tryz.results92 Tryz.ntmps92
attribute [simp] Tryz.results93 Tryz.ntmps93
attribute [simp] Tryz.results94 Tryz.ntmps94
attribute [simp] Tryz.results95 Tryz.ntmps95
attribute [simp] Tryz.results96 Tryz.ntmps96
attribute [simp] Tryz.results97 Tryz.ntmps97
attribute [simp] Tryz.results98 Tryz.ntmps98
attribute [simp] Tryz.results99 Tryz.ntmps99
attribute [simp] Tryz.results100 Tryz.ntmps100
attribute [simp] Tryz.results101 Tryz.ntmps101
attribute [simp] Tryz.results102 Tryz.ntmps102
attribute [simp] Tryz.results103 Tryz.ntmps103
attribute [simp] Tryz.results104 Tryz.ntmps104
attribute [simp] Tryz.results105 Tryz.ntmps105
attribute [simp] Tryz.results106 Tryz.ntmps106
attribute [simp] Tryz.results107 Tryz.ntmps107
attribute [simp] Tryz.results108 Tryz.ntmps108
attribute [simp] Tryz.results109 Tryz.ntmps109
attribute [simp] Tryz.results110 Tryz.ntmps110
attribute [simp] Tryz.results111 Tryz.ntmps111
attribute [simp] Tryz.results112 Tryz.ntmps112
attribute [simp] Tryz.results113 Tryz.ntmps113
attribute [simp] Tryz.results114 Tryz.ntmps114
attribute [simp] Tryz.results115 Tryz.ntmps115
attribute [simp] Tryz.results116 Tryz.ntmps116
attribute [simp] Tryz.results117 Tryz.ntmps117
attribute [simp] Tryz.results118 Tryz.ntmps118
attribute [simp] Tryz.results119 Tryz.ntmps119
attribute [simp] Tryz.results120 Tryz.ntmps120
attribute [simp] Tryz.results121 Tryz.ntmps121
attribute [simp] Tryz.results122 Tryz.ntmps122
attribute [simp] Tryz.results123 Tryz.ntmps123
attribute [simp] Tryz.results124 Tryz.ntmps124
attribute [simp] Tryz.results125 Tryz.ntmps125
attribute [simp] Tryz.results126 Tryz.ntmps126
attribute [simp] Tryz.results127 Tryz.ntmps127
attribute [simp] Tryz.results128 Tryz.ntmps128
attribute [simp] Tryz.results129 Tryz.ntmps129
attribute [simp] Tryz.results130 Tryz.ntmps130
attribute [simp] Tryz.results131 Tryz.ntmps131
attribute [simp] Tryz.results132 Tryz.ntmps132
attribute [simp] Tryz.results133 Tryz.ntmps133
attribute [simp] Tryz.results134 Tryz.ntmps134
attribute [simp] Tryz.results135 Tryz.ntmps135
attribute [simp] Tryz.results136 Tryz.ntmps136
attribute [simp] Tryz.results137 Tryz.ntmps137
attribute [simp] Tryz.results138 Tryz.ntmps138
attribute [simp] Tryz.results139 Tryz.ntmps139
attribute [simp] Tryz.results140 Tryz.ntmps140
attribute [simp] Tryz.results141 Tryz.ntmps141
attribute [simp] Tryz.results142 Tryz.ntmps142
attribute [simp] Tryz.results143 Tryz.ntmps143
attribute [simp] Tryz.results144 Tryz.ntmps144
attribute [simp] Tryz.results145 Tryz.ntmps145
attribute [simp] Tryz.results146 Tryz.ntmps146
attribute [simp] Tryz.results147 Tryz.ntmps147
attribute [simp] Tryz.results148 Tryz.ntmps148
attribute [simp] Tryz.results149 Tryz.ntmps149
attribute [simp] Tryz.results150 Tryz.ntmps150
attribute [simp] Tryz.results151 Tryz.ntmps151
attribute [simp] Tryz.results152 Tryz.ntmps152
attribute [simp] Tryz.results153 Tryz.ntmps153
attribute [simp] Tryz.results154 Tryz.ntmps154
attribute [simp] Tryz.results155 Tryz.ntmps155
attribute [simp] Tryz.results156 Tryz.ntmps156
attribute [simp] Tryz.results157 Tryz.ntmps157
attribute [simp] Tryz.results158 Tryz.ntmps158
attribute [simp] Tryz.results159 Tryz.ntmps159
section
def j0:Code→List Code
 | .seq a b=>j0 a++j0 b
 | .cond _ a b=>j0 a++j0 b
 | .block _ a=>j0 a
 | .scope a=>j0 a
 | .loop a=>a::j0 a
 | .rangeFunc _ _ a b=>j0 a++j0 b
 |_=> []
def lp (g:Func)(k:Nat):Code:=((j0 (g.body.getD .skip))[k]?).getD .skip
noncomputable def na {α:Type}(a:α):α:=Classical.choose (⟨a,rfl⟩: ∃x,x=a)
theorem cO {α:Type}(a:α):na a=a:=Classical.choose_spec (⟨a,rfl⟩: ∃x,x=a)
section
variable {K:Ctx} {fn:FuncId} {H:aj}
def saV (v:GV)(x:Option (GV×aj)):Bool:=match x with|some (v',_)=>GV.beq v' v|none=>false
@[simp] theorem abR {v v':GV}:saV v (some (v',H))=GV.beq v' v:=rfl
@[simp] theorem Va {o:Oper}{s:bd}{v:GV}:sameAt K fn o s v H=saV v (eP K fn o s H):=by
 unfold sameAt saV;rfl
@[simp] theorem HS (n:Nat):((n:Int)<0)=False:=by simp
theorem cu {x:Int}(h1: -9223372036854775808≤x)(h2:x≤9223372036854775807):IntKind.i64.wrap x=x:=IntWalk.i64_in x ⟨h1,h2⟩
def bL (w:Int):dM:= .box [.pure (.int .u64 w)]
def fW (H:aj)(nm:Nm):Prop:= ∃w,H.get nm=some (bL w)∧H.set nm (bL w)=H
def bK (H:aj)(nm:Nm):Int:=match H.get nm with|some (.box [.pure (.int _ w)])=>w|_=>0
theorem xV {nm:Nm}(h:fW H nm):H.get nm=some (bL (bK H nm)):=by
 obtain⟨w,h1,h2⟩:=h;simp only [bK,h1,bL]
theorem kO {nm:Nm}(h:fW H nm):H.set nm (bL (bK H nm))=H:=by
 obtain⟨w,h1,h2⟩:=h;simp only [bK,h1,bL];exact h2
theorem ib {nm:Nm}(h:fW H nm):nm.1<H.length:=by
 obtain⟨w,h1,h2⟩:=h;exact aj.bS h1
theorem Fr.iB {q : Nat} {x y : dM} : ∀ f : Fr, (f.ins q x).ins q y = f.ins q y
  | [] => by simp [Fr.ins]
  | (k, b) :: r => by
    simp only [Fr.ins]
    split
    · simp [Fr.ins]
    · rename_i h
      split
      · simp [Fr.ins]
      · rename_i h2
        simp only [Fr.ins, h, h2, if_false, Fr.iB r]
@[simp] theorem aj.set_set {nm:Nm}{x y:dM}: ∀{H:aj},(H.set nm x).set nm y=H.set nm y
 | []=>rfl
 |f::H=>by
  simp only [aj.set];split
  ·rename_i h;simp only [aj.set,h,if_true,Fr.iB]
  ·rename_i h;simp only [aj.set,aj.length_set,h,if_false,aj.set_set]
attribute [simp] aj.length_set
@[simp] theorem aj.fZ {nm:Nm}{b:dM}(h:nm.1<H.length):(H.set nm b).get nm=some b:=aj.dg b h
@[simp] theorem lf {nm:Nm}{w:Int}(h:nm.1<H.length):bK (H.set nm (bL w)) nm=w:=by
 simp only [bK,aj.fZ h,bL]
@[simp] theorem ld {nm:Nm}{w:Int}(h:nm.1<H.length):fW (H.set nm (bL w)) nm:=⟨w,aj.fZ h,aj.set_set⟩
theorem eC {nm:Nm}{fr:Fr}(h:fW H nm):fW (fr::H) nm:=by
 have hl:=ib h;obtain⟨w,h1,h2⟩:=h;have: ¬nm.1=H.length:=(by omega);exact⟨w,by simp [this,h1],by simp [this,h2]⟩
theorem dK {nm:Nm}{fr:Fr}(h:nm.1<H.length):bK (fr::H) nm=bK H nm:=by
 have: ¬nm.1=H.length:=(by omega);simp [bK,this]
theorem aj.eH {nm:Nm}{fr:Fr}{b:dM}(h:nm.1<H.length):aj.set (fr::H) nm b=fr::H.set nm b:=by
 have: ¬nm.1=H.length:=(by omega);simp [this]
end
end
theorem aak:bE KC au 4 (Tryz.f4.body.getD .skip)=true:=by kernel_rfl
theorem aau:bE KC au 9 (Tryz.f9.body.getD .skip)=true:=by kernel_rfl
theorem Vb:bE KC au 11 (Tryz.f11.body.getD .skip)=true:=by kernel_rfl
theorem Vc:bE KC au 12 (Tryz.f12.body.getD .skip)=true:=by kernel_rfl
theorem Vd:bE KC au 13 (Tryz.f13.body.getD .skip)=true:=by kernel_rfl
theorem IG:bE KC au 15 (Tryz.f15.body.getD .skip)=true:=by kernel_rfl
theorem Ve:bE KC au 18 (Tryz.f18.body.getD .skip)=true:=by kernel_rfl
theorem Tk:bE KC au 23 (Tryz.f23.body.getD .skip)=true:=by kernel_rfl
theorem Vf:bE KC au 24 (Tryz.f24.body.getD .skip)=true:=by kernel_rfl
theorem Vg:bE KC au 25 (Tryz.f25.body.getD .skip)=true:=by kernel_rfl
theorem Vh:bE KC au 26 (Tryz.f26.body.getD .skip)=true:=by kernel_rfl
theorem Vi:bE KC au 27 (Tryz.f27.body.getD .skip)=true:=by kernel_rfl
theorem Vj:bE KC au 28 (Tryz.f28.body.getD .skip)=true:=by kernel_rfl
theorem Vk:bE KC au 29 (Tryz.f29.body.getD .skip)=true:=by kernel_rfl
theorem Vl:bE KC au 30 (Tryz.f30.body.getD .skip)=true:=by kernel_rfl
theorem Ik:bE KC au 31 (Tryz.f31.body.getD .skip)=true:=by kernel_rfl
theorem Tg:bE KC au 47 (Tryz.f47.body.getD .skip)=true:=by kernel_rfl
theorem I7:bE KC au 48 (Tryz.f48.body.getD .skip)=true:=by kernel_rfl
theorem Vm:bE KC au 49 (Tryz.f49.body.getD .skip)=true:=by kernel_rfl
theorem Ic:bE KC au 50 (Tryz.f50.body.getD .skip)=true:=by kernel_rfl
theorem gH:bE KC au 51 (Tryz.f51.body.getD .skip)=true:=by kernel_rfl
theorem Vn:bE KC au 52 (Tryz.f52.body.getD .skip)=true:=by kernel_rfl
theorem Vo:bE KC au 53 (Tryz.f53.body.getD .skip)=true:=by kernel_rfl
theorem Vp:bE KC au 54 (Tryz.f54.body.getD .skip)=true:=by kernel_rfl
theorem Vq:bE KC au 55 (Tryz.f55.body.getD .skip)=true:=by kernel_rfl
theorem Vr:bE KC au 56 (Tryz.f56.body.getD .skip)=true:=by kernel_rfl
theorem Vs:bE KC au 57 (Tryz.f57.body.getD .skip)=true:=by kernel_rfl
theorem Tu:bE KC au 58 (Tryz.f58.body.getD .skip)=true:=by kernel_rfl
theorem Tv:bE KC au 59 (Tryz.f59.body.getD .skip)=true:=by kernel_rfl
theorem Vt:bE KC au 60 (Tryz.f60.body.getD .skip)=true:=by kernel_rfl
theorem I8:bE KC au 61 (Tryz.f61.body.getD .skip)=true:=by kernel_rfl
theorem I9:bE KC au 63 (Tryz.f63.body.getD .skip)=true:=by kernel_rfl
theorem Vu:bE KC au 64 (Tryz.f64.body.getD .skip)=true:=by kernel_rfl
theorem Vv:bE KC au 65 (Tryz.f65.body.getD .skip)=true:=by kernel_rfl
theorem Vw:bE KC au 66 (Tryz.f66.body.getD .skip)=true:=by kernel_rfl
theorem Vx:bE KC au 67 (Tryz.f67.body.getD .skip)=true:=by kernel_rfl
theorem Tj:bE KC au 68 (Tryz.f68.body.getD .skip)=true:=by kernel_rfl
theorem Vy:bE KC au 69 (Tryz.f69.body.getD .skip)=true:=by kernel_rfl
theorem Vz:bE KC au 70 (Tryz.f70.body.getD .skip)=true:=by kernel_rfl
theorem VA:bE KC au 71 (Tryz.f71.body.getD .skip)=true:=by kernel_rfl
theorem VB:bE KC au 72 (Tryz.f72.body.getD .skip)=true:=by kernel_rfl
theorem VC:bE KC au 73 (Tryz.f73.body.getD .skip)=true:=by kernel_rfl
theorem VD:bE KC au 74 (Tryz.f74.body.getD .skip)=true:=by kernel_rfl
theorem VE:bE KC au 75 (Tryz.f75.body.getD .skip)=true:=by kernel_rfl
theorem VF:bE KC au 76 (Tryz.f76.body.getD .skip)=true:=by kernel_rfl
theorem VG:bE KC au 77 (Tryz.f77.body.getD .skip)=true:=by kernel_rfl
theorem VH:bE KC au 78 (Tryz.f78.body.getD .skip)=true:=by kernel_rfl
theorem VI:bE KC au 80 (Tryz.f80.body.getD .skip)=true:=by kernel_rfl
theorem VJ:bE KC au 82 (Tryz.f82.body.getD .skip)=true:=by kernel_rfl
theorem Te:bE KC au 83 (Tryz.f83.body.getD .skip)=true:=by kernel_rfl
theorem Ja:bE KC au 84 (Tryz.f84.body.getD .skip)=true:=by kernel_rfl
theorem VK:bE KC au 85 (Tryz.f85.body.getD .skip)=true:=by kernel_rfl
theorem VL:bE KC au 86 (Tryz.f86.body.getD .skip)=true:=by kernel_rfl
theorem VM:bE KC au 87 (Tryz.f87.body.getD .skip)=true:=by kernel_rfl
theorem Jb:bE KC au 88 (Tryz.f88.body.getD .skip)=true:=by kernel_rfl
theorem VN:bE KC au 89 (Tryz.f89.body.getD .skip)=true:=by kernel_rfl
theorem VO:bE KC au 90 (Tryz.f90.body.getD .skip)=true:=by kernel_rfl
theorem VP:bE KC au 91 (Tryz.f91.body.getD .skip)=true:=by kernel_rfl
theorem VQ:bE KC au 92 (Tryz.f92.body.getD .skip)=true:=by kernel_rfl
theorem Tt:bE KC au 93 (Tryz.f93.body.getD .skip)=true:=by kernel_rfl
theorem VR:bE KC au 94 (Tryz.f94.body.getD .skip)=true:=by kernel_rfl
theorem VS:bE KC au 95 (Tryz.f95.body.getD .skip)=true:=by kernel_rfl
theorem VT:bE KC au 96 (Tryz.f96.body.getD .skip)=true:=by kernel_rfl
theorem VU:bE KC au 97 (Tryz.f97.body.getD .skip)=true:=by kernel_rfl
theorem VW:bE KC au 98 (Tryz.f98.body.getD .skip)=true:=by kernel_rfl
theorem VX:bE KC au 99 (Tryz.f99.body.getD .skip)=true:=by kernel_rfl
theorem N4:bE KC au 100 (Tryz.f100.body.getD .skip)=true:=by kernel_rfl
theorem N5:bE KC au 101 (Tryz.f101.body.getD .skip)=true:=by kernel_rfl
theorem N6:bE KC au 102 (Tryz.f102.body.getD .skip)=true:=by kernel_rfl
theorem N7:bE KC au 103 (Tryz.f103.body.getD .skip)=true:=by kernel_rfl
theorem N8:bE KC au 104 (Tryz.f104.body.getD .skip)=true:=by kernel_rfl
theorem Lw:bE KC au 105 (Tryz.f105.body.getD .skip)=true:=by kernel_rfl
theorem N9:bE KC au 106 (Tryz.f106.body.getD .skip)=true:=by kernel_rfl
theorem L0:bE KC au 107 (Tryz.f107.body.getD .skip)=true:=by kernel_rfl
theorem LZ:bE KC au 108 (Tryz.f108.body.getD .skip)=true:=by kernel_rfl
theorem LX:bE KC au 109 (Tryz.f109.body.getD .skip)=true:=by kernel_rfl
theorem Oa:bE KC au 110 (Tryz.f110.body.getD .skip)=true:=by kernel_rfl
theorem Ob:bE KC au 111 (Tryz.f111.body.getD .skip)=true:=by kernel_rfl
theorem Oc:bE KC au 112 (Tryz.f112.body.getD .skip)=true:=by kernel_rfl
theorem Od:bE KC au 113 (Tryz.f113.body.getD .skip)=true:=by kernel_rfl
theorem Lk:bE KC au 115 (Tryz.f115.body.getD .skip)=true:=by kernel_rfl
theorem EJ:bE KC au 118 (Tryz.f118.body.getD .skip)=true:=by kernel_rfl
theorem Oe:bE KC au 120 (Tryz.f120.body.getD .skip)=true:=by kernel_rfl
theorem Og:bE KC au 121 (Tryz.f121.body.getD .skip)=true:=by kernel_rfl
theorem Oh:bE KC au 122 (Tryz.f122.body.getD .skip)=true:=by kernel_rfl
theorem Oi:bE KC au 123 (Tryz.f123.body.getD .skip)=true:=by kernel_rfl
theorem Oj:bE KC au 124 (Tryz.f124.body.getD .skip)=true:=by kernel_rfl
theorem Ok:bE KC au 125 (Tryz.f125.body.getD .skip)=true:=by kernel_rfl
theorem Ol:bE KC au 126 (Tryz.f126.body.getD .skip)=true:=by kernel_rfl
theorem Lv:bE KC au 127 (Tryz.f127.body.getD .skip)=true:=by kernel_rfl
theorem Om:bE KC au 128 (Tryz.f128.body.getD .skip)=true:=by kernel_rfl
theorem LY:bE KC au 129 (Tryz.f129.body.getD .skip)=true:=by kernel_rfl
theorem On:bE KC au 130 (Tryz.f130.body.getD .skip)=true:=by kernel_rfl
theorem Lj:bE KC au 131 (Tryz.f131.body.getD .skip)=true:=by kernel_rfl
theorem Lx:bE KC au 134 (Tryz.f134.body.getD .skip)=true:=by kernel_rfl
theorem Ln:bE KC au 135 (Tryz.f135.body.getD .skip)=true:=by kernel_rfl
theorem Ey:bE KC au 136 (Tryz.f136.body.getD .skip)=true:=by kernel_rfl
theorem Lo:bE KC au 137 (Tryz.f137.body.getD .skip)=true:=by kernel_rfl
theorem LA:bE KC au 138 (Tryz.f138.body.getD .skip)=true:=by kernel_rfl
theorem Lp:bE KC au 139 (Tryz.f139.body.getD .skip)=true:=by kernel_rfl
theorem LB:bE KC au 140 (Tryz.f140.body.getD .skip)=true:=by kernel_rfl
theorem Lq:bE KC au 141 (Tryz.f141.body.getD .skip)=true:=by kernel_rfl
theorem Ez:bE KC au 142 (Tryz.f142.body.getD .skip)=true:=by kernel_rfl
theorem Lr:bE KC au 143 (Tryz.f143.body.getD .skip)=true:=by kernel_rfl
theorem LC:bE KC au 144 (Tryz.f144.body.getD .skip)=true:=by kernel_rfl
theorem Ls:bE KC au 145 (Tryz.f145.body.getD .skip)=true:=by kernel_rfl
theorem LF:bE KC au 146 (Tryz.f146.body.getD .skip)=true:=by kernel_rfl
theorem Lt:bE KC au 147 (Tryz.f147.body.getD .skip)=true:=by kernel_rfl
theorem LG:bE KC au 148 (Tryz.f148.body.getD .skip)=true:=by kernel_rfl
theorem Lu:bE KC au 149 (Tryz.f149.body.getD .skip)=true:=by kernel_rfl
theorem LI:bE KC au 150 (Tryz.f150.body.getD .skip)=true:=by kernel_rfl
theorem Oo:bE KC au 151 (Tryz.f151.body.getD .skip)=true:=by kernel_rfl
theorem zQ:bE KC au 152 (Tryz.f152.body.getD .skip)=true:=by kernel_rfl
theorem Le:bE KC au 153 (Tryz.f153.body.getD .skip)=true:=by kernel_rfl
theorem Ld:bE KC au 154 (Tryz.f154.body.getD .skip)=true:=by kernel_rfl
theorem Li:bE KC au 155 (Tryz.f155.body.getD .skip)=true:=by kernel_rfl
theorem Ll:bE KC au 156 (Tryz.f156.body.getD .skip)=true:=by kernel_rfl
theorem Lf:bE KC au 157 (Tryz.f157.body.getD .skip)=true:=by kernel_rfl
theorem L6:bE KC au 158 (Tryz.f158.body.getD .skip)=true:=by kernel_rfl
theorem L5:bE KC au 159 (Tryz.f159.body.getD .skip)=true:=by kernel_rfl
section
@[simp] theorem adh (n:Nat):(n=n+1+1)=False:=by simp;omega
@[simp] theorem adi (n:Nat):(n=n+1+1+1)=False:=by simp;omega
@[simp] theorem adj (n:Nat):(n=n+1+1+1+1)=False:=by simp;omega
@[simp] theorem abS (n:Nat):(n+1+1=n)=False:=by simp;omega
@[simp] theorem abT (n:Nat):(n+1+1+1=n)=False:=by simp;omega
@[simp] theorem abU (n:Nat):(n+1+1≤n)=False:=by simp;omega
@[simp] theorem adk (n:Nat):(n≤n+1+1)=True:=by simp;omega
@[simp] theorem adl (n:Nat):(n≤n+1+1+1)=True:=by simp;omega
def cv (nm:Nm)(es:Nat)(rows:List (List PV)):GV:=if rows=[]then .aS else .aW nm es rows.length 0 rows.length
def dS (key es:Nat)(rows:List (List PV))(fr:Fr):Fr:=if rows=[]then fr else fr.ins key (.arr es rows 0 false)
theorem dZ {nm:Nm}{es:Nat}:cv nm es []= .aS:=rfl
theorem gW {key es:Nat}{fr:Fr}:dS key es [] fr=fr:=rfl
theorem Fr.wK {q p : Nat} (x y : dM) (h : q ≠ p) : ∀ f : Fr, (f.ins p y).ins q x = (f.ins q x).ins p y
  | [] => by
    simp only [Fr.ins, h, Ne.symm h, if_false]
    split
    · rename_i h1; rw [if_neg (by omega)]
    · rename_i h1; rw [if_pos (by omega)]
  | (k, b) :: r => by
    have hp : ¬ p = q := fun e => h e.symm
    by_cases h1 : p = k
    · subst h1
      by_cases h3 : q < p
      · simp [Fr.ins, h, h3, hp, show ¬ p < q by omega]
      · simp [Fr.ins, h, h3]
    · by_cases h2 : q = k
      · subst h2
        by_cases h3 : p < q
        · simp [Fr.ins, h, h3, hp, show ¬ q < p by omega]
        · simp [Fr.ins, h1, h3]
      · by_cases h3 : p < k
        · by_cases h4 : q < k
          · by_cases h5 : q < p
            · simp [Fr.ins, h, hp, h1, h2, h3, h4, h5, show ¬ p < q by omega]
            · simp [Fr.ins, h, hp, h1, h2, h3, h4, h5, show p < q by omega]
          · simp [Fr.ins, h, hp, h1, h2, h3, h4, show ¬ q < p by omega]
        · by_cases h4 : q < k
          · simp [Fr.ins, h, hp, h1, h2, h3, h4, show ¬ p < q by omega]
          · simp [Fr.ins, h1, h2, h3, h4, Fr.wK x y h r]
section
variable {key es:Nat} {rows:List (List PV)} {fr:Fr} {H:aj} {nm:Nm}
@[simp] theorem bu {k:Nat}(h:k≠key):(dS key es rows fr).get k=fr.get k:=by
 unfold dS;split
 ·rfl
 ·exact Fr.ax _ h _
@[simp] theorem pB {k:Nat}{b:dM}(h:k≠key):(dS key es rows fr).ins k b=dS key es rows (fr.ins k b):=by
 unfold dS;split
 ·rfl
 ·exact Fr.wK _ _ h _
theorem cw (h:rows≠[]):(dS key es rows fr).get key=some (.arr es rows 0 false):=by
 unfold dS;rw [if_neg h];exact Fr.bp _ _ _
@[simp] theorem VY:bQ (cv nm es rows)=some [cv nm es rows]:=by
 unfold cv;split<;>rfl
@[simp] theorem KF {l0:Nat}(h:nm.1≤l0):ez H l0 (cv nm es rows)=(cv nm es rows,H):=by
 unfold cv;split
 ·rfl
 ·simp [h]
@[simp] theorem abV {e:TypeId}:Jc (some (.slice e)) H (cv nm es rows)=some (rows.length:Int):=by
 unfold cv;split
 ·rename_i h;subst h;rfl
 ·rfl
@[simp] theorem Sa {r:List GV}:bG (cv nm es rows::r)=none:=by
 unfold cv;split<;>rfl
@[simp] theorem Jd {l0:Nat}(h:nm.1≤l0):clean H l0 (cv nm es rows)=cv nm es rows:=by
 unfold cv;split
 ·rfl
 ·simp [h]
theorem pP {l bytes:Nat}{r:List PV}{H':aj}(hg:rows=[]→H'.get (l,key)=none)(hg2:rows≠[]→H'.get (l,key)=some (.arr es rows 0 false))(hl:l<H'.length)(hb:(rows.length+1)*bytes≤1099511627776):
  vo l key (cv (l,key) es rows) es bytes [r] H'=some (cv (l,key) es (rows++[r]),H'.set (l,key) (.arr es (rows++[r]) 0 false)):=by
 unfold cv;by_cases h:rows=[]
 ·subst h;have h1:=hg rfl;have h2: ¬H'.length≤l:=(by omega);have h3:bytes≤1099511627776:=(by simpa using hb);simp [h1,h2,h3]
 ·have h1:=hg2 h;simp [h,h1,hb]
@[simp] theorem vn {l bytes:Nat}{r:List PV}{f0:Fr}(hl:H.length=l)(hf:fr.get key=none)(hb:(rows.length+1)*bytes≤1099511627776):
  vo l key (cv (l,key) es rows) es bytes [r] (f0::dS key es rows fr::H)=some (cv (l,key) es (rows++[r]),f0::dS key es (rows++[r]) fr::H):=by
 subst hl;rw [pP (fun h=>by subst h;simp [dS,hf]) (fun h=>by simp [cw h]) (by simp;omega) hb];simp [dS];split
 ·rfl
 ·rw [Fr.iB]
theorem VZ {l l0:Nat}(hl:H.length=l)(h:l0<l):canon (clean (dS key es rows fr::H) l0 (cv (l,key) es rows))= .pure (.slice rows):=by
 subst hl;unfold cv;by_cases hr:rows=[]
 ·subst hr;simp
 ·have: ¬H.length≤l0:=(by omega);simp [hr,this,cw hr]
theorem dp {l l0:Nat}{F:Fr}(hl:H.length=l)(h:l0<l)(hF:rows≠[]→F.get key=some (.arr es rows 0 false)):cL (F::H) l0 (cv (l,key) es rows)=if rows=[]then .aS else .pure (.slice rows):=by
 subst hl;unfold cv;by_cases hr:rows=[]
 ·subst hr;simp
 ·have: ¬H.length≤l0:=(by omega);simp [hr,this,hF hr]
@[simp] theorem adm {i:Nat}(h:i<rows.length):ZD (some (some es)) (cv nm es rows) (i:Int)=some (.eJ nm es rows.length i 0):=by
 unfold cv;have hr:rows≠[]:=fun e=>(by subst e;simp at h);simp [hr,h]
end
end
section
structure aQ where
 role:Int
 cell:Int
 deriving DecidableEq
structure aV where
 cell:Int
 state:Int
 home:Int
 want:Int
 vC:Bool
 deriving DecidableEq
structure ak where
 aR:Int
 aO:Int
 kind:Int
 hand:Int
 a9:Int
 cell:Int
 other:Int
 cd:Int
 iv:Int
 deriving DecidableEq
structure br where
 cell:Int
 state:Int
 deriving DecidableEq
structure aF where
 l:Int
 r:Int
 deriving DecidableEq
structure aH where
 wide:Int
 deep:Int
 ah:List aQ
 ae:List aV
 seen:List Int
 aY:List Int
 ai:List ak
 deriving DecidableEq
structure ay where
 ah:List Int
 ao:List aF
 ae:List br
 deriving DecidableEq
def aQ.row (p:aQ):List PV:=[.int .i64 p.role, .int .i64 p.cell]
def aV.row (t:aV):List PV:=[.int .i64 t.cell, .int .i64 t.state, .int .i64 t.home, .int .i64 t.want, .bool t.vC]
def ak.row (a:ak):List PV:=[.int .i64 a.aR, .int .i64 a.aO, .int .i64 a.kind, .int .i64 a.hand, .int .i64 a.a9, .int .i64 a.cell, .int .i64 a.other, .int .i64 a.cd, .int .i64 a.iv]
def br.row (s:br):List PV:=[.int .i64 s.cell, .int .i64 s.state]
def aF.row (h:aF):List PV:=[.int .i64 h.l, .int .i64 h.r]
def aG (n:Int):List PV:=[.int .i64 n]
def aH.row (r:aH):List PV:=[.int .i64 r.wide, .int .i64 r.deep, .slice (r.ah.map aQ.row), .slice (r.ae.map aV.row), .slice (r.seen.map aG), .slice (r.aY.map aG), .slice (r.ai.map ak.row)]
def ay.row (s:ay):List PV:=[.slice (s.ah.map aG), .slice (s.ao.map aF.row), .slice (s.ae.map br.row)]
@[simp] theorem Oq {f:Nat}:KC.IT f=I6.contains f:= .trans rfl rfl
attribute [simp] I6
section
variable {f c:Nat} {H:aj} {args:List GV} {p:PV}
theorem dq (hc:KC.tG f=false) (hb:KC.Aw f=true) (hz:(bm H args).1.map canon=args) (hq:mb args=some none) (hfl:iK p=true) (hH:0<H.length)
  (h0: ∀H:aj,0<H.length→bM KC (aC KC) f args c H=some (.pure p,H)):aI KC (aC KC) f args c H=some (.pure p,H):=gL KC hc hb hz hq hH h0 hfl
end
theorem BN {K:Ctx}{n:Nat}{f:FuncId}{args:List GV}{c:Nat}{H:aj}{r:GV×aj}(h:aI K (dB K n) f args c H=some r):aI K (aC K) f args c H=some r:=by
 obtain⟨N,hN⟩:=tg K (F:=fun _=>aC K) (rec:=dB K n) (fun fn c st r h=>⟨0,fun _ _=>(kV K).2 (nM K n _ _ _ _ h)⟩) h;exact hN N (Nat.le_refl _)
variable {c:Nat} {H:aj}
def cE (x lo hi:Int):Bool:=decide (lo≤x) && decide (x≤hi)
theorem dx {x lo hi:Int}(hH:0<H.length):aI KC (aC KC) 64 [.pure (.int .i64 x), .pure (.int .i64 lo), .pure (.int .i64 hi)] c H=some (.pure (.bool (cE x lo hi)),H):=by
 refine dq rfl rfl rfl rfl rfl hH fun H hH=> ?_;refine aN (aJ KC au Tryz.func64 rfl rfl Vu (by simp) hH ?_);by_cases h:lo≤x
 ·simp [h,cE,aa]
 ·simp [h,cE,aa]
theorem aZ {x lo hi:Int}(hH:0<H.length):aI KC (aC KC) 66 [.pure (.int .i64 x), .pure (.int .i64 lo), .pure (.int .i64 hi)] c H=some (.pure (.bool (cE x lo hi)),H):=by
 refine dq rfl rfl rfl rfl rfl hH fun H hH=> ?_;refine aN (aJ KC au Tryz.func66 rfl rfl Vw (by simp) hH ?_);by_cases h:lo≤x
 ·simp [h,cE,aa]
 ·simp [h,cE,aa]
theorem sk {x lo hi:Int}:cE x lo hi=true↔lo≤x∧x≤hi:=by simp [cE]
theorem GK (fr:Fr)(c:Nat):aI KC (dB KC 4000) 10 [] c [fr,[]]=some (.pure (.bool true),[fr,[]]):=by
 kernel_rfl
theorem mA (fr:Fr)(c:Nat):aI KC (aC KC) 10 [] c [fr,[]]=some (.pure (.bool true),[fr,[]]):=BN (GK fr c)
end
section
variable {c:Nat} {H:aj}
noncomputable def BO:Int→Int:=na fun w=>IntKind.u64.wrap (w+11507291218515648293)
theorem GL (w:Int):BO w=IntKind.u64.wrap (w+11507291218515648293):=by rw [BO,cO]
def DI (x n:Int):Int:=V0 .u64 x (x.fdiv n)
noncomputable def qg:Int→Int:=na fun w=>DI (IntKind.u64.wrap (DI (IntKind.u64.wrap (DI (IntKind.u64.wrap (w+11507291218515648293)) 4294967296*15485907386658061715)) 536870912*14029467366897019727)) 4294967296
theorem yE (w:Int):qg w=DI (IntKind.u64.wrap (DI (IntKind.u64.wrap (DI (IntKind.u64.wrap (w+11507291218515648293)) 4294967296*15485907386658061715)) 536870912*14029467366897019727)) 4294967296:=by rw [qg,cO]
theorem Ot (x:Int):0≤IntKind.u64.wrap x∧IntKind.u64.wrap x≤18446744073709551615:=by rw [IntKind.wrap_u64];omega
theorem GM (w:Int):0≤qg w∧qg w≤18446744073709551615:=by rw [yE];exact Ot _
@[simp] theorem abW:IntKind.u64.bits=64:=rfl
@[simp] theorem abX:IntKind.i64.bits=64:=rfl
theorem ER {nm:Nm}(hB:fW H nm):aI KC (aC KC) 55 [.aD nm 0] c H=some (.pure (.int .u64 (qg (bK H nm))),H.set nm (bL (BO (bK H nm)))):=by
 have hl:=ib hB;have hg:=xV hB;refine aN (bj KC au Tryz.func55 rfl rfl Vq rfl rfl rfl (by simp) (by omega) ?_);have hne: ¬nm.1=H.length:=(by omega);have h1:(IntKind.u64.wrap 32)=32:=rfl;generalize bK H nm=w at*;unfold bL at*;simp [hne,hl,hg,aa,yE,GL,DI]
noncomputable def kZ:Int→Int→Int×Int:=na fun w n=>
 if n<2 then (0,w)else (IntKind.i64.wrap (((qg w).fdiv 2).tmod (IntKind.u64.wrap n)),BO w)
theorem zW (w:Int)(n:Int):kZ w n=
 (if n<2 then (0,w)else (IntKind.i64.wrap (((qg w).fdiv 2).tmod (IntKind.u64.wrap n)),BO w)):=by rw [kZ,cO]
theorem jT (w n:Int)(h:n≤9223372036854775807):0≤(kZ w n).1∧((kZ w n).1<n∨(kZ w n).1=0):=by
 rw [zW];split
 ·simp
 ·have h1:=GM w;have h2:IntKind.u64.wrap n=n:=(by rw [IntKind.wrap_u64];omega);have h3:0≤(qg w).fdiv 2:=Int.fdiv_nonneg h1.1 (by omega);rw [h2,Int.tmod_eq_emod_of_nonneg h3];have h4:=Int.emod_nonneg ((qg w).fdiv 2) (show n≠0 by omega)
  have h5:=Int.emod_lt_of_pos ((qg w).fdiv 2) (show 0<n by omega)
  rw [cu (by omega) (by omega)];exact⟨h4, .inl h5⟩
theorem j3 {nm:Nm}{n:Int}(hB:fW H nm)(hn:n≤9223372036854775807):aI KC (aC KC) 24 [.aD nm 0, .pure (.int .i64 n)] c H=some (.pure (.int .i64 (kZ (bK H nm) n).1),H.set nm (bL (kZ (bK H nm) n).2)):=by
 have hl:=ib hB;have hs:=kO hB;refine aN (bj KC au Tryz.func24 rfl rfl Vf rfl rfl rfl (by simp) (by omega) ?_);have hne: ¬nm.1=H.length:=(by omega);by_cases h:n<2
 ·simp [h,zW,hs,aa]
 ·have h2:IntKind.u64.wrap n=n:=(by rw [IntKind.wrap_u64];omega);have h3: ¬n=0:=(by omega);have h4: ¬IntKind.u64.wrap n=0:=(by rw [h2];exact h3);simp [h,zW,ER (eC hB),dK hl,aj.eH hl,aa,h4]
noncomputable def vy:Int→Int→Int→Int×Int:=na fun w lo hi=>
 let r:=kZ w (IntKind.i64.wrap (IntKind.i64.wrap (hi-lo)+1))
 (IntKind.i64.wrap (lo+r.1),r.2)
theorem BP (w:Int)(lo:Int)(hi:Int):vy w lo hi=
 (let r:=kZ w (IntKind.i64.wrap (IntKind.i64.wrap (hi-lo)+1))
 (IntKind.i64.wrap (lo+r.1),r.2)):=by rw [vy,cO]
theorem Ou (x:Int): -9223372036854775808≤IntKind.i64.wrap x∧IntKind.i64.wrap x≤9223372036854775807:=by rw [IntKind.wrap_i64];omega
theorem AH (w lo hi:Int)(h0: -4611686018427387903≤lo)(h1:hi≤4611686018427387903)(h:lo≤hi):lo≤(vy w lo hi).1∧(vy w lo hi).1≤hi:=by
 rw [BP];rw [cu (x:=hi-lo) (by omega) (by omega),cu (x:=hi-lo+1) (by omega) (by omega)];have:=jT w (hi-lo+1) (by omega);simp only;rw [cu (by omega) (by omega)];omega
theorem sI {nm:Nm}{lo hi:Int}(hB:fW H nm):aI KC (aC KC) 26 [.aD nm 0, .pure (.int .i64 lo), .pure (.int .i64 hi)] c H=some (.pure (.int .i64 (vy (bK H nm) lo hi).1),H.set nm (bL (vy (bK H nm) lo hi).2)):=by
 have hl:=ib hB;refine aN (bj KC au Tryz.func26 rfl rfl Vh rfl rfl rfl (by simp) (by omega) ?_);have hr:=(Ou (IntKind.i64.wrap (hi-lo)+1)).2;simp [BP,j3 (eC hB) hr,dK hl,aj.eH hl,aa]
noncomputable def AI:Int→Int→Bool×Int:=na fun w n=>
 ((kZ w n).1==0,(kZ w n).2)
theorem Je (w:Int)(n:Int):AI w n=
 (((kZ w n).1==0,(kZ w n).2)):=by rw [AI,cO]
theorem qq {nm:Nm}{n:Int}(hB:fW H nm)(hn:n≤9223372036854775807):aI KC (aC KC) 52 [.aD nm 0, .pure (.int .i64 n)] c H=some (.pure (.bool (AI (bK H nm) n).1),H.set nm (bL (AI (bK H nm) n).2)):=by
 have hl:=ib hB;refine aN (bj KC au Tryz.func52 rfl rfl Vn rfl rfl rfl (by simp) (by omega) ?_);simp [Je,j3 (eC hB) hn,dK hl,aj.eH hl,aa]
noncomputable def yF:Int→List Int→Int×Int:=na fun w l=>
 if l.length=0 then (0,w)else (l.getD (kZ w l.length).1.toNat 0,(kZ w l.length).2)
theorem tj (w:Int)(l:List Int):yF w l=
 (if l.length=0 then (0,w)else (l.getD (kZ w l.length).1.toNat 0,(kZ w l.length).2)):=by rw [yF,cO]
theorem ES {nm:Nm}{l:List Int}(hB:fW H nm)(hn:l.length<4611686018427387904):aI KC (aC KC) 54 [.aD nm 0, .pure (.slice (l.map aG))] c H=some (.pure (.int .i64 (yF (bK H nm) l).1),H.set nm (bL (yF (bK H nm) l).2)):=by
 have hl:=ib hB;have hs:=kO hB;refine aN (bj KC au Tryz.func54 rfl rfl Vp rfl rfl rfl (by simp) (by omega) ?_);by_cases h:l.length=0
 ·obtain rfl:l=[]:=List.length_eq_zero_iff.1 h;simp [tj,hs,aa]
 ·have h2:((l.length:Int)==0)=false:=beq_eq_false_iff_ne.2 (by omega);have hr:=jT (bK H nm) l.length (by omega);have h3: ¬(kZ (bK H nm) l.length).1<0:=(by omega);have h4:(kZ (bK H nm) l.length).1.toNat<l.length:=(by have:=hr;clear hl hs hB;omega);simp [h,h2,tj,j3 (eC hB) (show (l.length:Int)≤9223372036854775807 by omega),dK hl,aj.eH hl,aa,h3,h4,aG]
theorem bO {K:Ctx}{f:Nat}{c:Nat}{r:GV}{fr:Fr}(h:K.IT f=true):fX K f c r (fr::H)=(match cA (ry c fr H (dedup (b8 fr H.length (refs H.length r))) (H.length-1)) fr H c (dedup (b8 fr H.length (refs H.length r))) H with|some H'=>some (sK H.length c r,H')|none=>none):=by
 unfold fX;simp only [h,if_true];rfl
theorem Jf (l:List Int)(hn:l.length≤9223372036854775807)(Q:GX→bP→Prop)(hH:0<H.length): ∀(k i:Nat) (w:Int),i+k=l.length→
  (∀w',Q (.exit 0) ⟨[(3, .aD (H.length,6) 0)],[(6,bL w')]::H,30⟩)→
  fL KC au 12 (lp Tryz.f12 0) [0,3,4] [3] Q [(0, .pure (.slice (l.map aG))),(3, .aD (H.length,6) 0),(4, .pure (.int .i64 i))] ([(6,bL w)]::H) 30:=by
 intro k
 induction k with
 |zero=>
  intro i w hi h1;have hia: ¬i<l.length:=(by omega);apply aw;conv=>arg 4;whnf
  simp [hia,hH];exact h1 w
 |succ k ih=>
  intro i w hi h1;have hia:i<l.length:=(by omega);have hw:=cu (x:=(i:Int)+1) (by omega) (by omega);have ih':=fun w=>ih (i+1) w (by omega) h1;apply aw;conv=>arg 4;whnf
  have T:=fun(v:Int) (c:Nat)=>ER (c:=c) (H:=[]::[(6,bL v)]::H) (nm:=(H.length,6)) ⟨v,by simp,by simp⟩;simp [bK,bL]at T;simp [hia,hH,aG,hw,bL,T];simpa [bL]using ih' _
theorem H5 (l:List Int)(hn:l.length≤9223372036854775807)(hH:0<H.length)(hfree:H.get (H.length-1,aq c 6)=none):
  ∃w,aI KC (aC KC) 12 [.pure (.slice (l.map aG))] c H=some (.aD (H.length-1,aq c 6) 0,H.set (H.length-1,aq c 6) (bL w)):=by
 have key:ku (aI KC (aC KC) 12 [.pure (.slice (l.map aG))] c H) (fun x=> ∃w,x=(.aD (H.length-1,aq c 6) 0,H.set (H.length-1,aq c 6) (bL w))):=by
  refine bj KC au Tryz.func12 rfl rfl Vc rfl rfl rfl (by simp) hH ?_;have h0:=fun Q hq=>Jf l hn Q hH l.length 0 2685821657736338717 (by omega) hq;simp [bL]at h0;simp;refine h0 _ (fun w=> ?_);simp [bO,Oq,refs,dE,cV,b8,dc,df,dedup,cA,bV,ry,hfree,sK,jj,gJ];exact⟨w,rfl⟩
 obtain⟨r,e1,w,e2⟩:=key;exact⟨w,by rw [e1,e2]⟩
end
section
variable {c:Nat} {H:aj}
@[simp] theorem aep:IntKind.i64.wrap 1=1:=rfl
@[simp] theorem aeq:IntKind.i64.wrap 0=0:=rfl
noncomputable def b9:Int→Int→Int:=na fun w d=>IntKind.i64.wrap (IntKind.i64.wrap (w*d)-1)
theorem wL (w d:Int):b9 w d=IntKind.i64.wrap (IntKind.i64.wrap (w*d)-1):=by rw [b9,cO]
theorem Jg {w d:Int}{x1 x2 x3 x4 x5:PV}(hH:0<H.length):aI KC (aC KC) 130 [.pure (.agg [.int .i64 w, .int .i64 d,x1,x2,x3,x4,x5])] c H=some (.pure (.int .i64 (IntKind.i64.wrap (w*d))),H):=by
 refine dq rfl rfl rfl rfl rfl hH fun H hH=> ?_;refine aN (aJ KC au Tryz.func130 rfl rfl On (by simp) hH ?_);simp [aa]
theorem gq {w d n:Int}{x1 x2 x3 x4 x5:PV}(hH:0<H.length):aI KC (aC KC) 112 [.pure (.agg [.int .i64 w, .int .i64 d,x1,x2,x3,x4,x5]), .pure (.int .i64 n)] c H=some (.pure (.bool (cE n 0 (b9 w d))),H):=by
 refine dq rfl rfl rfl rfl rfl hH fun H hH=> ?_;refine aN (aJ KC au Tryz.func112 rfl rfl Oc (by simp) hH ?_);simp [aa,Jg,dx,wL]
theorem gZ {w d n:Int}{x1 x2 x3 x4 x5:PV}(hH:0<H.length):aI KC (aC KC) 113 [.pure (.agg [.int .i64 w, .int .i64 d,x1,x2,x3,x4,x5]), .pure (.int .i64 n)] c H=some (.pure (.bool (cE n 0 (b9 w d))),H):=by
 refine dq rfl rfl rfl rfl rfl hH fun H hH=> ?_;refine aN (aJ KC au Tryz.func113 rfl rfl Od (by simp) hH ?_);simp [aa,aZ,wL]
def bC (g:Nat→Int):Nat→Nat→Int
 |0,_=>0
 |k+1,i=>if g i≠0 then g i else bC g k (i+1)
noncomputable def kh:(Int→Bool)→Int→List Int→Nat→Int:=na fun p e l i=>if p (l.getD i 0)=false then e else if 0<i∧l.getD i 0≤l.getD (i-1) 0 then 11 else 0
theorem sm (p:Int→Bool)(e:Int)(l:List Int)(i:Nat):kh p e l i=if p (l.getD i 0)=false then e else if 0<i∧l.getD i 0≤l.getD (i-1) 0 then 11 else 0:=by rw [kh,cO]
theorem Jh (l:List Int) (hn:l.length≤4611686018427387904) (p:Int→Bool) (e:Int) (he0:e≠0) (g:GV) (hg: ∀(x:Int) (c:Nat) (fr:Fr),ff KC (aC KC) g [.pure (.int .i64 x)] c (fr::H)=some (.pure (.bool (p x)),fr::H))
  (hcl: ∀fr,clean (fr::H) (H.length-1) g=g) (Q:GX→bP→Prop) (hH:0<H.length): ∀k i:Nat,i+k=l.length→
  (bC (kh p e l) k i=0→Q (.exit 0) ⟨[(6,aP)],H,35⟩)→(bC (kh p e l) k i≠0→Q .ret ⟨[(6, .pure (.int .i64 (bC (kh p e l) k i)))],H,35⟩)→
  fL KC au 123 (lp Tryz.f123 0) [0,1,2,9,10,11] [6] Q [(0, .pure (.slice (l.map aG))),(1,g),(2, .pure (.int .i64 e)),(9, .pure (.slice (l.map aG))),(10, .pure (.int .i64 l.length)),(11, .pure (.int .i64 i))] H 35:=by
 intro k
 induction k with
 |zero=>
  intro i hi h1 h2;apply aw;conv=>arg 4;whnf
  have: ¬i<l.length:=(by omega);simp [this,hH];exact h1 rfl
 |succ k ih=>
  intro i hi h1 h2;have hia:i<l.length:=(by omega);have hw:=cu (x:=(i:Int)+1) (by omega) (by omega);have hw2:=cu (x:=(i:Int)-1) (by omega) (by omega);have ih':=ih (i+1) (by omega);unfold bC at h1 h2;have hf:=sm p e l i;have hgi:l.getD i 0=l[i]:=(by simp [List.getD_eq_getElem?_getD,hia]);rw [hgi]at hf;apply aw;conv=>arg 4;whnf
  by_cases hp:p l[i]=true
  ·by_cases h0:0<i
   ·have h0':(0:Int)<i:=(by omega);have hi1:i-1<l.length:=(by omega);have hgi1:l.getD (i-1) 0=l[i-1]:=(by simp [List.getD_eq_getElem?_getD,hi1]);have hnn: ¬(i:Int)-1<0:=(by omega);have htn:((i:Int)-1).toNat=i-1:=(by omega);rw [hgi1]at hf;by_cases hle:l[i]≤l[i-1]
    ·simp [hp,h0,hle]at hf;simp [hf]at h1 h2;simp [hia,hH,aG,hg,hp,hw,hw2,h0,h0',hnn,htn,hi1,hle];exact h2
    ·simp [hp,h0,hle]at hf;simp [hf]at h1 h2;simp [hia,hH,aG,hg,hp,hw,hw2,h0,h0',hnn,htn,hi1,hle,hcl];simpa [aG]using ih' h1 h2
   ·have h00:i=0:=(by omega);simp [hp,h0]at hf;simp [hf]at h1 h2;subst h00;simp [hia,hH,aG,hg,hp,hw,hcl];simpa [aG]using ih' h1 h2
  ·have hp':p l[i]=false:=(by simpa using hp);simp [hp']at hf;simp [hf,he0]at h1 h2;simp [hia,hH,aG,hg,hp'];exact h2
theorem Ji (l:List Int) (hn:l.length≤4611686018427387904) (p:Int→Bool) (e:Int) (he0:e≠0) (g:GV) (hcan:canon g=g) (hfz: ∀H,dt H g=(g,H)) (hg: ∀(x:Int) (c:Nat) (f0 fr:Fr),ff KC (aC KC) g [.pure (.int .i64 x)] c (f0::fr::H)=some (.pure (.bool (p x)),f0::fr::H))
  (hcl: ∀f0 fr,clean (f0::fr::H) (H.length) g=g) (hH:0<H.length):
  aI KC (aC KC) 123 [.pure (.slice (l.map aG)),g, .pure (.int .i64 e)] c H=some (.pure (.int .i64 (bC (kh p e l) l.length 0)),H):=by
 refine aN (bj KC au Tryz.func123 rfl rfl Oi (by simp [bm,hfz]) rfl rfl (by simp) hH ?_);simp [hcan];refine Jh (H:=[]::H) l hn p e he0 g (fun x c fr=>hg x c fr []) (fun fr=>by simpa using hcl fr []) _ (by simp) l.length 0 (by omega) (fun h=> ?_) (fun h=> ?_)
 ·simp [h,aa]
 ·simp [aa]
theorem Jj {w d x:Int}{x1 x2 x3 x4 x5:PV}{nm:Nm}(hg:H.get nm=some (.box [.pure (.int .i64 w), .pure (.int .i64 d), .pure x1, .pure x2, .pure x3, .pure x4, .pure x5])):
  aI KC (aC KC) 124 [.pure (.int .i64 x), .aD nm 0] c H=some (.pure (.bool (cE x 0 (b9 w d))),H):=by
 have hl:nm.1<H.length:=aj.bS hg;have hne: ¬nm.1=H.length:=(by omega);refine aN (bj KC au Tryz.func124 rfl rfl Oj rfl rfl rfl (by simp) (by omega) ?_);simp [aa,gq,hg,hne]
theorem Jk {x:Int}(hH:0<H.length):
  aI KC (aC KC) 125 [.pure (.int .i64 x)] c H=some (.pure (.bool (cE x 1 3)),H):=by
 refine aN (bj KC au Tryz.func125 rfl rfl Ok rfl rfl rfl (by simp) hH ?_);simp [aa,dx]
def da (ps:List aQ)(i:Nat)(x:Int):Bool:=(ps.take i).any fun q=>q.cell==x
noncomputable def hJ:Int→List aQ→Nat→Int:=na fun t ps i=>
 if cE (ps.getD i ⟨0,0⟩).role 1 3=false then 4 else if cE (ps.getD i ⟨0,0⟩).cell 0 t=false then 7 else if da ps i (ps.getD i ⟨0,0⟩).cell=true then 12 else 0
theorem o7 (t:Int)(ps:List aQ)(i:Nat):hJ t ps i=
 if cE (ps.getD i ⟨0,0⟩).role 1 3=false then 4 else if cE (ps.getD i ⟨0,0⟩).cell 0 t=false then 7 else if da ps i (ps.getD i ⟨0,0⟩).cell=true then 12 else 0:=by rw [hJ,cO]
noncomputable def iH:Int→List aV→Nat→Int:=na fun t ts i=>
 if cE (ts.getD i ⟨0,0,0,0,false⟩).cell 0 t=false∨cE (ts.getD i ⟨0,0,0,0,false⟩).home 0 t=false then 7 else if cE (ts.getD i ⟨0,0,0,0,false⟩).state 0 15=false∨cE (ts.getD i ⟨0,0,0,0,false⟩).want 0 15=false then 2 else 0
theorem qX (t:Int)(ts:List aV)(i:Nat):iH t ts i=
 if cE (ts.getD i ⟨0,0,0,0,false⟩).cell 0 t=false∨cE (ts.getD i ⟨0,0,0,0,false⟩).home 0 t=false then 7 else if cE (ts.getD i ⟨0,0,0,0,false⟩).state 0 15=false∨cE (ts.getD i ⟨0,0,0,0,false⟩).want 0 15=false then 2 else 0:=by rw [iH,cO]
noncomputable def o8:aH→Int:=na fun r=>
 if cE r.wide 1 6=false∨cE r.deep 1 6=false then 2 else if r.ah.length=0 then 6 else if 4<r.ah.length then 8
 else if bC (hJ (b9 r.wide r.deep) r.ah) r.ah.length 0≠0 then bC (hJ (b9 r.wide r.deep) r.ah) r.ah.length 0
 else if 8<r.ae.length then 8
 else if bC (iH (b9 r.wide r.deep) r.ae) r.ae.length 0≠0 then bC (iH (b9 r.wide r.deep) r.ae) r.ae.length 0
 else if bC (kh (fun x=>cE x 0 (b9 r.wide r.deep)) 7 r.seen) r.seen.length 0≠0 then bC (kh (fun x=>cE x 0 (b9 r.wide r.deep)) 7 r.seen) r.seen.length 0
 else bC (kh (fun x=>cE x 1 3) 4 r.aY) r.aY.length 0
theorem tn (r:aH):o8 r=
 if cE r.wide 1 6=false∨cE r.deep 1 6=false then 2 else if r.ah.length=0 then 6 else if 4<r.ah.length then 8
 else if bC (hJ (b9 r.wide r.deep) r.ah) r.ah.length 0≠0 then bC (hJ (b9 r.wide r.deep) r.ah) r.ah.length 0
 else if 8<r.ae.length then 8
 else if bC (iH (b9 r.wide r.deep) r.ae) r.ae.length 0≠0 then bC (iH (b9 r.wide r.deep) r.ae) r.ae.length 0
 else if bC (kh (fun x=>cE x 0 (b9 r.wide r.deep)) 7 r.seen) r.seen.length 0≠0 then bC (kh (fun x=>cE x 0 (b9 r.wide r.deep)) 7 r.seen) r.seen.length 0
 else bC (kh (fun x=>cE x 1 3) 4 r.aY) r.aY.length 0:=by rw [o8,cO]
def aA (r:aH):dM:= .box [.pure (.int .i64 r.wide), .pure (.int .i64 r.deep), .pure (.slice (r.ah.map aQ.row)), .pure (.slice (r.ae.map aV.row)), .pure (.slice (r.seen.map aG)), .pure (.slice (r.aY.map aG)), .pure (.slice (r.ai.map ak.row))]
theorem qh (ps:List aQ)(i:Nat)(h:i<ps.length)(x:Int):da ps (i+1) x=(da ps i x||ps[i].cell==x):=by
 unfold da;rw [List.take_succ_eq_append_getElem h,List.any_append];simp
theorem GN (ps:List aQ)(n:Nat)(hn:n≤ps.length)(hl:ps.length≤4)(p:aQ)(r:aH)(g30 g31 g32:PV)(Q:GX→bP→Prop)(f0:Fr)(hf0:f0=[(4, .box [.pure (.int .i64 p.role), .pure (.int .i64 p.cell)])]):
  ∀k i:Nat,i+k=n→da ps i p.cell=false→
  (da ps n p.cell=false→Q (.exit 4) ⟨[(1, .aD (H.length,1) 0),(2,aP),(30, .pure g30),(31, .pure g31),(32, .pure g32)],f0::[(1,aA r)]::H,106⟩)→
  (da ps n p.cell=true→Q .ret ⟨[(1, .aD (H.length,1) 0),(2, .pure (.int .i64 12)),(30, .pure g30),(31, .pure g31),(32, .pure g32)],f0::[(1,aA r)]::H,106⟩)→
  fL KC au 89 (lp Tryz.f89 1) [1,4,30,31,32,51,52,53] [1,2,30,31,32] Q
   [(1, .aD (H.length,1) 0),(4, .aD (H.length+1,4) 0),(30, .pure g30),(31, .pure g31),(32, .pure g32),(51, .pure (.slice ((ps.take n).map aQ.row))),(52, .pure (.int .i64 n)),(53, .pure (.int .i64 i))] (f0::[(1,aA r)]::H) 106:=by
 subst hf0;intro k
 induction k with
 |zero=>
  intro i hi hs h1 h2;have e:i=n:=(by omega);subst e;apply aw;conv=>arg 4;whnf
  simp [aA];exact h1 hs
 |succ k ih=>
  intro i hi hs h1 h2;have hin:i<n:=(by omega);have hil:i<ps.length:=(by omega);have hw:=cu (x:=(i:Int)+1) (by omega) (by omega);have hs1:=qh ps i hil p.cell;apply aw;conv=>arg 4;whnf
  by_cases he:ps[i].cell=p.cell
  ·have ht:da ps n p.cell=true:=by
    unfold da;rw [List.any_eq_true];exact⟨ps[i],List.mem_take_iff_getElem.2 ⟨i,by omega,rfl⟩,by simp [he]⟩
   simp [hin,hil,hw,aA,aQ.row,he];exact h2 ht
  ·have hs':da ps (i+1) p.cell=false:=(by rw [hs1,hs];simpa using he);have he':(ps[i].cell==p.cell)=false:=(by simpa using he);simp [hin,hil,hw,aA,aQ.row,he'];simpa [aA]using ih (i+1) (by omega) hs' h1 h2
end
section
variable {c:Nat} {H:aj}
theorem BQ (r:aH)(hl:r.ah.length≤4)(Q:GX→bP→Prop): ∀k i:Nat,i+k=r.ah.length→
  (bC (hJ (b9 r.wide r.deep) r.ah) k i=0→Q (.exit 1) ⟨[(1, .aD (H.length,1) 0),(2,aP)],[(1,aA r)]::H,106⟩)→
  (bC (hJ (b9 r.wide r.deep) r.ah) k i≠0→Q .ret ⟨[(1, .aD (H.length,1) 0),(2, .pure (.int .i64 (bC (hJ (b9 r.wide r.deep) r.ah) k i)))],[(1,aA r)]::H,106⟩)→
  fL KC au 89 (lp Tryz.f89 0) [1,30,31,32] [1,2] Q
   [(1, .aD (H.length,1) 0),(30, .pure (.slice (r.ah.map aQ.row))),(31, .pure (.int .i64 r.ah.length)),(32, .pure (.int .i64 i))] ([(1,aA r)]::H) 106:=by
 intro k
 induction k with
 |zero=>
  intro i hi h1 h2;apply aw;conv=>arg 4;whnf
  have: ¬i<r.ah.length:=(by omega);simp [this];exact h1 rfl
 |succ k ih=>
  intro i hi h1 h2;have hia:i<r.ah.length:=(by omega);have hw:=cu (x:=(i:Int)+1) (by omega) (by omega);have ih':=ih (i+1) (by omega);unfold bC at h1 h2;have hf:=o7 (b9 r.wide r.deep) r.ah i;have hgi:r.ah.getD i ⟨0,0⟩=r.ah[i]:=(by simp [List.getD_eq_getElem?_getD,hia]);rw [hgi]at hf;have hmin:min i r.ah.length=i:=(by omega);have hile:i≤r.ah.length:=(by omega);have hnn: ¬(r.ah.length:Int)<i:=(by omega);apply aw;conv=>arg 4;whnf
  by_cases h3:cE r.ah[i].role 1 3=true
  ·by_cases h4:cE r.ah[i].cell 0 (b9 r.wide r.deep)=true
   ·simp [hia,hile,hmin,aQ.row,aA,dx,gq,h3,h4];have L:=fun Q=>GN (H:=H) r.ah i (by omega) hl r.ah[i] r (.slice (r.ah.map aQ.row)) (.int .i64 r.ah.length) (.int .i64 i) Q _ rfl i 0 (by omega) (by simp [da]);simp [aA]at L;refine L _ (fun h5=> ?_) (fun h5=> ?_)
    ·simp [h3,h4,h5]at hf;simp [hf]at h1 h2;simp [hw];simpa [aA]using ih' h1 h2
    ·simp [h3,h4,h5]at hf;simp [hf]at h1 h2;simp;simpa [aA]using h2
   ·have h4':cE r.ah[i].cell 0 (b9 r.wide r.deep)=false:=(by simpa using h4);simp [h3,h4']at hf;simp [hf]at h1 h2;simp [hia,aQ.row,aA,dx,gq,h3,h4'];simpa [aA]using h2
  ·have h3':cE r.ah[i].role 1 3=false:=(by simpa using h3);simp [h3']at hf;simp [hf]at h1 h2;simp [hia,aQ.row,aA,dx,gq,h3'];simpa [aA]using h2
theorem DJ (r:aH)(hl:r.ae.length≤8)(Q:GX→bP→Prop): ∀k i:Nat,i+k=r.ae.length→
  (bC (iH (b9 r.wide r.deep) r.ae) k i=0→Q (.exit 6) ⟨[(1, .aD (H.length,1) 0),(2,aP)],[(1,aA r)]::H,106⟩)→
  (bC (iH (b9 r.wide r.deep) r.ae) k i≠0→Q .ret ⟨[(1, .aD (H.length,1) 0),(2, .pure (.int .i64 (bC (iH (b9 r.wide r.deep) r.ae) k i)))],[(1,aA r)]::H,106⟩)→
  fL KC au 89 (lp Tryz.f89 2) [1,69,70,71] [1,2] Q
   [(1, .aD (H.length,1) 0),(69, .pure (.slice (r.ae.map aV.row))),(70, .pure (.int .i64 r.ae.length)),(71, .pure (.int .i64 i))] ([(1,aA r)]::H) 106:=by
 intro k
 induction k with
 |zero=>
  intro i hi h1 h2;apply aw;conv=>arg 4;whnf
  have: ¬i<r.ae.length:=(by omega);simp [this];exact h1 rfl
 |succ k ih=>
  intro i hi h1 h2;have hia:i<r.ae.length:=(by omega);have hw:=cu (x:=(i:Int)+1) (by omega) (by omega);have ih':=ih (i+1) (by omega);unfold bC at h1 h2;have hf:=qX (b9 r.wide r.deep) r.ae i;have hgi:r.ae.getD i ⟨0,0,0,0,false⟩=r.ae[i]:=(by simp [List.getD_eq_getElem?_getD,hia]);rw [hgi]at hf;apply aw;conv=>arg 4;whnf
  cases h3:cE r.ae[i].cell 0 (b9 r.wide r.deep)with
  |false=>
   simp [h3]at hf;simp [hf]at h1 h2;simp [hia,aV.row,aA,dx,gq,h3];simpa [aA]using h2
  |true=>
   cases h4:cE r.ae[i].home 0 (b9 r.wide r.deep)with
   |false=>
    simp [h3,h4]at hf;simp [hf]at h1 h2;simp [hia,aV.row,aA,dx,gq,h3,h4];simpa [aA]using h2
   |true=>
    cases h5:cE r.ae[i].state 0 15 with
    |false=>
     simp [h3,h4,h5]at hf;simp [hf]at h1 h2;simp [hia,aV.row,aA,dx,gq,h3,h4,h5];simpa [aA]using h2
    |true=>
     cases h6:cE r.ae[i].want 0 15 with
     |false=>
      simp [h3,h4,h5,h6]at hf;simp [hf]at h1 h2;simp [hia,aV.row,aA,dx,gq,h3,h4,h5,h6];simpa [aA]using h2
     |true=>
      simp [h3,h4,h5,h6]at hf;simp [hf]at h1 h2;simp [hia,aV.row,aA,dx,gq,h3,h4,h5,h6,hw];simpa [aA]using ih' h1 h2
theorem cQ (r:aH):r.row=[.int .i64 r.wide, .int .i64 r.deep, .slice (r.ah.map aQ.row), .slice (r.ae.map aV.row), .slice (r.seen.map aG), .slice (r.aY.map aG), .slice (r.ai.map ak.row)]:=rfl
theorem Ov (r:aH){x:Int}{nm:Nm}(hg:H.get nm=some (aA r)):aI KC (aC KC) 124 [.pure (.int .i64 x), .aD nm 0] c H=some (.pure (.bool (cE x 0 (b9 r.wide r.deep))),H):=Jj hg
theorem zX (r:aH)(h1:r.seen.length≤1000000)(h2:r.aY.length≤1000000)(h3:r.ah.length≤1000000)(h4:r.ae.length≤1000000)(hH:0<H.length):
  aI KC (aC KC) 89 [.pure (.agg r.row)] c H=some (.pure (.int .i64 (o8 r)),H):=by
 refine dq rfl rfl rfl rfl rfl hH fun H hH=> ?_;refine aN (aJ KC au Tryz.func89 rfl rfl VN (by simp) hH ?_);have hr:=tn r;rw [cQ]
 cases e1:cE r.wide 1 6 with
 |false=>
  simp [e1]at hr;simp [dx,e1,aa,hr]
 |true=>
 cases e2:cE r.deep 1 6 with
 |false=>
  simp [e1,e2]at hr;simp [dx,e1,e2,aa,hr]
 |true=>
 by_cases e3:r.ah.length=0
 ·have e3':r.ah=[]:=List.length_eq_zero_iff.1 e3;simp [e1,e2,e3,e3']at hr;simp [dx,e1,e2,e3,e3',aa,hr]
 have e3':((r.ah.length:Int)==0)=false:=beq_eq_false_iff_ne.2 (by omega);by_cases e4:4<r.ah.length
 ·have e4':(4:Int)<r.ah.length:=(by omega);simp [e1,e2,e3,e4]at hr;simp [dx,e1,e2,e3,e3',e4,e4',aa,hr]
 have e4': ¬(4:Int)<r.ah.length:=(by omega);simp only [e1,e2,e3,e4,Bool.true_eq_false,or_self,if_false]at hr;simp [dx,e1,e2,e3,e3',e4,e4'];have L:=fun Q=>BQ (H:=H) r (by omega) Q r.ah.length 0 (by omega);simp [aA]at L;refine L _ (fun z1=> ?_) (fun z1=> ?_)
 ·by_cases e5:8<r.ae.length
  ·have e5':(8:Int)<r.ae.length:=(by omega);simp [z1,e5]at hr;simp [e5',e5,aa,hr]
  ·have e5': ¬(8:Int)<r.ae.length:=(by omega);simp only [z1,e5,ne_eq,not_true_eq_false,if_false]at hr;simp [e5',e5];have L2:=fun Q=>DJ (H:=H) r (by omega) Q r.ae.length 0 (by omega);simp [aA]at L2;refine L2 _ (fun z2=> ?_) (fun z2=> ?_)
   ·simp only [z2,ne_eq,not_true_eq_false,if_false]at hr;have A:=fun c=>Ji (c:=c) (H:=[(1,aA r)]::H) r.seen (by omega) (fun x=>cE x 0 (b9 r.wide r.deep)) 7 (by decide) (.func 124 [] [.aD (H.length,1) 0]) rfl (fun _=>rfl) (fun x c f0 fr=>by
     rw [sn];exact Ov r (by simp)) (fun f0 fr=>by simp) (by simp)
    have B:=fun(H:aj) c (hH:0<H.length)=>Ji (c:=c) (H:=H) r.aY (by omega) (fun x=>cE x 1 3) 4 (by decide) (.pure (.fn 125)) rfl (fun _=>rfl) (fun x c f0 fr=>by
     rw [wz];exact Jk (by simp)) (fun f0 fr=>by simp) hH
    simp [aA]at A;by_cases z3:bC (kh (fun x=>cE x 0 (b9 r.wide r.deep)) 7 r.seen) r.seen.length 0=0
    ·simp only [z3,ne_eq,not_true_eq_false,if_false]at hr;simp [A,z3,B,aa,hr]
    ·have z3':(bC (kh (fun x=>cE x 0 (b9 r.wide r.deep)) 7 r.seen) r.seen.length 0 !=0)=true:=(by simpa using z3);simp only [z3,ne_eq,not_false_eq_true,if_true]at hr;simp [A,z3,z3',aa,hr]
   ·simp [z2]at hr;simp [aa,hr]
 ·simp [z1]at hr;simp [aa,hr]
end
section
variable {c:Nat} {H:aj}
def mF (a:ak):Bool:=
 if a.kind=1 then decide (a.hand=0∧a.a9=0∧a.other=0)
 else if a.kind=2 then decide (a.cell=0∧a.other=0)
 else if a.kind=4 then decide (a.a9=0∧a.cell=0)
 else decide (a.a9=0∧a.cell=0∧a.other=0)
noncomputable def dh:Int→Int→Int→ak→Int:=na fun t nt np a=>
 if cE a.kind 1 8=false then 4 else if mF a=false then 3 else if a.kind=1∧cE a.cell 0 t=false then 7 else if cE a.hand 0 1=false then 2
 else if a.kind=2∧cE a.a9 0 (nt-1)=false then 7 else if a.kind=4∧cE a.other 0 (np-1)=false then 7 else if a.kind=4∧a.other=a.aO then 3 else 0
theorem o9 (t nt np:Int)(a:ak):dh t nt np a=
 if cE a.kind 1 8=false then 4 else if mF a=false then 3 else if a.kind=1∧cE a.cell 0 t=false then 7 else if cE a.hand 0 1=false then 2
 else if a.kind=2∧cE a.a9 0 (nt-1)=false then 7 else if a.kind=4∧cE a.other 0 (np-1)=false then 7 else if a.kind=4∧a.other=a.aO then 3 else 0:=by rw [dh,cO]
theorem wM (k:Int):k=1∨k=2∨k=4∨(k=3∨k=5∨k=6∨k=7∨k=8)∨(cE k 1 8=false∧k≠1∧k≠2∧k≠3∧k≠4∧k≠5∧k≠6∧k≠7∧k≠8):=by
 by_cases h:1≤k∧k≤8
 ·omega
 ·refine .inr (.inr (.inr (.inr ⟨?_,by omega,by omega,by omega,by omega,by omega,by omega,by omega,by omega⟩)));simp [cE];omega
theorem pe {r:aH}{q1 q2 kind hand a9 cell other q3 q4:Int}(h1:r.ah.length≤1000000)(h2:r.ae.length≤1000000)(hH:0<H.length):
  aI KC (aC KC) 73 [.pure (.agg r.row), .pure (.agg [.int .i64 q1, .int .i64 q2, .int .i64 kind, .int .i64 hand, .int .i64 a9, .int .i64 cell, .int .i64 other, .int .i64 q3, .int .i64 q4])] c H=
   some (.pure (.int .i64 (dh (b9 r.wide r.deep) r.ae.length r.ah.length ⟨q1,q2,kind,hand,a9,cell,other,q3,q4⟩)),H):=by
 refine dq rfl rfl rfl rfl rfl hH fun H hH=> ?_;refine aN (aJ KC au Tryz.func73 rfl rfl VC (by simp) hH ?_);have hr:=o9 (b9 r.wide r.deep) r.ae.length r.ah.length ⟨q1,q2,kind,hand,a9,cell,other,q3,q4⟩;simp only [mF]at hr;rw [cQ];have w1:=cu (x:=(r.ah.length:Int)-1) (by omega) (by omega);have w2:=cu (x:=(r.ae.length:Int)-1) (by omega) (by omega);have i0:cE 0 0 1=true:=rfl;rcases wM kind with rfl|rfl|rfl|hk|⟨hk,n1,n2,n3,n4,n5,n6,n7,n8⟩
 ·have i1:cE 1 1 8=true:=rfl;by_cases a1:hand=0
  ·by_cases a2:a9=0
   ·by_cases a3:other=0
    ·subst a1;subst a2;subst a3
     cases a4:cE cell 0 (b9 r.wide r.deep)with
     |false=>
      simp [a4,i1,i0]at hr;simp [dx,gq,a4,aa,hr]
     |true=>
      simp [a4,i1,i0]at hr;simp [dx,gq,a4,i0,aa,hr]
    ·have a3':(other==0)=false:=(by simpa using a3);subst a1;subst a2;simp [a3,i1]at hr;simp [a3',bne,aa,hr]
   ·have a2':(a9==0)=false:=(by simpa using a2);subst a1;simp [a2,i1]at hr;simp [a2',bne,aa,hr]
  ·have a1':(hand==0)=false:=(by simpa using a1);simp [a1,i1]at hr;simp [a1',bne,aa,hr]
 ·have i1:cE 2 1 8=true:=rfl;by_cases a1:cell=0
  ·by_cases a2:other=0
   ·subst a1;subst a2
    cases a3:cE hand 0 1 with
    |false=>
     simp [a3,i1]at hr;simp [dx,a3,aa,hr]
    |true=>
     cases a4:cE a9 0 ((r.ae.length:Int)-1)with
     |false=>
      simp [a3,a4,i1]at hr;simp [dx,a3,a4,w2,aa,hr]
     |true=>
      simp [a3,a4,i1]at hr;simp [dx,a3,a4,w2,aa,hr]
   ·have a2':(other==0)=false:=(by simpa using a2);subst a1;simp [a2,i1]at hr;simp [a2',bne,aa,hr]
  ·have a1':(cell==0)=false:=(by simpa using a1);simp [a1,i1]at hr;simp [a1',bne,aa,hr]
 ·have i1:cE 4 1 8=true:=rfl;by_cases a1:a9=0
  ·by_cases a2:cell=0
   ·subst a1;subst a2
    cases a3:cE hand 0 1 with
    |false=>
     simp [a3,i1]at hr;simp [dx,a3,aa,hr]
    |true=>
     cases a4:cE other 0 ((r.ah.length:Int)-1)with
     |false=>
      simp [a3,a4,i1]at hr;simp [dx,a3,a4,w1,aa,hr]
     |true=>
      by_cases a5:other=q2
      ·subst a5;simp [a3,a4,i1]at hr;simp [dx,a3,a4,w1,aa,hr]
      ·have a5':(other==q2)=false:=(by simpa using a5);simp [a3,a4,a5,i1]at hr;simp [dx,a3,a4,a5',w1,aa,hr]
   ·have a2':(cell==0)=false:=(by simpa using a2);subst a1;simp [a2,i1]at hr;simp [a2',bne,aa,hr]
  ·have a1':(a9==0)=false:=(by simpa using a1);simp [a1,i1]at hr;simp [a1',bne,aa,hr]
 ·have i1:cE kind 1 8=true:=(by simp [cE];omega);have m1:kind≠1:=(by omega);have m2:kind≠2:=(by omega);have m4:kind≠4:=(by omega);by_cases a1:a9=0
  ·by_cases a2:cell=0
   ·by_cases a3:other=0
    ·subst a1;subst a2;subst a3
     cases a4:cE hand 0 1 with
     |false=>
      simp [a4,i1,m1,m2,m4]at hr;rcases hk with rfl|rfl|rfl|rfl|rfl<;>simp [dx,a4,aa,hr]
     |true=>
      simp [a4,i1,m1,m2,m4]at hr;rcases hk with rfl|rfl|rfl|rfl|rfl<;>simp [dx,a4,aa,hr]
    ·have a3':(other==0)=false:=(by simpa using a3);subst a1;subst a2;simp [a3,i1,m1,m2,m4]at hr;rcases hk with rfl|rfl|rfl|rfl|rfl<;>simp [a3',bne,aa,hr]
   ·have a2':(cell==0)=false:=(by simpa using a2);subst a1;simp [a2,i1,m1,m2,m4]at hr;rcases hk with rfl|rfl|rfl|rfl|rfl<;>simp [a2',bne,aa,hr]
  ·have a1':(a9==0)=false:=(by simpa using a1);simp [a1,i1,m1,m2,m4]at hr;rcases hk with rfl|rfl|rfl|rfl|rfl<;>simp [a1',bne,aa,hr]
 ·have e1:(kind==1)=false:=(by simpa using n1);have e2:(kind==2)=false:=(by simpa using n2);have e3:(kind==3)=false:=(by simpa using n3);have e4:(kind==4)=false:=(by simpa using n4);have e5:(kind==5)=false:=(by simpa using n5);have e6:(kind==6)=false:=(by simpa using n6);have e7:(kind==7)=false:=(by simpa using n7);have e8:(kind==8)=false:=(by simpa using n8);simp [hk]at hr;simp [e1,e2,e3,e4,e5,e6,e7,e8,aa,hr]
end
end Go.Gh
