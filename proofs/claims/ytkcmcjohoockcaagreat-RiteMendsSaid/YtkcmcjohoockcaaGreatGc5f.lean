/- Texts joined: the evaluator over ghost values, its soundness, the walks. Spaces struck and names made short by a program, for the size. -/
import Derived.Test.YtkcmcjohoockcaaGreatGc5e
import Derived.Test.YtkcmcjohoockcaaGreatProg
import Derived.KernelRfl
import Derived.IntWalk
namespace Go.Gh
open Go.Proofs
set_option linter.unusedVariables false
set_option linter.unusedSimpArgs false
set_option linter.unnecessarySimpa false
set_option maxRecDepth 100000
set_option maxHeartbeats 8000000
section
section
variable {K:Ctx} {fn:FuncId} {rec:Rec} {dst:Option Tmp} {ty:TypeId} {pos:String} {af:Array Edge} {gu:Option (Nat×Bool)} {s:bd} {H:aj}
def vh (P:Program)(t:TypeId):Option (Option Nat×Option Nat×Option Nat):=(dY P t).map fun e=>(bD P e,lq P e,uu P e)
def apV (lv:Option Nat)(k:Nat→Option (GV×aj)):Option (GV×aj):=match lv with|some l=>k l|none=>none
@[congr] theorem afj {lv lv':Option Nat}{k:Nat→Option (GV×aj)}(h: ∀_:Unit,lv=lv'):apV lv k=apV lv' k:=by rw [h ()]
@[simp] theorem abA {l:Nat}{k:Nat→Option (GV×aj)}:apV (some l) k=k l:= .trans rfl rfl
def Gu (ta:Option (Option Nat×Option Nat×Option Nat))(xs:Option (List (List PV)×aj))(k:Nat→Nat→List (List PV)→aj→Option (GV×aj)):Option (GV×aj):=
 match ta,xs with
 |some (some size,some bytes,zs),some (xs,H)=>
  if zs=some size∧(xs.all fun r=>r.length==size)=true∧0<size∧0<bytes∧bytes≤1048576 then k size bytes xs H else none
 |_,_=>none
@[congr] theorem aem {ta ta':Option (Option Nat×Option Nat×Option Nat)}{xs xs':Option (List (List PV)×aj)}{k:Nat→Nat→List (List PV)→aj→Option (GV×aj)}(h: ∀_:Unit,ta=ta')(h': ∀_:Unit,xs=xs'):Gu ta xs k=Gu ta' xs' k:=by rw [h (),h' ()]
@[simp] theorem YD {size bytes:Nat}{zs:Option Nat}{xs:List (List PV)}{k:Nat→Nat→List (List PV)→aj→Option (GV×aj)}:Gu (some (some size,some bytes,zs)) (some (xs,H)) k=
  if zs=some size∧(xs.all fun r=>r.length==size)=true∧0<size∧0<bytes∧bytes≤1048576 then k size bytes xs H else none:= .trans rfl rfl
def xR (l key:Nat)(s:GV)(size bytes:Nat)(xs:List (List PV))(H:aj):Option (GV×aj):=
 match s with
 | .aR=>
  if xs.length*bytes≤1099511627776 then (if xs.isEmpty then some (.aR,H)else rn (kB H l key (.arr size xs 0 false)) fun nm=> .aZ nm size xs.length 0 xs.length)else none
 | .aZ nm es top lo len=>
  (match H.get nm with
  |some (.arr es' elems vf ro)=>
   if es'=size∧es=size∧top=elems.length∧lo=0∧len=top∧vf≤top∧ro=false∧(len+xs.length)*bytes≤1099511627776 then
    (if xs.isEmpty then some (.aZ nm es top lo len,H)else some (.aZ nm es (top+xs.length) 0 (top+xs.length),H.set nm (.arr es' (elems++xs) vf false)))
   else if es'=size∧es=size∧top=elems.length∧vf≤top∧ro=false∧lo+len+xs.length≤top then
    (if xs.isEmpty then some (.aZ nm es top lo len,H)else some (.aZ nm es top lo (len+xs.length),H.set nm (.arr es' (aI elems (lo+len) xs) top false)))
   else none
  |_=>none)
 |_=>none
@[simp] theorem dc {l key size bytes:Nat}{xs:List (List PV)}:xR l key .aR size bytes xs H=
  if xs.length*bytes≤1099511627776 then (if xs.isEmpty then some (.aR,H)else rn (kB H l key (.arr size xs 0 false)) fun nm=> .aZ nm size xs.length 0 xs.length)else none:= .trans rfl rfl
def apH (H:aj)(nm:Nm)(es top lo len size bytes:Nat)(xs:List (List PV))(b:Option dF):Option (GV×aj):=match b with
  |some (.arr es' elems vf ro)=>
   if es'=size∧es=size∧top=elems.length∧lo=0∧len=top∧vf≤top∧ro=false∧(len+xs.length)*bytes≤1099511627776 then
    (if xs.isEmpty then some (.aZ nm es top lo len,H)else some (.aZ nm es (top+xs.length) 0 (top+xs.length),H.set nm (.arr es' (elems++xs) vf false)))
   else if es'=size∧es=size∧top=elems.length∧vf≤top∧ro=false∧lo+len+xs.length≤top then
    (if xs.isEmpty then some (.aZ nm es top lo len,H)else some (.aZ nm es top lo (len+xs.length),H.set nm (.arr es' (aI elems (lo+len) xs) top false)))
   else none
  |_=>none
@[congr] theorem afk {nm:Nm}{es top lo len size bytes:Nat}{xs:List (List PV)}{b b':Option dF}(h: ∀_:Unit,b=b'):apH H nm es top lo len size bytes xs b=apH H nm es top lo len size bytes xs b':=by rw [h ()]
@[simp] theorem aen {nm:Nm}{es top lo len size bytes:Nat}{xs:List (List PV)}{es' vf:Nat}{elems:List (List PV)}{ro:Bool}:apH H nm es top lo len size bytes xs (some (.arr es' elems vf ro))=
      if es'=size∧es=size∧top=elems.length∧lo=0∧len=top∧vf≤top∧ro=false∧(len+xs.length)*bytes≤1099511627776 then
        (if xs.isEmpty then some (.aZ nm es top lo len,H)else some (.aZ nm es (top+xs.length) 0 (top+xs.length),H.set nm (.arr es' (elems++xs) vf false)))
      else if es'=size∧es=size∧top=elems.length∧vf≤top∧ro=false∧lo+len+xs.length≤top then
        (if xs.isEmpty then some (.aZ nm es top lo len,H)else some (.aZ nm es top lo (len+xs.length),H.set nm (.arr es' (aI elems (lo+len) xs) top false)))
      else none:= .trans rfl rfl
@[simp] theorem aeo {l key size bytes:Nat}{xs:List (List PV)}{nm:Nm}{es top lo len:Nat}:xR l key (.aZ nm es top lo len) size bytes xs H=apH H nm es top lo len size bytes xs (H.get nm):=by
 unfold xR apH;rfl
theorem A9 {l key:Nat}{t:TypeId}{a x:GV}:pY K H l key t a x=Gu (vh K.P t) (hJ H x) (xR l key a):=by
 unfold pY vh
 cases dY K.P t with
 |none=>rfl
 |some e=>
  simp only [Option.map_some]
  cases bD K.P e with
  |none=>rfl
  |some size=>
   cases lq K.P e with
   |none=>rfl
   |some bytes=>
    cases hJ H x with
    |none=>rfl
    |some y=>
     obtain⟨xs,H1⟩:=y;simp only [Gu];by_cases hc:uu K.P e=some size∧(xs.all fun r=>r.length==size)=true∧0<size∧0<bytes∧bytes≤1048576
     ·obtain⟨h1,h2,h3,h4,h5⟩:=hc;simp only [h1,h2,h3,h4,h5,decide_true,Bool.and_self,and_self,if_true];unfold xR
      cases a with
      |aR=>
       simp only;split
       ·split
        ·rfl
        ·cases kB H1 l key (.arr size xs 0 false)<;>rfl
       ·rfl
      |aZ nm es top lo len=>rfl
      |_=>rfl
     ·rw [if_neg hc,if_neg];intro h;simp only [Bool.and_eq_true,decide_eq_true_eq]at h;exact hc ⟨h.1.1.1.1,h.1.1.1.2,h.1.1.2,h.1.2,h.2⟩
def apR (r:Option Nat)(x:Option (GV×aj))(y:Nat→Option (GV×aj)):Option (GV×aj):=match r with|none=>x|some key=>y key
@[simp] theorem abC {x:Option (GV×aj)}{y:Nat→Option (GV×aj)}:apR none x y=x:= .trans rfl rfl
def upX (bn:Option Nm)(k:Nm→Option (GV×aj)):Option (GV×aj):=match bn with|some l=>k l|none=>none
@[congr] theorem afm {lv lv':Option Nm}{k:Nm→Option (GV×aj)}(h: ∀_:Unit,lv=lv'):upX lv k=upX lv' k:=by rw [h ()]
@[simp] theorem abD {l:Nm}{k:Nm→Option (GV×aj)}:upX (some l) k=k l:= .trans rfl rfl
def upN:GV→Option Nm| .aA nm _=>some nm|_=>none
@[simp] theorem abE {nm:Nm}{o:Nat}:upN (.aA nm o)=some nm:= .trans rfl rfl
@[simp] theorem YE {t:Nat}:qB s (.box t)=upN (look s t):=by
 unfold qB upN;rfl
@[simp] theorem T9 {d:Nat}{x y:Operand}{t t2:TypeId}:eN K fn ⟨some d, .call ⟨.builtin .append,#[x,y],#[t,t2]⟩,ty,pos,af,gu⟩ s H=
  if dZ K.P (some t2)=true then apR (K.row fn d) (apV (j6 H s (K.up fn d)) fun l=>Gu (vh K.P t) (hJ H (ev s y)) (xR l d (ev s x))) fun key=>upX (qB s (K.up fn d)) fun bn=>oN K H bn key t (ev s x) (ev s y)else none:=by
 show (if dZ K.P (some t2)=true then (match K.row fn d with|none=>(match j6 H s (K.up fn d)with|some l=>pY K H l d t (ev s x) (ev s y)|none=>none)|some key=>(match qB s (K.up fn d)with|some bn=>oN K H bn key t (ev s x) (ev s y)|none=>none))else none)=_
 split
 ·cases K.row fn d with
  |none=>
   simp only [apR]
   cases j6 H s (K.up fn d)with
   |none=>rfl
   |some l=>exact A9
  |some key=>rfl
 ·rfl
@[simp] theorem IP {n:Nat}:j6 H s (.scopes n)=if H.length≤n then none else some (H.length-1-n):= .trans rfl rfl
def upB:GV→Option Nat| .aA nm _=>some nm.1|_=>none
@[simp] theorem abF {nm:Nm}{o:Nat}:upB (.aA nm o)=some nm.1:= .trans rfl rfl
@[simp] theorem Qr {t:Nat}:j6 H s (.box t)=upB (look s t):=by
 unfold j6 upB;rfl
@[simp] theorem Ua {l key:Nat}{b:dF}:kB H l key b=if H.length≤l then none else if (H.get (l,key)).isSome then none else some ((l,key),H.set (l,key) b):=by
 unfold kB;split
 ·rfl
 ·cases H.get (l,key)<;>simp
@[simp] theorem Qs:hJ H .aR=some ([],H):= .trans rfl rfl
@[simp] theorem Qt {l:List (List PV)}:hJ H (.pure (.slice l))=some (l,H):= .trans rfl rfl
def elH (H:aj)(x:PV):Option (List (List PV)×aj):=match x with| .slice l=>some (l,H)|_=>none
@[simp] theorem YF {l:List (List PV)}:elH H (.slice l)=some (l,H):= .trans rfl rfl
@[simp] theorem Ub {nm:Nm}{es top lo len:Nat}:hJ H (.aZ nm es top lo len)=elH H (slD es top lo len (H.get nm)):=by
 rw [←uv];unfold hJ elH;simp only;generalize j7 H nm es top lo len=q;cases q<;>rfl
@[simp] theorem YG {t:TypeId}{x:Operand}{lo hi mx:Option Operand}:eN K fn ⟨dst, .slice t x lo hi mx,ty,pos,af,gu⟩ s H=rv H (kC K t (ev s x) (lo.map (ev s)) (hi.map (ev s)) (mx.map (ev s))):=by
 simp only [eN,rv];rfl
def slP (es:Option (Option Nat))(a b:Option Nat)(l:List (List PV)):Option GV:=
 match es,a,b with
 |some (some es),some a,some b=>if a≤b∧b≤l.length∧(l.all fun r=>r.length==es)=true then some (.pure (.slice ((l.take b).drop a)))else none
 |_,_,_=>none
@[simp] theorem abH {es a b:Nat}{l:List (List PV)}:slP (some (some es)) (some a) (some b) l=if a≤b∧b≤l.length∧(l.all fun r=>r.length==es)=true then some (.pure (.slice ((l.take b).drop a)))else none:= .trans rfl rfl
@[simp] theorem Qu {t:TypeId}{l:List (List PV)}{lo hi:Option GV}:kC K t (.pure (.slice l)) lo hi none=slP (gd K.P t) (df lo 0) (df hi l.length) l:=by
 unfold kC slP gd;simp only [Option.isSome_none,Bool.false_eq_true,if_false];generalize df lo 0=a;generalize df hi l.length=b;rcases a with _|a<;>rcases b with _|b
 ·cases dY K.P t with
  |none=>rfl
  |some e=>simp only [Option.map_some];cases bD K.P e<;>rfl
 ·cases dY K.P t with
  |none=>rfl
  |some e=>simp only [Option.map_some];cases bD K.P e<;>rfl
 ·cases dY K.P t with
  |none=>rfl
  |some e=>simp only [Option.map_some];cases bD K.P e<;>rfl
 ·cases dY K.P t with
  |none=>rfl
  |some e=>
   simp only [Option.map_some]
   cases bD K.P e with
   |none=>simp
   |some es=>
    simp only;by_cases h:a≤b∧b≤l.length
    ·rw [if_pos h];simp only [h.1,h.2,true_and]
    ·rw [if_neg h,if_neg (fun h'=>h ⟨h'.1,h'.2.1⟩)]
def slH (es:Option (Option Nat))(a b:Option Nat)(nm:Nm)(es' top l0 len:Nat):Option GV:=
 match es,a,b with
 |some es,some a,some b=>if a≤b∧(b≤len∨l0+b≤top)∧es=some es' then (if a=b∧0<a then some (.pure (.slice []))else some (.aZ nm es' top (l0+a) (b-a)))else none
 |_,_,_=>none
@[simp] theorem abI {es:Option Nat}{a b:Nat}{nm:Nm}{es' top l0 len:Nat}:slH (some es) (some a) (some b) nm es' top l0 len=if a≤b∧(b≤len∨l0+b≤top)∧es=some es' then (if a=b∧0<a then some (.pure (.slice []))else some (.aZ nm es' top (l0+a) (b-a)))else none:= .trans rfl rfl
@[simp] theorem Uc {t:TypeId}{nm:Nm}{es top l0 len:Nat}{lo hi:Option GV}:kC K t (.aZ nm es top l0 len) lo hi none=slH (gd K.P t) (df lo 0) (df hi len) nm es top l0 len:=by
 unfold kC slH gd;simp only [Option.isSome_none,Bool.false_eq_true,if_false];generalize df lo 0=a;generalize df hi len=b
 cases dY K.P t with
 |none=>cases a<;>cases b<;>rfl
 |some e=>cases a<;>cases b<;>rfl
def slX (es:Option (Option Nat))(a:Option Nat)(b m:Int)(x:GV):Option GV:=
 match es,a with
 |some (some es'),some a=>
  (match x with
  | .aR=>if a=0∧b=0∧m=0 then some .aR else none
  | .pure (.slice _)=>if a=0∧b=0∧m=0 then some .aR else none
  | .aZ nm es top l0 len=>
   if a=0∧b=0∧m=0 then some .aR
   else if (a:Int)<b∧b≤m∧m=len∧l0+len=top∧es'=es then some (.aZ nm es top (l0+a) (b.toNat-a))else none
  |_=>none)
 |_,_=>none
@[simp] theorem aeq {es' a:Nat}{b m:Int}{nm:Nm}{es top l0 len:Nat}:slX (some (some es')) (some a) b m (.aZ nm es top l0 len)=
  if a=0∧b=0∧m=0 then some .aR
  else if (a:Int)<b∧b≤m∧m=len∧l0+len=top∧es'=es then some (.aZ nm es top (l0+a) (b.toNat-a))else none:= .trans rfl rfl
@[simp] theorem Ud {t:TypeId}{x:GV}{lo:Option GV}{k k':IntKind}{b m:Int}:kC K t x lo (some (.pure (.int k b))) (some (.pure (.int k' m)))=slX (gd K.P t) (df lo 0) b m x:=by
 unfold kC slX gd;simp only [Option.isSome_some,if_true];generalize df lo 0=a
 cases dY K.P t with
 |none=>cases a<;>rfl
 |some e=>
  simp only [Option.map_some]
  cases a with
  |none=>cases bD K.P e<;>rfl
  |some a=>
   simp only
   cases bD K.P e with
   |none=>rfl
   |some es=>
    cases x with
    |pure p=>cases p<;>rfl
    |_=>rfl
def Gv (e:Option Nat)(z:Option (List PV))(H:aj)(x:GV):Option aj:=
 match e,z,x with
 |some size,some ps, .aZ nm es top lo len=>
  (match H.get nm with
  |some (.arr es' elems vf ro)=>if es'=size∧es=size∧ps.length=size∧top=elems.length∧vf≤top∧ro=false∧lo+len≤top∧0<len then some (H.set nm (.arr es' (aI elems lo (List.replicate len ps)) top false))else none
  |_=>none)
 |_,_,_=>none
def IQ (P:Program)(t:TypeId):Option (Option Nat×Option (List PV)):=(dY P t).map fun e=>(bD P e,match cD P e with|some z=>(match bO z with|some zs=>bC (zs.map cJ)|none=>none)|none=>none)
def IS (r:Option (Option Nat×Option (List PV)))(H:aj)(x:GV):Option aj:=match r with|some (e,z)=>Gv e z H x|none=>none
@[simp] theorem YH {e:Option Nat}{z:Option (List PV)}{x:GV}:IS (some (e,z)) H x=Gv e z H x:= .trans rfl rfl
def LJ (H:aj)(size:Nat)(ps:List PV)(nm:Nm)(es top lo len:Nat)(b:Option dF):Option aj:=match b with
  |some (.arr es' elems vf ro)=>if es'=size∧es=size∧ps.length=size∧top=elems.length∧vf≤top∧ro=false∧lo+len≤top∧0<len then some (H.set nm (.arr es' (aI elems lo (List.replicate len ps)) top false))else none
  |_=>none
@[congr] theorem aer {size:Nat}{ps:List PV}{nm:Nm}{es top lo len:Nat}{b b':Option dF}(h: ∀_:Unit,b=b'):LJ H size ps nm es top lo len b=LJ H size ps nm es top lo len b':=by rw [h ()]
@[simp] theorem abJ {size:Nat}{ps:List PV}{nm:Nm}{es top lo len:Nat}{es' vf:Nat}{elems:List (List PV)}{ro:Bool}:LJ H size ps nm es top lo len (some (.arr es' elems vf ro))=
  if es'=size∧es=size∧ps.length=size∧top=elems.length∧vf≤top∧ro=false∧lo+len≤top∧0<len then some (H.set nm (.arr es' (aI elems lo (List.replicate len ps)) top false))else none:= .trans rfl rfl
@[simp] theorem abK {size:Nat}{ps:List PV}{nm:Nm}{es top lo len:Nat}:Gv (some size) (some ps) H (.aZ nm es top lo len)=LJ H size ps nm es top lo len (H.get nm):= .trans rfl rfl
theorem Db {t:TypeId}{x:GV}:tw K t H x=IS (IQ K.P t) H x:=by
 unfold tw IQ
 cases dY K.P t with
 |none=>rfl
 |some e=>
  simp only [Option.map_some,IS]
  cases bD K.P e with
  |none=>rfl
  |some size=>
   cases cD K.P e with
   |none=>cases x<;>rfl
   |some z=>
    cases x with
    |aZ nm es top lo len=>
     simp only
     cases bO z with
     |none=>rfl
     |some zs=>
      simp only
      cases hg:H.get nm with
      |none=>cases bC (zs.map cJ)<;>simp only [Gv,hg]
      |some b=>
       cases b with
       |arr es' elems vf ro=>simp only;cases bC (zs.map cJ)<;>simp only [Gv,hg]
       |_=>cases bC (zs.map cJ)<;>simp only [Gv,hg]
    |_=>
     simp only;generalize (match bO z with|some zs=>bC (zs.map cJ)|none=>none)=ps
     cases ps<;>rfl
@[simp] theorem YI {x:Operand}{t:TypeId}:eN K fn ⟨dst, .call ⟨.builtin .clear,#[x],#[t]⟩,ty,pos,af,gu⟩ s H=(IS (IQ K.P t) H (ev s x)).map fun H=>(GV.pure (.tuple []),H):=by
 show (match tw K t H (ev s x)with|some H=>some (GV.pure (.tuple []),H)|none=>none)=_
 rw [Db];cases IS (IQ K.P t) H (ev s x)<;>rfl
@[simp] theorem Qv {d:Nat}:df none d=some d:= .trans rfl rfl
@[simp] theorem Qw {k:IntKind}{i:Int}{d:Nat}:df (some (.pure (.int k i))) d=if i<0 then none else some i.toNat:= .trans rfl rfl
def vl (P:Program)(t:TypeId):Option (Option Nat×Option (List GV)):=(dY P t).map fun e=>(bD P e,vA (cD P e))
def blR (own:Bool)(d:Nat)(H:aj)(size len:Nat)(cs:List GV)(ps:Option (List PV)):Option (GV×aj):=
 match ps with
 |some ps=>if own then rn (jg H d (.arr size (chunks size len ps) 0 false)) (fun nm=> .aZ nm size len 0 len)else some (.pure (.slice (chunks size len ps)),H)
 |none=>if own then rn (jg (bL H cs).2 d (.arr size (chunks size len (bL H cs).1) 0 false)) (fun nm=> .aZ nm size len 0 len)else some (.lits (chunks size len cs),H)
def blL (own:Bool)(d:Nat)(H:aj)(size len:Nat)(x:Option (List GV)):Option (GV×aj):=match x with
 |some cs=>if len=0 then some (.aR,H)else blR own d H size len cs (bC (cs.map cJ))
 |none=>none
def blV (own:Bool)(d:Nat)(H:aj)(len:Nat)(ps:List (Nat×GV))(tl:Option (Option Nat×Option (List GV))):Option (GV×aj):=match tl with
 |some (some size,some zs)=>if zs.length=size∧0<size∧len*size≤16777216 then blL own d H size len (eO (fun i=>some (i*size,size)) (List.replicate len zs).flatten ps)else none
 |_=>none
@[simp] theorem LK {d size len:Nat}{cs:List GV}{ps:List PV}:blR true d H size len cs (some ps)=rn (jg H d (.arr size (chunks size len ps) 0 false)) (fun nm=> .aZ nm size len 0 len):= .trans rfl rfl
@[simp] theorem abM {d size len:Nat}{cs:List GV}{ps:List PV}:blR false d H size len cs (some ps)=some (.pure (.slice (chunks size len ps)),H):= .trans rfl rfl
@[simp] theorem Ba {d size len:Nat}{cs:List GV}:blR true d H size len cs none=rn (jg (bL H cs).2 d (.arr size (chunks size len (bL H cs).1) 0 false)) (fun nm=> .aZ nm size len 0 len):= .trans rfl rfl
@[simp] theorem IT {own:Bool}{d size len:Nat}{cs:List GV}:blL own d H size len (some cs)=if len=0 then some (.aR,H)else blR own d H size len cs (bC (cs.map cJ)):= .trans rfl rfl
@[simp] theorem IU {own:Bool}{d size len:Nat}{zs:List GV}{ps:List (Nat×GV)}:blV own d H len ps (some (some size,some zs))=
  if zs.length=size∧0<size∧len*size≤16777216 then blL own d H size len (eO (fun i=>some (i*size,size)) (List.replicate len zs).flatten ps)else none:= .trans rfl rfl
@[simp] theorem IV {d:Nat}{t:TypeId}{n:Nat}{ps:Array (Nat×Operand)}:eN K fn ⟨some d, .buildSlice t n ps,ty,pos,af,gu⟩ s H=blV (K.own fn d) d H n (ps.toList.map (vB s)) (vl K.P t):=by
 simp only [eN,vl]
 cases dY K.P t with
 |none=>rfl
 |some e=>
  simp only [Option.map_some]
  cases bD K.P e with
  |none=>rfl
  |some size=>
   cases cD K.P e with
   |none=>rfl
   |some z=>
    simp only [nv]
    cases bO z with
    |none=>rfl
    |some zs=>
     simp only [IU];split
     ·cases eO (fun i=>some (i*size,size)) (List.replicate n zs).flatten (ps.toList.map (vB s))with
      |none=>rfl
      |some cs=>
       simp only [IT];split
       ·rfl
       ·cases bC (cs.map cJ)with
        |none=>
         simp only
         cases K.own fn d with
         |true=>
          simp only [if_true,Ba];cases jg (bL H cs).2 d (.arr size (chunks size n (bL H cs).1) 0 false)<;>rfl
         |false=>rfl
        |some qs=>
         simp only
         cases K.own fn d with
         |true=>
          simp only [if_true,LK];cases jg H d (.arr size (chunks size n qs) 0 false)<;>rfl
         |false=>rfl
     ·rfl
@[simp] theorem Qx {α:Type}{es:Nat}{l:List α}:chunks es 0 l=[]:= .trans rfl rfl
@[simp] theorem Qy {α:Type}{es n:Nat}{l:List α}:chunks es (n+1) l=l.take es::chunks es n (l.drop es):= .trans rfl rfl
def mkS (d:Nat)(H:aj)(a b:GV)(tm:Option (Option Nat×Option Nat×Option (List PV))):Option (GV×aj):=match tm,a,b with
 |some (some size,some bytes,some ps), .pure (.int _ l), .pure (.int _ c)=>if ps.length=size∧0<size∧0<bytes∧0≤l∧l≤c∧c*bytes≤1099511627776 then
   rn (jg H d (.arr size (List.replicate l.toNat ps) 0 false)) (fun nm=> .aZ nm size l.toNat 0 l.toNat)else none
 |_,_,_=>none
@[simp] theorem Qz {d:Nat}{t:TypeId}:eN K fn ⟨some d, .makeMap t none,ty,pos,af,gu⟩ s H=rn (jg H d (.map [])) .map:=by
 simp only [eN];cases jg H d (.map [])<;>rfl
def luV (ok:Bool)(z:Option GV)(x:Option (Option (Nat×GV))):Option GV:=match x with
 |some (some (_,v))=>some (if ok then mkTuple [v, .pure (.bool true)]else v)
 |some none=>(match z with|some z=>some (if ok then mkTuple [z, .pure (.bool false)]else z)|none=>none)
 |none=>none
@[simp] theorem aes {ok:Bool}{z:Option GV}{i:Nat}{v:GV}:luV ok z (some (some (i,v)))=some (if ok then mkTuple [v, .pure (.bool true)]else v):= .trans rfl rfl
@[simp] theorem abO {ok:Bool}{z:GV}:luV ok (some z) (some none)=some (if ok then mkTuple [z, .pure (.bool false)]else z):= .trans rfl rfl
def tmz (P:Program)(t:TypeId):Option (TypeId×Option GV):=(xV P t).map fun x=>(x.1,cD P x.2)
def luK (K:Ctx)(ok:Bool)(tm:Option (TypeId×Option GV))(k:GV)(es:Option (List (PV×GV))):Option GV:=match tm,k,es with
 |some (kt,z), .pure k,some es=>if jz K kt k=false then none else luV ok z (cQ k es 0)
 |_,_,_=>none
@[simp] theorem abP {K:Ctx}{ok:Bool}{kt:TypeId}{z:Option GV}{k:PV}{es:List (PV×GV)}:luK K ok (some (kt,z)) (.pure k) (some es)=if jz K kt k=false then none else luV ok z (cQ k es 0):= .trans rfl rfl
@[simp] theorem Ue {t:TypeId}{x k:Operand}{ok:Bool}:eN K fn ⟨dst, .lookup t x k ok,ty,pos,af,gu⟩ s H=rv H (luK K ok (tmz K.P t) (ev s k) (mapOf H (ev s x))):=by
 have h:r6 K t H (ev s x) (ev s k) ok=luK K ok (tmz K.P t) (ev s k) (mapOf H (ev s x)):=by
  unfold r6 luK tmz;generalize ev s k=g;generalize mapOf H (ev s x)=m
  cases xV K.P t with
  |none=>rfl
  |some p=>
   obtain⟨kt,e⟩:=p
   cases g with
   |pure q=>
    cases m with
    |none=>rfl
    |some es=>
     simp only [Option.map_some];split
     ·rfl
     ·unfold luV
      cases cQ q es 0 with
      |none=>rfl
      |some y=>cases y<;>rfl
   |_=>cases m<;>rfl
 simp only [eN,h];rfl
def LM (b:Option dF):Option (List (PV×GV)):=match b with|some (.map es)=>some es|_=>none
@[simp] theorem abQ {es:List (PV×GV)}:LM (some (.map es))=some es:= .trans rfl rfl
def muE (nm:Nm)(H:aj)(k:PV)(v:GV)(es:List (PV×GV))(x:Option (Option (Nat×GV))):Option aj:=match x with
 |some (some (i,_))=>some (H.set nm (.map (es.set i (k,v))))
 |some none=>some (H.set nm (.map (es++[(k,v)])))
 |none=>none
@[simp] theorem aev {nm:Nm}{k:PV}{v v':GV}{es:List (PV×GV)}{i:Nat}:muE nm H k v es (some (some (i,v')))=some (H.set nm (.map (es.set i (k,v)))):= .trans rfl rfl
@[simp] theorem abS {nm:Nm}{k:PV}{v:GV}{es:List (PV×GV)}:muE nm H k v es (some none)=some (H.set nm (.map (es++[(k,v)]))):= .trans rfl rfl
def muK (K:Ctx)(kt:TypeId)(nm:Nm)(k:PV)(x:Option (GV×aj)):Option aj:=match x with
 |some (v',H1)=>(match LM (H1.get nm)with|some es=>if jz K kt k=false then none else muE nm H1 k v' es (cQ k es 0)|none=>none)
 |none=>none
@[simp] theorem abT {K:Ctx}{kt:TypeId}{nm:Nm}{k:PV}{v:GV}:muK K kt nm k (some (v,H))=(match LM (H.get nm)with|some es=>if jz K kt k=false then none else muE nm H k v es (cQ k es 0)|none=>none):= .trans rfl rfl
def muV (K:Ctx)(tm:Option (TypeId×TypeId))(H:aj)(m k v:GV):Option aj:=match tm,m,k with
 |some (kt,_), .map nm, .pure k=>muK K kt nm k (lu H nm.1 v)
 |_,_,_=>none
@[simp] theorem K7 {t:TypeId}{m k v:Operand}:eN K fn ⟨dst, .mapUpdate t m k v,ty,pos,af,gu⟩ s H=rh (muV K (xV K.P t) H (ev s m) (ev s k) (ev s v)):=by
 have h:jT K t H (ev s m) (ev s k) (ev s v)=muV K (xV K.P t) H (ev s m) (ev s k) (ev s v):=by
  unfold jT muV;generalize ev s m=gm;generalize ev s k=gk
  cases xV K.P t with
  |none=>rfl
  |some p=>
   obtain⟨kt,e⟩:=p
   cases gm with
   |map nm=>
    cases gk with
    |pure q=>
     simp only
     cases lu H nm.1 (ev s v)with
     |none=>rfl
     |some y=>
      obtain⟨v',H1⟩:=y;simp only [muK,LM]
      cases H1.get nm with
      |none=>rfl
      |some b=>
       cases b with
       |map es=>
        simp only;split
        ·rfl
        ·unfold muE
         cases cQ q es 0 with
         |none=>rfl
         |some y=>cases y<;>rfl
       |_=>rfl
    |_=>rfl
   |_=>rfl
 simp only [eN,h];rfl
@[simp] theorem LN {f:Nat}{a c:Array Operand}:eN K fn ⟨dst, .makeFunc (.func f) a c,ty,pos,af,gu⟩ s H=rv H (some (tx f (a.toList.map (ev s)) (c.toList.map (ev s)))):= .trans rfl rfl
@[simp] theorem Uf {f:Nat}{a:List GV}{g:GV}{c:List GV}:tx f a (g::c)= .func f a (g::c):=by unfold tx;simp
@[simp] theorem aew {args:Array Operand}{ats:Array TypeId}:eN K fn ⟨dst, .call ⟨.builtin .min,args,ats⟩,ty,pos,af,gu⟩ s H=rv H (iD false (args.toList.map (ev s))):=by
 simp only [eN,rv];rfl
@[simp] theorem QA {mx:Bool}{k:IntKind}{a:Int}:iD mx [.pure (.int k a)]=some (.pure (.int k a)):=by
 rw [iD]
@[simp] theorem QB {mx:Bool}{k:IntKind}{a b:Int}{r:List GV}:iD mx (.pure (.int k a):: .pure (.int k b)::r)=iD mx (.pure (.int k (if mx=true then (if a<b then b else a)else (if b<a then b else a)))::r):=by
 rw [iD];simp
def Bb (x:Option GV)(r:Option (List GV)):Option (List GV):=match x,r with|some v,some l=>some (v::l)|_,_=>none
@[simp] theorem Ug {v:GV}{l:List GV}:Bb (some v) (some l)=some (v::l):= .trans rfl rfl
def Bc (K:Ctx)(st:bN):List ResultVar→Option (List GV)
 | []=>some []
 | .tmp t::r=>Bb (some (look st.s t)) (Bc K st r)
 | .cell a t::r=>Bb (kI K.P t st.h (look st.s a)) (Bc K st r)
@[simp] theorem abV {st:bN}:Bc K st []=some []:= .trans rfl rfl
@[simp] theorem IW {st:bN}{t:Nat}{r:List ResultVar}:Bc K st (.tmp t::r)=Bb (some (look st.s t)) (Bc K st r):= .trans rfl rfl
@[simp] theorem Gw {st:bN}{a:Nat}{t:TypeId}{r:List ResultVar}:Bc K st (.cell a t::r)=Bb (kI K.P t st.h (look st.s a)) (Bc K st r):= .trans rfl rfl
@[simp] theorem LO {g:Func}{st:bN}:fJ K g st=Bc K st g.results.toList:=by
 unfold fJ;generalize g.results.toList=l
 induction l with
 |nil=>rfl
 |cons x r ih=>
  cases x with
  |tmp t=>
   simp only [List.mapM_cons,IW,←ih];generalize List.mapM (m:=Option) _ r=q;cases q<;>rfl
  |cell a t=>
   simp only [List.mapM_cons,Gw,←ih]
   cases kI K.P t st.h (look st.s a)with
   |none=>rfl
   |some v=>
    generalize List.mapM (m:=Option) _ r=q;cases q<;>rfl
@[simp] theorem Dc {id:Nat}{ops:Array Oper}{b:Bool}:ba (.region id ops b)=id+1:= .trans rfl rfl
@[simp] theorem IC {a b:Code}:ba (.seq a b)=if ba a=0 then ba b else ba a:= .trans rfl rfl
theorem aM {α:Type}{x:Option α}{a:α}(h:kW x (fun r=>r=a)):x=some a:=by
 obtain⟨r,h1,h2⟩:=h;rw [h1,h2]
end
end
def afw:List (Nat×Nat×List Nat×List Nat):=[(3,12,[3,4,16,17],[12]),(4,9,[1,2,3,5,11,12,13,14,15],[1,2,3,5,11,12,13,14]),(4,15,[17,18,19,20,21],[10]),(5,9,[12,13,14,15],[8]),(6,10,[3,4,5,6,8,10],[2,3,4,5]),(7,12,[4,5,6,7,8,9,10],[2]),(7,16,[4,5,6,7,8,9,10,11,12],[2,4,5,6,7,8,9,10]),(7,22,[4,5,6,7,8,9,10,11,13,14],[4,5,6,7,8,9,10,11,13]),(8,13,[4,10],[2]),(8,16,[4,10,11],[2,4,10]),(11,6,[0,6,7,8,9,10],[6,7,8,9]),(11,23,[6,7,8,9,18],[6,7,8]),(11,26,[6,7,8,9,18,19],[6,7,8,9,18]),(11,33,[6,7,8,21],[6,7]),(12,4,[0,3,4],[3]),(19,9,[1,2,3,6,9,28,29,30],[3,6,9]),(20,10,[1,2,3,6,9,10,11],[3,6,10]),(21,5,[2,3,5],[2,3,4]),(21,10,[2,3,6],[4]),(22,5,[0,1,5],[4]),(23,5,[2,3,5],[2,3,4]),(23,10,[2,3,6],[4]),(25,4,[1,2,5,6],[1,2,5]),(25,8,[1,2,5,7],[5]),(25,11,[1,2,5,7,8],[1,2,5,7]),(25,18,[1,2,5,7,8,9,10],[1,2,5,7,8]),(25,24,[1,2,5,7,8,9,11],[1,2,5,7,8]),(29,8,[1,2,3,4,8,34,35,36],[1,2,3,4,8,9]),(29,22,[3,4,8,14,15,16,17,90,91,92],[3,4,8,14,16,17]),(29,28,[3,4,8,17,109,110,111],[4,8,17]),(30,8,[1,2,3,4,8,10,12],[1,2,3,4,8,9,10]),(31,5,[0,1,5],[4]),(33,5,[0,3,4,5],[3,4]),(35,7,[3,10,11],[3,10]),(35,17,[10,12,13],[6,7]),(36,6,[1,24,25],[2,3,4]),(36,9,[1,8,24,25,29,30,31],[1,2,3,4,24,25]),(37,6,[1,8],[2,3,4]),(37,9,[1,8,9],[1,2,3,4,8]),(38,5,[1,2,3,4],[1,2,3]),(38,9,[1,2,3,5],[1,2,3]),(38,14,[1,2,3,6,7],[1,2,3,6]),(38,19,[1,2,3,8],[1,2]),(39,6,[2,3,5,6],[2,3,4,5]),(39,11,[2,3,5,6,7],[2,3,4,5,6]),(39,19,[2,3,5,9],[4]),(40,4,[1,2,4,5],[1,2,4]),(40,8,[1,2,4,6],[2,4]),(41,13,[3,4,9,11,13,14,15,16],[8]),(42,3,[0,1,5],[4]),(43,4,[1,2,3,4,5,11,12],[1,2,5,11]),(44,3,[0,1,5],[4]),(47,5,[0,4,5,6,7],[0,4,5]),(47,9,[0,4,5,8],[0,4,5]),(47,16,[0,4,5,10],[4,5]),(48,4,[1,2,3,4],[1,2,3]),(48,8,[1,2,3,5],[2,3]),(49,5,[0,5,6,8,10,11,12],[0,8,10]),(57,8,[1,17,18,19],[2]),(68,5,[0,1,5],[4]),(70,11,[7,8,9],[7]),(72,14,[9,10,11,12],[10,11]),(74,5,[3,8,9],[8,9]),(77,4,[0,1,2,7,8],[0,1,2,7,8]),(77,8,[0,1,2,7,8,9],[0,2,7,8]),(77,13,[0,2,7,8],[7]),(79,12,[12,16,17,51],[6,7]),(80,4,[2,3,4,9,10],[6,7,8,9]),(80,6,[2,3,4,9,10,11],[2,3,4,9,10,11]),(80,11,[2,3,4,9,11,12,13,14],[2,3,4,6,7,8,9,11,12]),(80,17,[2,3,4,9,11,12,13,14,15,16],[2,3,4,6,7,8,9,11,12,13,14,15]),(81,6,[0,2,3,5,13],[8,9]),(83,4,[0,1,5,6],[5]),(84,6,[3,4,5,9],[3,4,5,6]),(85,3,[1,2,5],[4]),(89,10,[1,30,31,32],[1,2]),(89,17,[1,4,30,31,32,51,52,53],[1,2,30,31,32]),(89,26,[1,69,70,71],[1,2]),(92,4,[1,2,3,11,12,13],[1,2,3]),(92,10,[2,3,36,37,38],[2,3]),(93,4,[1,2,3,6,9],[3,6,7,8]),(93,6,[1,2,3,6,9,10],[1,2,3,6,9,10]),(94,3,[1,9,10,11],[1,2]),(94,9,[1,21,22,23],[2]),(95,7,[1,3],[2]),(95,15,[1,3,4,5],[1,2,3]),(96,5,[1,3],[1,2]),(96,13,[1,5],[1,2]),(96,20,[1,6],[2]),(97,5,[1,3],[2]),(97,15,[1,3,4,5],[1,2,3,4]),(98,3,[2,3,5],[2,3,4]),(98,8,[2,3,6],[4]),(104,3,[1,2,4,5],[2,4,5]),(110,4,[1,2,3,6,7,8],[1,6,7]),(111,4,[0,3,4],[3]),(111,7,[0,3,4,5],[0,3,4,5]),(111,11,[0,3,4,5,6],[0,3,4,5]),(118,5,[2,4,7,8,19,20,21],[4,5,6,7]),(118,11,[2,4,7,8,9,10,11,19,20,21,35,36,37],[2,4,5,6,7,8,10,11,19,20,21]),(118,17,[2,4,7,8,10,19,20,21,47,48,49],[2,4,7,8,10,19,20,21]),(122,3,[0,1,5],[4]),(122,6,[0,1,5,6],[0,1,4,5]),(123,3,[0,1,2,9,10,11],[6]),(126,3,[0,1,7,8],[4]),(128,3,[0,1,2,6,7,8],[0,1,2,6,7]),(128,8,[0,1,2,6],[]),(128,10,[0,1,2,6,7,8],[0,1,2,6,7]),(131,3,[0,1,7,8],[4]),(132,4,[1,2,4,5],[]),(132,8,[1,2,4,5,18,19],[1,2,4,5]),(132,13,[1,2,4,5,30],[1,2,4,5]),(132,20,[1,2,4,5,8,30,47,48],[1,2,4,5,30]),(132,26,[1,2,4,5,8,30,62,63],[1,2,4,5,30]),(151,2,[0,1,2,3,8],[]),(151,5,[0,1,2,3,8,9],[0,1,2,3,8]),(152,4,[0,1,4,10,11],[0,1,10]),(152,10,[0,10,13],[]),(152,16,[0,2,4,14,15],[0,2,14]),(152,22,[0,14,17],[]),(152,34,[0,1,2,3,4,18,19,20,21,22],[0,1,2,3,4,18,19,20]),(158,3,[0,2,4,10,11],[0,2,4,10]),(159,2,[0,1,2,3,10],[])]
def upT:List (Nat×Nat×Up):=[(4,78, .scopes 1),(4,112, .scopes 0),(11,62, .box 7),(11,102, .box 7),(11,140, .box 7),(13,6, .scopes 0),(13,10, .scopes 0),(13,22, .scopes 0),(19,56, .scopes 1),(20,66, .scopes 1),(25,26, .scopes 1),(25,43, .scopes 2),(25,58, .scopes 3),(25,76, .scopes 3),(29,105, .scopes 1),(29,124, .scopes 1),(33,24, .box 3),(35,89, .box 10),(38,87, .scopes 1),(43,33, .scopes 1),(46,10, .scopes 0),(46,16, .scopes 0),(47,46, .box 5),(47,83, .box 5),(47,96, .box 5),(48,22, .box 3),(48,27, .box 3),(48,53, .box 3),(49,35, .scopes 1),(49,52, .scopes 1),(50,6, .scopes 0),(50,10, .scopes 0),(50,14, .scopes 0),(56,5, .scopes 0),(61,27, .scopes 0),(62,8, .box 1),(67,8, .scopes 0),(67,12, .scopes 0),(67,18, .scopes 0),(67,22, .scopes 0),(67,27, .scopes 0),(72,23, .scopes 0),(72,30, .scopes 0),(72,48, .scopes 0),(72,58, .scopes 0),(72,83, .scopes 0),(75,7, .scopes 0),(77,31, .scopes 1),(77,52, .scopes 1),(77,72, .scopes 1),(80,80, .scopes 1),(80,92, .scopes 1),(81,78, .scopes 0),(81,87, .scopes 0),(83,20, .scopes 1),(88,61, .box 5),(92,23, .box 3),(92,31, .box 3),(92,51, .box 3),(99,7, .scopes 0),(100,7, .scopes 0),(101,7, .scopes 0),(102,7, .scopes 0),(103,7, .scopes 0),(109,26, .scopes 0),(111,36, .scopes 1),(116,64, .scopes 0),(134,27, .scopes 0),(134,35, .scopes 0),(134,43, .scopes 0),(134,53, .scopes 0),(134,60, .scopes 0)]
def abW (f r:Nat):Option (List Nat×List Nat):=(afw.find? fun x=>x.1==f && x.2.1==r).map fun x=>x.2.2
def afx (f d:Nat):Up:=((upT.find? fun x=>x.1==f && x.2.1==d).map fun x=>x.2.2).getD (.scopes 0)
def abX:List (Nat×Nat×List (Nat×Nat)):=[(3,7,[(13,7),(13,11)]),(4,12,[(10,0),(10,1),(10,2)]),(4,16,[(9,4)]),(5,6,[(9,0),(9,1),(9,2),(12,9),(13,9),(14,0),(14,1),(14,2),(18,0),(18,1),(18,2)]),(6,11,[(22,18)]),(11,20,[(4,0)]),(11,34,[(20,4)]),(13,1,[(6,3)]),(13,2,[(4,2),(8,2),(8,5)]),(27,4,[(4,0)]),(28,4,[(5,0)]),(30,17,[(5,0),(6,5),(9,0),(11,0)]),(35,4,[(14,0),(14,2),(14,6),(15,14),(19,0),(19,2),(19,6),(20,14),(20,19),(23,0),(23,2),(23,6)]),(38,10,[(24,4)]),(46,2,[(7,5)]),(47,6,[(3,1),(6,3),(7,3),(9,3)]),(47,10,[(6,1),(11,1),(11,9),(13,1),(13,9)]),(48,5,[(11,9)]),(50,1,[(6,3),(10,3),(10,7)]),(51,6,[(14,7),(14,9)]),(51,8,[(17,7)]),(51,10,[(7,1),(7,3),(9,7),(11,7),(13,7),(17,9),(17,11),(17,13)]),(53,1,[(3,2),(4,2)]),(58,1,[(3,1)]),(58,3,[(4,2),(4,3)]),(62,1,[(2,0)]),(63,1,[(6,3),(10,3),(10,7)]),(65,1,[(4,2),(7,2),(7,5),(10,2),(10,5),(10,8)]),(67,1,[(6,3)]),(67,2,[(6,3)]),(70,5,[(6,2)]),(72,7,[(4,0),(5,4)]),(79,1,[(5,3),(9,3),(12,5),(12,9)]),(79,3,[(2,1),(3,1)]),(81,2,[(13,3)]),(81,10,[(4,1),(8,4),(11,4),(13,1)]),(104,4,[(3,1)]),(105,1,[(4,2),(5,2)]),(116,10,[(8,5),(8,6),(9,8),(11,5),(11,6),(12,8),(12,11)]),(118,20,[(4,2),(5,2)]),(140,1,[(5,2),(8,5),(10,5),(12,5)]),(142,1,[(8,2),(8,4),(9,8),(10,8),(11,2),(11,4)]),(143,1,[(10,7)]),(144,1,[(5,2)]),(145,1,[(14,11),(21,18),(29,26),(37,34)]),(146,1,[(5,2)]),(146,2,[(5,2)]),(147,1,[(8,5)]),(148,1,[(5,2)]),(149,1,[(8,5)]),(150,1,[(5,2)])]
def au (f r:Nat):List (Nat×Nat):=((abX.find? fun x=>x.1==f && x.2.1==r).map fun x=>x.2.2).getD []
def r7:Nat→Option (List SK)
 |29=>some [.int .i64, .int .i64, .int .i64, .int .i64, .int .i64, .int .i64, .int .i64, .int .i64, .int .i64]
 |74=>some [.int .i64, .int .i64]
 |84=>some [.int .i64, .int .i64]
 |86=>some [.int .i64, .int .i64, .int .i64, .int .i64, .bool]
 |105=>some [.int .i64, .int .i64]
 |170=>some [.int .i64, .int .i64]
 |_=>none
@[simp] theorem abY:r7 29=some [.int .i64, .int .i64, .int .i64, .int .i64, .int .i64, .int .i64, .int .i64, .int .i64, .int .i64]:= .trans rfl rfl
@[simp] theorem abZ:r7 74=some [.int .i64, .int .i64]:= .trans rfl rfl
@[simp] theorem ab0:r7 84=some [.int .i64, .int .i64]:= .trans rfl rfl
@[simp] theorem ab1:r7 86=some [.int .i64, .int .i64, .int .i64, .int .i64, .bool]:= .trans rfl rfl
@[simp] theorem YJ:r7 105=some [.int .i64, .int .i64]:= .trans rfl rfl
def IX:List Nat:=[13,12,47,48,50,63,45,46,99,100,101,102,103,75]
def afy:List Nat:=[17,15,34,25,88,134,79,93,58,118,16,18,61,80,20,67,27,29,28,30,71,72,77,111,70,104,110,78,19,65,33,38,40,35,81,13,116]
def afz:List Nat:=[48,9,14,57,60,23,39,21,22,31,49,53,89,64,73,66,95,96,97,68,44,36,84,85,87,112,113,76,94,115,69,120,121,122,130,82,74,105,153,154,135,137,139,141,143,145,147,149,131,155,156,157,98]
def LQ:List Nat:=[99,100,101,102,103,75]
def Uh:List (Nat×Nat):=[(134,9),(88,10),(45,3),(45,6),(45,7),(45,8),(45,14),(61,25)]
def afA:List (Nat×Nat):=[(11,6)]
def Dd (f d:Nat):Option Nat:=if f=11∧d=54 then some 8 else none
def rowOf (_ _:Nat):Option Nat:=none
noncomputable def LR (cl:List Nat):Ctx:={P:=Tryz.prog,IY:=fun f=>IX.contains f,fu:=abW,up:=afx,own:=fun f d=>Uh.contains (f,d),ID:=fun f=>afy.contains f,Be:=fun f=>afz.contains f,fy:=fun f r=>afA.contains (f,r),xS:=fun f=>cl.contains f,lift:=Dd,row:=rowOf,eqs:=r7}
noncomputable def KC:Ctx:=LR LQ
section
@[simp] theorem Gx:KC.P=Tryz.prog:= .trans rfl rfl
@[simp] theorem afB {f d:Nat}:KC.own f d=Uh.contains (f,d):= .trans rfl rfl
@[simp] theorem aex {f d:Nat}:KC.lift f d=Dd f d:= .trans rfl rfl
@[simp] theorem afC {f d:Nat}:KC.row f d=rowOf f d:= .trans rfl rfl
attribute [simp] Dd Uh rowOf
@[simp] theorem Ui:KC.fu 5 9=some ([12,13,14,15],[8]):=by kernel_rfl
@[simp] theorem Uj:KC.fy 5 9=false:=by kernel_rfl
@[simp] theorem QC:KC.fu 11 6=some ([0,6,7,8,9,10],[6,7,8,9]):=by kernel_rfl
@[simp] theorem QD:KC.fy 11 6=true:=by kernel_rfl
@[simp] theorem LS:KC.fu 11 23=some ([6,7,8,9,18],[6,7,8]):=by kernel_rfl
@[simp] theorem LU:KC.fy 11 23=false:=by kernel_rfl
@[simp] theorem LW:KC.fu 11 26=some ([6,7,8,9,18,19],[6,7,8,9,18]):=by kernel_rfl
@[simp] theorem LX:KC.fy 11 26=false:=by kernel_rfl
@[simp] theorem LY:KC.fu 11 33=some ([6,7,8,21],[6,7]):=by kernel_rfl
@[simp] theorem LZ:KC.fy 11 33=false:=by kernel_rfl
@[simp] theorem QE:KC.fu 12 4=some ([0,3,4],[3]):=by kernel_rfl
@[simp] theorem QF:KC.fy 12 4=false:=by kernel_rfl
@[simp] theorem QG:KC.fu 23 5=some ([2,3,5],[2,3,4]):=by kernel_rfl
@[simp] theorem QH:KC.fy 23 5=false:=by kernel_rfl
@[simp] theorem L0:KC.fu 23 10=some ([2,3,6],[4]):=by kernel_rfl
@[simp] theorem L5:KC.fy 23 10=false:=by kernel_rfl
@[simp] theorem QI:KC.fu 25 4=some ([1,2,5,6],[1,2,5]):=by kernel_rfl
@[simp] theorem QJ:KC.fy 25 4=false:=by kernel_rfl
@[simp] theorem QK:KC.fu 25 8=some ([1,2,5,7],[5]):=by kernel_rfl
@[simp] theorem QL:KC.fy 25 8=false:=by kernel_rfl
@[simp] theorem L6:KC.fu 25 11=some ([1,2,5,7,8],[1,2,5,7]):=by kernel_rfl
@[simp] theorem L7:KC.fy 25 11=false:=by kernel_rfl
@[simp] theorem L8:KC.fu 25 18=some ([1,2,5,7,8,9,10],[1,2,5,7,8]):=by kernel_rfl
@[simp] theorem L9:KC.fy 25 18=false:=by kernel_rfl
@[simp] theorem Ma:KC.fu 25 24=some ([1,2,5,7,8,9,11],[1,2,5,7,8]):=by kernel_rfl
@[simp] theorem Mb:KC.fy 25 24=false:=by kernel_rfl
@[simp] theorem QM:KC.fu 31 5=some ([0,1,5],[4]):=by kernel_rfl
@[simp] theorem QN:KC.fy 31 5=false:=by kernel_rfl
@[simp] theorem QO:KC.fu 33 5=some ([0,3,4,5],[3,4]):=by kernel_rfl
@[simp] theorem QP:KC.fy 33 5=false:=by kernel_rfl
@[simp] theorem QQ:KC.fu 35 7=some ([3,10,11],[3,10]):=by kernel_rfl
@[simp] theorem QR:KC.fy 35 7=false:=by kernel_rfl
@[simp] theorem Mc:KC.fu 35 17=some ([10,12,13],[6,7]):=by kernel_rfl
@[simp] theorem Md:KC.fy 35 17=false:=by kernel_rfl
@[simp] theorem QS:KC.fu 36 6=some ([1,24,25],[2,3,4]):=by kernel_rfl
@[simp] theorem QT:KC.fy 36 6=false:=by kernel_rfl
@[simp] theorem QU:KC.fu 36 9=some ([1,8,24,25,29,30,31],[1,2,3,4,24,25]):=by kernel_rfl
@[simp] theorem QV:KC.fy 36 9=false:=by kernel_rfl
@[simp] theorem QW:KC.fu 37 6=some ([1,8],[2,3,4]):=by kernel_rfl
@[simp] theorem QX:KC.fy 37 6=false:=by kernel_rfl
@[simp] theorem QY:KC.fu 37 9=some ([1,8,9],[1,2,3,4,8]):=by kernel_rfl
@[simp] theorem QZ:KC.fy 37 9=false:=by kernel_rfl
@[simp] theorem Q0:KC.fu 47 5=some ([0,4,5,6,7],[0,4,5]):=by kernel_rfl
@[simp] theorem Q1:KC.fy 47 5=false:=by kernel_rfl
@[simp] theorem Q2:KC.fu 47 9=some ([0,4,5,8],[0,4,5]):=by kernel_rfl
@[simp] theorem Q3:KC.fy 47 9=false:=by kernel_rfl
@[simp] theorem Me:KC.fu 47 16=some ([0,4,5,10],[4,5]):=by kernel_rfl
@[simp] theorem Mf:KC.fy 47 16=false:=by kernel_rfl
@[simp] theorem Q4:KC.fu 48 4=some ([1,2,3,4],[1,2,3]):=by kernel_rfl
@[simp] theorem Q5:KC.fy 48 4=false:=by kernel_rfl
@[simp] theorem Q6:KC.fu 48 8=some ([1,2,3,5],[2,3]):=by kernel_rfl
@[simp] theorem Q7:KC.fy 48 8=false:=by kernel_rfl
@[simp] theorem Q8:KC.fu 49 5=some ([0,5,6,8,10,11,12],[0,8,10]):=by kernel_rfl
@[simp] theorem Q9:KC.fy 49 5=false:=by kernel_rfl
@[simp] theorem Ra:KC.fu 57 8=some ([1,17,18,19],[2]):=by kernel_rfl
@[simp] theorem Rb:KC.fy 57 8=false:=by kernel_rfl
@[simp] theorem Rc:KC.fu 68 5=some ([0,1,5],[4]):=by kernel_rfl
@[simp] theorem Rd:KC.fy 68 5=false:=by kernel_rfl
@[simp] theorem Mg:KC.fu 70 11=some ([7,8,9],[7]):=by kernel_rfl
@[simp] theorem Mh:KC.fy 70 11=false:=by kernel_rfl
@[simp] theorem Mi:KC.fu 72 14=some ([9,10,11,12],[10,11]):=by kernel_rfl
@[simp] theorem Mj:KC.fy 72 14=false:=by kernel_rfl
@[simp] theorem Re:KC.fu 74 5=some ([3,8,9],[8,9]):=by kernel_rfl
@[simp] theorem Rf:KC.fy 74 5=false:=by kernel_rfl
@[simp] theorem Rg:KC.fu 77 4=some ([0,1,2,7,8],[0,1,2,7,8]):=by kernel_rfl
@[simp] theorem Rh:KC.fy 77 4=false:=by kernel_rfl
@[simp] theorem Ri:KC.fu 77 8=some ([0,1,2,7,8,9],[0,2,7,8]):=by kernel_rfl
@[simp] theorem Rj:KC.fy 77 8=false:=by kernel_rfl
@[simp] theorem Mk:KC.fu 77 13=some ([0,2,7,8],[7]):=by kernel_rfl
@[simp] theorem Ml:KC.fy 77 13=false:=by kernel_rfl
@[simp] theorem Mm:KC.fu 79 12=some ([12,16,17,51],[6,7]):=by kernel_rfl
@[simp] theorem Mn:KC.fy 79 12=false:=by kernel_rfl
@[simp] theorem Rk:KC.fu 80 4=some ([2,3,4,9,10],[6,7,8,9]):=by kernel_rfl
@[simp] theorem Rl:KC.fy 80 4=false:=by kernel_rfl
@[simp] theorem Rm:KC.fu 80 6=some ([2,3,4,9,10,11],[2,3,4,9,10,11]):=by kernel_rfl
@[simp] theorem Rn:KC.fy 80 6=false:=by kernel_rfl
@[simp] theorem Mo:KC.fu 80 11=some ([2,3,4,9,11,12,13,14],[2,3,4,6,7,8,9,11,12]):=by kernel_rfl
@[simp] theorem Mp:KC.fy 80 11=false:=by kernel_rfl
@[simp] theorem Mq:KC.fu 80 17=some ([2,3,4,9,11,12,13,14,15,16],[2,3,4,6,7,8,9,11,12,13,14,15]):=by kernel_rfl
@[simp] theorem Mr:KC.fy 80 17=false:=by kernel_rfl
@[simp] theorem Ro:KC.fu 81 6=some ([0,2,3,5,13],[8,9]):=by kernel_rfl
@[simp] theorem Rp:KC.fy 81 6=false:=by kernel_rfl
@[simp] theorem Rq:KC.fu 83 4=some ([0,1,5,6],[5]):=by kernel_rfl
@[simp] theorem Rr:KC.fy 83 4=false:=by kernel_rfl
@[simp] theorem Rs:KC.fu 84 6=some ([3,4,5,9],[3,4,5,6]):=by kernel_rfl
@[simp] theorem Rt:KC.fy 84 6=false:=by kernel_rfl
@[simp] theorem Ru:KC.fu 85 3=some ([1,2,5],[4]):=by kernel_rfl
@[simp] theorem Rv:KC.fy 85 3=false:=by kernel_rfl
@[simp] theorem Ms:KC.fu 89 10=some ([1,30,31,32],[1,2]):=by kernel_rfl
@[simp] theorem Mt:KC.fy 89 10=false:=by kernel_rfl
@[simp] theorem Mv:KC.fu 89 17=some ([1,4,30,31,32,51,52,53],[1,2,30,31,32]):=by kernel_rfl
@[simp] theorem Mw:KC.fy 89 17=false:=by kernel_rfl
@[simp] theorem Mx:KC.fu 89 26=some ([1,69,70,71],[1,2]):=by kernel_rfl
@[simp] theorem My:KC.fy 89 26=false:=by kernel_rfl
@[simp] theorem Rx:KC.fu 92 4=some ([1,2,3,11,12,13],[1,2,3]):=by kernel_rfl
@[simp] theorem Ry:KC.fy 92 4=false:=by kernel_rfl
@[simp] theorem Mz:KC.fu 92 10=some ([2,3,36,37,38],[2,3]):=by kernel_rfl
@[simp] theorem MA:KC.fy 92 10=false:=by kernel_rfl
@[simp] theorem Rz:KC.fu 93 4=some ([1,2,3,6,9],[3,6,7,8]):=by kernel_rfl
@[simp] theorem RA:KC.fy 93 4=false:=by kernel_rfl
@[simp] theorem RC:KC.fu 93 6=some ([1,2,3,6,9,10],[1,2,3,6,9,10]):=by kernel_rfl
@[simp] theorem RD:KC.fy 93 6=false:=by kernel_rfl
@[simp] theorem RE:KC.fu 94 3=some ([1,9,10,11],[1,2]):=by kernel_rfl
@[simp] theorem RG:KC.fy 94 3=false:=by kernel_rfl
@[simp] theorem RH:KC.fu 94 9=some ([1,21,22,23],[2]):=by kernel_rfl
@[simp] theorem RI:KC.fy 94 9=false:=by kernel_rfl
@[simp] theorem RJ:KC.fu 95 7=some ([1,3],[2]):=by kernel_rfl
@[simp] theorem RK:KC.fy 95 7=false:=by kernel_rfl
@[simp] theorem MB:KC.fu 95 15=some ([1,3,4,5],[1,2,3]):=by kernel_rfl
@[simp] theorem MC:KC.fy 95 15=false:=by kernel_rfl
@[simp] theorem RL:KC.fu 96 5=some ([1,3],[1,2]):=by kernel_rfl
@[simp] theorem RM:KC.fy 96 5=false:=by kernel_rfl
@[simp] theorem MD:KC.fu 96 13=some ([1,5],[1,2]):=by kernel_rfl
@[simp] theorem MG:KC.fy 96 13=false:=by kernel_rfl
@[simp] theorem MH:KC.fu 96 20=some ([1,6],[2]):=by kernel_rfl
@[simp] theorem MI:KC.fy 96 20=false:=by kernel_rfl
@[simp] theorem RN:KC.fu 97 5=some ([1,3],[2]):=by kernel_rfl
@[simp] theorem RO:KC.fy 97 5=false:=by kernel_rfl
@[simp] theorem MJ:KC.fu 97 15=some ([1,3,4,5],[1,2,3,4]):=by kernel_rfl
@[simp] theorem MK:KC.fy 97 15=false:=by kernel_rfl
@[simp] theorem RP:KC.fu 98 3=some ([2,3,5],[2,3,4]):=by kernel_rfl
@[simp] theorem RQ:KC.fy 98 3=false:=by kernel_rfl
@[simp] theorem RR:KC.fu 98 8=some ([2,3,6],[4]):=by kernel_rfl
@[simp] theorem RT:KC.fy 98 8=false:=by kernel_rfl
@[simp] theorem MM:KC.fu 104 3=some ([1,2,4,5],[2,4,5]):=by kernel_rfl
@[simp] theorem MO:KC.fy 104 3=false:=by kernel_rfl
@[simp] theorem MQ:KC.fu 110 4=some ([1,2,3,6,7,8],[1,6,7]):=by kernel_rfl
@[simp] theorem MT:KC.fy 110 4=false:=by kernel_rfl
@[simp] theorem MU:KC.fu 111 4=some ([0,3,4],[3]):=by kernel_rfl
@[simp] theorem MV:KC.fy 111 4=false:=by kernel_rfl
@[simp] theorem MW:KC.fu 111 7=some ([0,3,4,5],[0,3,4,5]):=by kernel_rfl
@[simp] theorem MY:KC.fy 111 7=false:=by kernel_rfl
@[simp] theorem K8:KC.fu 111 11=some ([0,3,4,5,6],[0,3,4,5]):=by kernel_rfl
@[simp] theorem K9:KC.fy 111 11=false:=by kernel_rfl
@[simp] theorem MZ:KC.fu 118 5=some ([2,4,7,8,19,20,21],[4,5,6,7]):=by kernel_rfl
@[simp] theorem M3:KC.fy 118 5=false:=by kernel_rfl
@[simp] theorem La:KC.fu 118 11=some ([2,4,7,8,9,10,11,19,20,21,35,36,37],[2,4,5,6,7,8,10,11,19,20,21]):=by kernel_rfl
@[simp] theorem Lb:KC.fy 118 11=false:=by kernel_rfl
@[simp] theorem Lc:KC.fu 118 17=some ([2,4,7,8,10,19,20,21,47,48,49],[2,4,7,8,10,19,20,21]):=by kernel_rfl
@[simp] theorem Ld:KC.fy 118 17=false:=by kernel_rfl
@[simp] theorem M4:KC.fu 122 3=some ([0,1,5],[4]):=by kernel_rfl
@[simp] theorem M5:KC.fy 122 3=false:=by kernel_rfl
@[simp] theorem M6:KC.fu 122 6=some ([0,1,5,6],[0,1,4,5]):=by kernel_rfl
@[simp] theorem M7:KC.fy 122 6=false:=by kernel_rfl
@[simp] theorem M8:KC.fu 123 3=some ([0,1,2,9,10,11],[6]):=by kernel_rfl
@[simp] theorem M9:KC.fy 123 3=false:=by kernel_rfl
@[simp] theorem Na:KC.fu 126 3=some ([0,1,7,8],[4]):=by kernel_rfl
@[simp] theorem Nb:KC.fy 126 3=false:=by kernel_rfl
@[simp] theorem Nc:KC.fu 128 3=some ([0,1,2,6,7,8],[0,1,2,6,7]):=by kernel_rfl
@[simp] theorem Nd:KC.fy 128 3=false:=by kernel_rfl
@[simp] theorem Nf:KC.fu 128 8=some ([0,1,2,6],[]):=by kernel_rfl
@[simp] theorem Ng:KC.fy 128 8=false:=by kernel_rfl
@[simp] theorem Nh:KC.fu 131 3=some ([0,1,7,8],[4]):=by kernel_rfl
@[simp] theorem Ni:KC.fy 131 3=false:=by kernel_rfl
@[simp] theorem Nj:KC.fu 132 4=some ([1,2,4,5],[]):=by kernel_rfl
@[simp] theorem Nk:KC.fy 132 4=false:=by kernel_rfl
@[simp] theorem Nl:KC.fu 132 8=some ([1,2,4,5,18,19],[1,2,4,5]):=by kernel_rfl
@[simp] theorem Nn:KC.fy 132 8=false:=by kernel_rfl
@[simp] theorem Le:KC.fu 132 13=some ([1,2,4,5,30],[1,2,4,5]):=by kernel_rfl
@[simp] theorem Lh:KC.fy 132 13=false:=by kernel_rfl
@[simp] theorem Li:KC.fu 132 20=some ([1,2,4,5,8,30,47,48],[1,2,4,5,30]):=by kernel_rfl
@[simp] theorem Lj:KC.fy 132 20=false:=by kernel_rfl
@[simp] theorem Lk:KC.fu 132 26=some ([1,2,4,5,8,30,62,63],[1,2,4,5,30]):=by kernel_rfl
@[simp] theorem Ll:KC.fy 132 26=false:=by kernel_rfl
@[simp] theorem Np:KC.fu 151 2=some ([0,1,2,3,8],[]):=by kernel_rfl
@[simp] theorem Nq:KC.fy 151 2=false:=by kernel_rfl
@[simp] theorem Nr:KC.fu 151 5=some ([0,1,2,3,8,9],[0,1,2,3,8]):=by kernel_rfl
@[simp] theorem Ns:KC.fy 151 5=false:=by kernel_rfl
@[simp] theorem RU:KC.up 11 62= .box 7:=by kernel_rfl
@[simp] theorem Nt:KC.up 11 102= .box 7:=by kernel_rfl
@[simp] theorem Nu:KC.up 11 140= .box 7:=by kernel_rfl
@[simp] theorem Uk:KC.up 13 6= .scopes 0:=by kernel_rfl
@[simp] theorem RV:KC.up 13 10= .scopes 0:=by kernel_rfl
@[simp] theorem RX:KC.up 13 22= .scopes 0:=by kernel_rfl
@[simp] theorem RY:KC.up 25 26= .scopes 1:=by kernel_rfl
@[simp] theorem RZ:KC.up 25 43= .scopes 2:=by kernel_rfl
@[simp] theorem R1:KC.up 25 58= .scopes 3:=by kernel_rfl
@[simp] theorem R3:KC.up 25 76= .scopes 3:=by kernel_rfl
@[simp] theorem R4:KC.up 33 24= .box 3:=by kernel_rfl
@[simp] theorem R5:KC.up 35 89= .box 10:=by kernel_rfl
@[simp] theorem R6:KC.up 47 46= .box 5:=by kernel_rfl
@[simp] theorem R7:KC.up 47 83= .box 5:=by kernel_rfl
@[simp] theorem R8:KC.up 47 96= .box 5:=by kernel_rfl
@[simp] theorem R9:KC.up 48 22= .box 3:=by kernel_rfl
@[simp] theorem Sa:KC.up 48 27= .box 3:=by kernel_rfl
@[simp] theorem Sb:KC.up 48 53= .box 3:=by kernel_rfl
@[simp] theorem Sc:KC.up 49 35= .scopes 1:=by kernel_rfl
@[simp] theorem Sd:KC.up 49 52= .scopes 1:=by kernel_rfl
@[simp] theorem Ul:KC.up 50 6= .scopes 0:=by kernel_rfl
@[simp] theorem Se:KC.up 50 10= .scopes 0:=by kernel_rfl
@[simp] theorem Sf:KC.up 50 14= .scopes 0:=by kernel_rfl
@[simp] theorem Um:KC.up 56 5= .scopes 0:=by kernel_rfl
@[simp] theorem Sg:KC.up 61 27= .scopes 0:=by kernel_rfl
@[simp] theorem Un:KC.up 67 8= .scopes 0:=by kernel_rfl
@[simp] theorem Sh:KC.up 67 12= .scopes 0:=by kernel_rfl
@[simp] theorem Si:KC.up 67 18= .scopes 0:=by kernel_rfl
@[simp] theorem Sj:KC.up 67 22= .scopes 0:=by kernel_rfl
@[simp] theorem Sk:KC.up 67 27= .scopes 0:=by kernel_rfl
@[simp] theorem Sl:KC.up 72 23= .scopes 0:=by kernel_rfl
@[simp] theorem Sm:KC.up 72 30= .scopes 0:=by kernel_rfl
@[simp] theorem Sn:KC.up 72 48= .scopes 0:=by kernel_rfl
@[simp] theorem So:KC.up 72 58= .scopes 0:=by kernel_rfl
@[simp] theorem Sp:KC.up 72 83= .scopes 0:=by kernel_rfl
@[simp] theorem Uo:KC.up 75 7= .scopes 0:=by kernel_rfl
@[simp] theorem Sq:KC.up 77 31= .scopes 1:=by kernel_rfl
@[simp] theorem Sr:KC.up 77 52= .scopes 1:=by kernel_rfl
@[simp] theorem Ss:KC.up 77 72= .scopes 1:=by kernel_rfl
@[simp] theorem St:KC.up 80 80= .scopes 1:=by kernel_rfl
@[simp] theorem Su:KC.up 80 92= .scopes 1:=by kernel_rfl
@[simp] theorem Sv:KC.up 81 78= .scopes 0:=by kernel_rfl
@[simp] theorem Sw:KC.up 81 87= .scopes 0:=by kernel_rfl
@[simp] theorem Sx:KC.up 83 20= .scopes 1:=by kernel_rfl
@[simp] theorem Sy:KC.up 88 61= .box 5:=by kernel_rfl
@[simp] theorem Sz:KC.up 92 23= .box 3:=by kernel_rfl
@[simp] theorem SB:KC.up 92 31= .box 3:=by kernel_rfl
@[simp] theorem SC:KC.up 92 51= .box 3:=by kernel_rfl
@[simp] theorem Uq:KC.up 99 7= .scopes 0:=by kernel_rfl
@[simp] theorem SD:KC.up 100 7= .scopes 0:=by kernel_rfl
@[simp] theorem SG:KC.up 101 7= .scopes 0:=by kernel_rfl
@[simp] theorem Nv:KC.up 109 26= .scopes 0:=by kernel_rfl
@[simp] theorem Nw:KC.up 111 36= .scopes 1:=by kernel_rfl
@[simp] theorem Nx:KC.up 116 64= .scopes 0:=by kernel_rfl
@[simp] theorem Ny:KC.up 134 27= .scopes 0:=by kernel_rfl
@[simp] theorem Nz:KC.up 134 35= .scopes 0:=by kernel_rfl
@[simp] theorem NA:KC.up 134 43= .scopes 0:=by kernel_rfl
@[simp] theorem NB:KC.up 134 53= .scopes 0:=by kernel_rfl
@[simp] theorem NC:KC.up 134 60= .scopes 0:=by kernel_rfl
@[simp] theorem ab2:au 5 6=[(9,0),(9,1),(9,2),(12,9),(13,9),(14,0),(14,1),(14,2),(18,0),(18,1),(18,2)]:=by kernel_rfl
@[simp] theorem YK:au 5 11=[]:=by kernel_rfl
@[simp] theorem YL:au 5 12=[]:=by kernel_rfl
@[simp] theorem YM:au 5 15=[]:=by kernel_rfl
@[simp] theorem Ur:au 11 20=[(4,0)]:=by kernel_rfl
@[simp] theorem Us:au 11 34=[(20,4)]:=by kernel_rfl
@[simp] theorem YN:au 12 5=[]:=by kernel_rfl
@[simp] theorem YO:au 13 1=[(6,3)]:=by kernel_rfl
@[simp] theorem YP:au 13 2=[(4,2),(8,2),(8,5)]:=by kernel_rfl
@[simp] theorem YQ:au 23 6=[]:=by kernel_rfl
@[simp] theorem Ut:au 23 11=[]:=by kernel_rfl
@[simp] theorem YR:au 31 6=[]:=by kernel_rfl
@[simp] theorem YS:au 35 4=[(14,0),(14,2),(14,6),(15,14),(19,0),(19,2),(19,6),(20,14),(20,19),(23,0),(23,2),(23,6)]:=by kernel_rfl
@[simp] theorem YT:au 35 6=[]:=by kernel_rfl
@[simp] theorem YU:au 35 8=[]:=by kernel_rfl
@[simp] theorem Uu:au 35 10=[]:=by kernel_rfl
@[simp] theorem YV:au 47 6=[(3,1),(6,3),(7,3),(9,3)]:=by kernel_rfl
@[simp] theorem Uv:au 47 10=[(6,1),(11,1),(11,9),(13,1),(13,9)]:=by kernel_rfl
@[simp] theorem YW:au 48 5=[(11,9)]:=by kernel_rfl
@[simp] theorem YX:au 48 9=[]:=by kernel_rfl
@[simp] theorem YY:au 49 6=[]:=by kernel_rfl
@[simp] theorem YZ:au 49 9=[]:=by kernel_rfl
@[simp] theorem Y0:au 50 1=[(6,3),(10,3),(10,7)]:=by kernel_rfl
@[simp] theorem Y1:au 51 1=[]:=by kernel_rfl
@[simp] theorem Y2:au 51 6=[(14,7),(14,9)]:=by kernel_rfl
@[simp] theorem Y3:au 51 8=[(17,7)]:=by kernel_rfl
@[simp] theorem Uw:au 51 10=[(7,1),(7,3),(9,7),(11,7),(13,7),(17,9),(17,11),(17,13)]:=by kernel_rfl
@[simp] theorem Y4:au 53 1=[(3,2),(4,2)]:=by kernel_rfl
@[simp] theorem Ux:au 57 11=[]:=by kernel_rfl
@[simp] theorem Y5:au 58 1=[(3,1)]:=by kernel_rfl
@[simp] theorem Y6:au 58 3=[(4,2),(4,3)]:=by kernel_rfl
@[simp] theorem Y7:au 61 6=[]:=by kernel_rfl
@[simp] theorem Y8:au 61 7=[]:=by kernel_rfl
@[simp] theorem Y9:au 63 1=[(6,3),(10,3),(10,7)]:=by kernel_rfl
@[simp] theorem Za:au 67 1=[(6,3)]:=by kernel_rfl
@[simp] theorem Zb:au 67 2=[(6,3)]:=by kernel_rfl
@[simp] theorem Zc:au 68 6=[]:=by kernel_rfl
@[simp] theorem Zd:au 70 5=[(6,2)]:=by kernel_rfl
@[simp] theorem Ze:au 72 7=[(4,0),(5,4)]:=by kernel_rfl
@[simp] theorem Uy:au 72 15=[]:=by kernel_rfl
@[simp] theorem Zf:au 73 1=[]:=by kernel_rfl
@[simp] theorem Zg:au 79 1=[(5,3),(9,3),(12,5),(12,9)]:=by kernel_rfl
@[simp] theorem Zh:au 79 3=[(2,1),(3,1)]:=by kernel_rfl
@[simp] theorem Zi:au 80 5=[]:=by kernel_rfl
@[simp] theorem Uz:au 80 12=[]:=by kernel_rfl
@[simp] theorem UA:au 80 14=[]:=by kernel_rfl
@[simp] theorem UB:au 80 18=[]:=by kernel_rfl
@[simp] theorem UC:au 80 21=[]:=by kernel_rfl
@[simp] theorem Zj:au 81 2=[(13,3)]:=by kernel_rfl
@[simp] theorem Zk:au 81 7=[]:=by kernel_rfl
@[simp] theorem Zl:au 81 9=[]:=by kernel_rfl
@[simp] theorem UD:au 81 10=[(4,1),(8,4),(11,4),(13,1)]:=by kernel_rfl
@[simp] theorem Zm:au 83 7=[]:=by kernel_rfl
@[simp] theorem Zn:au 84 1=[]:=by kernel_rfl
@[simp] theorem Zo:au 84 7=[]:=by kernel_rfl
@[simp] theorem Zp:au 84 9=[]:=by kernel_rfl
@[simp] theorem UE:au 84 11=[]:=by kernel_rfl
@[simp] theorem UF:au 84 15=[]:=by kernel_rfl
@[simp] theorem Zq:au 86 3=[]:=by kernel_rfl
@[simp] theorem Zr:au 86 4=[]:=by kernel_rfl
@[simp] theorem Zs:au 88 2=[]:=by kernel_rfl
@[simp] theorem Zt:au 88 6=[]:=by kernel_rfl
@[simp] theorem Zu:au 93 5=[]:=by kernel_rfl
@[simp] theorem Zv:au 93 7=[]:=by kernel_rfl
@[simp] theorem UG:au 94 10=[]:=by kernel_rfl
@[simp] theorem UH:au 95 16=[]:=by kernel_rfl
@[simp] theorem UI:au 96 14=[]:=by kernel_rfl
@[simp] theorem UJ:au 96 16=[]:=by kernel_rfl
@[simp] theorem UK:au 96 23=[]:=by kernel_rfl
@[simp] theorem Zw:au 97 9=[]:=by kernel_rfl
@[simp] theorem UL:au 97 16=[]:=by kernel_rfl
@[simp] theorem Zx:au 98 9=[]:=by kernel_rfl
@[simp] theorem UM:au 104 2=[]:=by kernel_rfl
@[simp] theorem UN:au 104 4=[(3,1)]:=by kernel_rfl
@[simp] theorem UO:au 105 1=[(4,2),(5,2)]:=by kernel_rfl
@[simp] theorem UP:au 109 5=[]:=by kernel_rfl
@[simp] theorem UQ:au 110 5=[]:=by kernel_rfl
@[simp] theorem UR:au 111 6=[]:=by kernel_rfl
@[simp] theorem US:au 114 1=[]:=by kernel_rfl
@[simp] theorem UT:au 116 2=[]:=by kernel_rfl
@[simp] theorem SH:au 116 10=[(8,5),(8,6),(9,8),(11,5),(11,6),(12,8),(12,11)]:=by kernel_rfl
@[simp] theorem SI:au 118 20=[(4,2),(5,2)]:=by kernel_rfl
@[simp] theorem UU:au 119 1=[]:=by kernel_rfl
@[simp] theorem UW:au 119 4=[]:=by kernel_rfl
@[simp] theorem UX:au 120 1=[]:=by kernel_rfl
@[simp] theorem UY:au 122 7=[]:=by kernel_rfl
@[simp] theorem UZ:au 134 4=[]:=by kernel_rfl
@[simp] theorem U0:au 135 1=[]:=by kernel_rfl
@[simp] theorem U2:au 137 1=[]:=by kernel_rfl
@[simp] theorem U3:au 138 1=[]:=by kernel_rfl
@[simp] theorem U4:au 140 1=[(5,2),(8,5),(10,5),(12,5)]:=by kernel_rfl
@[simp] theorem U5:au 140 2=[]:=by kernel_rfl
@[simp] theorem U6:au 141 1=[]:=by kernel_rfl
@[simp] theorem U7:au 142 1=[(8,2),(8,4),(9,8),(10,8),(11,2),(11,4)]:=by kernel_rfl
@[simp] theorem U8:au 142 2=[]:=by kernel_rfl
@[simp] theorem U9:au 143 1=[(10,7)]:=by kernel_rfl
@[simp] theorem Va:au 144 1=[(5,2)]:=by kernel_rfl
@[simp] theorem Vb:au 145 1=[(14,11),(21,18),(29,26),(37,34)]:=by kernel_rfl
@[simp] theorem Vc:au 146 1=[(5,2)]:=by kernel_rfl
@[simp] theorem Vd:au 146 2=[(5,2)]:=by kernel_rfl
@[simp] theorem Ve:au 147 1=[(8,5)]:=by kernel_rfl
@[simp] theorem Vf:au 148 1=[(5,2)]:=by kernel_rfl
@[simp] theorem Vg:au 149 1=[(8,5)]:=by kernel_rfl
@[simp] theorem Vh:au 150 1=[(5,2)]:=by kernel_rfl
@[simp] theorem Vi:au 151 4=[]:=by kernel_rfl
@[simp] theorem Vj:au 151 6=[]:=by kernel_rfl
@[simp] theorem Vk:au 153 1=[]:=by kernel_rfl
@[simp] theorem Vl:au 154 1=[]:=by kernel_rfl
@[simp] theorem Vm:au 155 1=[]:=by kernel_rfl
@[simp] theorem afD {t:Nat}:KC.eqs t=r7 t:= .trans rfl rfl
@[simp] theorem Vn (x0 x1:Int):jz KC 170 (.agg [.int .i64 x0, .int .i64 x1])=true:=by kernel_rfl
end
@[simp] theorem aey:fj Tryz.prog 3=some false:=by kernel_rfl
@[simp] theorem ab3:bD Tryz.prog 3=some 1:=by kernel_rfl
@[simp] theorem ab4:cD Tryz.prog 3=some (.pure (.int .i64 0)):=by kernel_rfl
@[simp] theorem aez:fj Tryz.prog 4=some false:=by kernel_rfl
@[simp] theorem ab5:bD Tryz.prog 4=some 1:=by kernel_rfl
@[simp] theorem ab6:cD Tryz.prog 4=some (.pure (.bool false)):=by kernel_rfl
@[simp] theorem ab7:fj Tryz.prog 22=some false:=by kernel_rfl
@[simp] theorem Zy:bD Tryz.prog 22=some 1:=by kernel_rfl
@[simp] theorem Zz:gd Tryz.prog 22=some (some 2):=by kernel_rfl
@[simp] theorem ab8:fq Tryz.prog 22=none:=by kernel_rfl
@[simp] theorem ab9:vh Tryz.prog 22=some ((some 2),(some 16),(some 2)):=by kernel_rfl
@[simp] theorem aca:vl Tryz.prog 22=some ((some 2),(some [(.pure (.int .i64 0)),(.pure (.int .i64 0))])):=by kernel_rfl
@[simp] theorem SJ:dZ Tryz.prog (some 22)=true:=by kernel_rfl
@[simp] theorem acb:fj Tryz.prog 23=some false:=by kernel_rfl
@[simp] theorem ZA:bD Tryz.prog 23=some 1:=by kernel_rfl
@[simp] theorem ZB:gd Tryz.prog 23=some (some 5):=by kernel_rfl
@[simp] theorem acd:fq Tryz.prog 23=none:=by kernel_rfl
@[simp] theorem ace:vh Tryz.prog 23=some ((some 5),(some 40),(some 5)):=by kernel_rfl
@[simp] theorem acf:vl Tryz.prog 23=some ((some 5),(some [(.pure (.int .i64 0)),(.pure (.int .i64 0)),(.pure (.int .i64 0)),(.pure (.int .i64 0)),(.pure (.bool false))])):=by kernel_rfl
@[simp] theorem SL:dZ Tryz.prog (some 23)=true:=by kernel_rfl
@[simp] theorem acg:fj Tryz.prog 24=some false:=by kernel_rfl
@[simp] theorem ZC:bD Tryz.prog 24=some 1:=by kernel_rfl
@[simp] theorem ZD:gd Tryz.prog 24=some (some 1):=by kernel_rfl
@[simp] theorem ach:fq Tryz.prog 24=none:=by kernel_rfl
@[simp] theorem aci:vh Tryz.prog 24=some ((some 1),(some 8),(some 1)):=by kernel_rfl
@[simp] theorem acj:vl Tryz.prog 24=some ((some 1),(some [(.pure (.int .i64 0))])):=by kernel_rfl
@[simp] theorem SM:dZ Tryz.prog (some 24)=true:=by kernel_rfl
@[simp] theorem ack:fj Tryz.prog 25=some false:=by kernel_rfl
@[simp] theorem ZE:bD Tryz.prog 25=some 1:=by kernel_rfl
@[simp] theorem ZF:cD Tryz.prog 25=some .aR:=by kernel_rfl
@[simp] theorem ZG:gd Tryz.prog 25=some (some 9):=by kernel_rfl
@[simp] theorem acm:fq Tryz.prog 25=none:=by kernel_rfl
@[simp] theorem acn:vh Tryz.prog 25=some ((some 9),(some 72),(some 9)):=by kernel_rfl
@[simp] theorem aco:vl Tryz.prog 25=some ((some 9),(some [(.pure (.int .i64 0)),(.pure (.int .i64 0)),(.pure (.int .i64 0)),(.pure (.int .i64 0)),(.pure (.int .i64 0)),(.pure (.int .i64 0)),(.pure (.int .i64 0)),(.pure (.int .i64 0)),(.pure (.int .i64 0))])):=by kernel_rfl
@[simp] theorem SO:dZ Tryz.prog (some 25)=true:=by kernel_rfl
@[simp] theorem acp:fj Tryz.prog 27=some true:=by kernel_rfl
@[simp] theorem ZH:bD Tryz.prog 27=some 7:=by kernel_rfl
@[simp] theorem ZI:cD Tryz.prog 27=some (.agg [(.pure (.int .i64 0)),(.pure (.int .i64 0)), .aR, .aR, .aR, .aR, .aR]):=by kernel_rfl
@[simp] theorem acq:fq Tryz.prog 27=none:=by kernel_rfl
@[simp] theorem SP:fK Tryz.prog 27=some [(0,1),(1,1),(2,1),(3,1),(4,1),(5,1),(6,1)]:=by kernel_rfl
@[simp] theorem acr:fj Tryz.prog 29=some true:=by kernel_rfl
@[simp] theorem ZJ:bD Tryz.prog 29=some 9:=by kernel_rfl
@[simp] theorem ZK:cD Tryz.prog 29=some (.pure (.agg [(.int .i64 0),(.int .i64 0),(.int .i64 0),(.int .i64 0),(.int .i64 0),(.int .i64 0),(.int .i64 0),(.int .i64 0),(.int .i64 0)])):=by kernel_rfl
@[simp] theorem acs:fq Tryz.prog 29=none:=by kernel_rfl
@[simp] theorem SQ:fK Tryz.prog 29=some [(0,1),(1,1),(2,1),(3,1),(4,1),(5,1),(6,1),(7,1),(8,1)]:=by kernel_rfl
@[simp] theorem ZL:gd Tryz.prog 37=some (some 7):=by kernel_rfl
@[simp] theorem acu:fq Tryz.prog 37=none:=by kernel_rfl
@[simp] theorem acv:vl Tryz.prog 37=some ((some 7),(some [(.pure (.int .i64 0)),(.pure (.int .i64 0)), .aR, .aR, .aR, .aR, .aR])):=by kernel_rfl
@[simp] theorem acw:fj Tryz.prog 38=some false:=by kernel_rfl
@[simp] theorem ZM:bD Tryz.prog 38=some 1:=by kernel_rfl
@[simp] theorem ZN:gd Tryz.prog 38=some (some 2):=by kernel_rfl
@[simp] theorem acx:fq Tryz.prog 38=none:=by kernel_rfl
@[simp] theorem acy:vh Tryz.prog 38=some ((some 2),(some 16),(some 2)):=by kernel_rfl
@[simp] theorem acz:vl Tryz.prog 38=some ((some 2),(some [(.pure (.int .i64 0)),(.pure (.int .i64 0))])):=by kernel_rfl
@[simp] theorem SR:dZ Tryz.prog (some 38)=true:=by kernel_rfl
@[simp] theorem acA:fj Tryz.prog 39=some false:=by kernel_rfl
@[simp] theorem ZO:bD Tryz.prog 39=some 1:=by kernel_rfl
@[simp] theorem ZP:gd Tryz.prog 39=some (some 2):=by kernel_rfl
@[simp] theorem acB:fq Tryz.prog 39=none:=by kernel_rfl
@[simp] theorem acC:vh Tryz.prog 39=some ((some 2),(some 16),(some 2)):=by kernel_rfl
@[simp] theorem acD:vl Tryz.prog 39=some ((some 2),(some [(.pure (.int .i64 0)),(.pure (.int .i64 0))])):=by kernel_rfl
@[simp] theorem SU:dZ Tryz.prog (some 39)=true:=by kernel_rfl
@[simp] theorem acE:fj Tryz.prog 41=some true:=by kernel_rfl
@[simp] theorem ZQ:bD Tryz.prog 41=some 3:=by kernel_rfl
@[simp] theorem ZR:cD Tryz.prog 41=some (.agg [.aR, .aR, .aR]):=by kernel_rfl
@[simp] theorem acF:fq Tryz.prog 41=none:=by kernel_rfl
@[simp] theorem SV:fK Tryz.prog 41=some [(0,1),(1,1),(2,1)]:=by kernel_rfl
@[simp] theorem ZS:gd Tryz.prog 45=some (some 3):=by kernel_rfl
@[simp] theorem acG:fq Tryz.prog 45=none:=by kernel_rfl
@[simp] theorem acH:vh Tryz.prog 45=some ((some 3),(some 72),(some 3)):=by kernel_rfl
@[simp] theorem acI:vl Tryz.prog 45=some ((some 3),(some [.aR, .aR, .aR])):=by kernel_rfl
@[simp] theorem SW:dZ Tryz.prog (some 45)=true:=by kernel_rfl
@[simp] theorem acJ:fj Tryz.prog 74=some true:=by kernel_rfl
@[simp] theorem ZT:bD Tryz.prog 74=some 2:=by kernel_rfl
@[simp] theorem ZU:cD Tryz.prog 74=some (.pure (.agg [(.int .i64 0),(.int .i64 0)])):=by kernel_rfl
@[simp] theorem acK:fq Tryz.prog 74=none:=by kernel_rfl
@[simp] theorem SY:fK Tryz.prog 74=some [(0,1),(1,1)]:=by kernel_rfl
@[simp] theorem acL:fj Tryz.prog 84=some true:=by kernel_rfl
@[simp] theorem ZV:bD Tryz.prog 84=some 2:=by kernel_rfl
@[simp] theorem ZW:cD Tryz.prog 84=some (.pure (.agg [(.int .i64 0),(.int .i64 0)])):=by kernel_rfl
@[simp] theorem acM:fq Tryz.prog 84=some (2,(some 1),(some false)):=by kernel_rfl
@[simp] theorem acN:fj Tryz.prog 86=some true:=by kernel_rfl
@[simp] theorem ZX:bD Tryz.prog 86=some 5:=by kernel_rfl
@[simp] theorem ZY:cD Tryz.prog 86=some (.pure (.agg [(.int .i64 0),(.int .i64 0),(.int .i64 0),(.int .i64 0),(.bool false)])):=by kernel_rfl
@[simp] theorem acO:fq Tryz.prog 86=none:=by kernel_rfl
@[simp] theorem SZ:fK Tryz.prog 86=some [(0,1),(1,1),(2,1),(3,1),(4,1)]:=by kernel_rfl
@[simp] theorem acP:fj Tryz.prog 87=some false:=by kernel_rfl
@[simp] theorem ZZ:bD Tryz.prog 87=some 1:=by kernel_rfl
@[simp] theorem Z0:cD Tryz.prog 89=some (.pure (.agg [(.int .u64 0)])):=by kernel_rfl
@[simp] theorem acQ:fq Tryz.prog 89=none:=by kernel_rfl
@[simp] theorem S5:fK Tryz.prog 89=some [(0,1)]:=by kernel_rfl
@[simp] theorem acR:fj Tryz.prog 94=some true:=by kernel_rfl
@[simp] theorem Z1:bD Tryz.prog 94=some 10:=by kernel_rfl
@[simp] theorem Z2:cD Tryz.prog 94=some (.agg [(.pure (.int .i64 0)),(.pure (.int .i64 0)), .aR, .aR, .aR, .aR, .aR, .aR, .aR, .aR]):=by kernel_rfl
@[simp] theorem acS:fq Tryz.prog 94=none:=by kernel_rfl
@[simp] theorem S6:fK Tryz.prog 94=some [(0,7),(7,3)]:=by kernel_rfl
@[simp] theorem Z3:fj Tryz.prog 105=some true:=by kernel_rfl
@[simp] theorem Vo:bD Tryz.prog 105=some 2:=by kernel_rfl
@[simp] theorem Vp:cD Tryz.prog 105=some (.pure (.agg [(.int .i64 0),(.int .i64 0)])):=by kernel_rfl
@[simp] theorem Z4:fq Tryz.prog 105=none:=by kernel_rfl
@[simp] theorem ND:fK Tryz.prog 105=some [(0,1),(1,1)]:=by kernel_rfl
@[simp] theorem Vq:cD Tryz.prog 121=some (.agg [(.pure (.int .i64 0)),(.pure (.int .i64 0)), .aR, .aR, .aR, .aR, .aR,(.pure (.int .i64 0)), .aR, .aR, .aR,(.pure (.int .i64 0))]):=by kernel_rfl
@[simp] theorem Z5:fq Tryz.prog 121=none:=by kernel_rfl
@[simp] theorem NF:fK Tryz.prog 121=some [(0,7),(7,1),(8,1),(9,1),(10,1),(11,1)]:=by kernel_rfl
@[simp] theorem Z6:fj Tryz.prog 130=some true:=by kernel_rfl
@[simp] theorem Vr:bD Tryz.prog 130=some 3:=by kernel_rfl
@[simp] theorem Vs:cD Tryz.prog 130=some (.agg [.aR, .aR, .aR]):=by kernel_rfl
@[simp] theorem Z7:fq Tryz.prog 130=none:=by kernel_rfl
@[simp] theorem NG:fK Tryz.prog 130=some [(0,1),(1,1),(2,1)]:=by kernel_rfl
@[simp] theorem Z8:fj Tryz.prog 133=some false:=by kernel_rfl
@[simp] theorem Vt:bD Tryz.prog 133=some 1:=by kernel_rfl
@[simp] theorem Z9:fj Tryz.prog 146=some false:=by kernel_rfl
@[simp] theorem Vu:bD Tryz.prog 146=some 1:=by kernel_rfl
@[simp] theorem Vv:cD Tryz.prog 146=some (.pure .gG):=by kernel_rfl
@[simp] theorem aaa:fj Tryz.prog 147=some false:=by kernel_rfl
@[simp] theorem Vw:bD Tryz.prog 147=some 1:=by kernel_rfl
@[simp] theorem Vx:cD Tryz.prog 147=some (.pure .gG):=by kernel_rfl
@[simp] theorem Vy:gd Tryz.prog 152=some (some 3):=by kernel_rfl
@[simp] theorem aab:fq Tryz.prog 152=none:=by kernel_rfl
@[simp] theorem aac:vh Tryz.prog 152=some ((some 3),(some 72),(some 3)):=by kernel_rfl
@[simp] theorem aad:vl Tryz.prog 152=some ((some 3),(some [.aR, .aR, .aR])):=by kernel_rfl
@[simp] theorem NH:dZ Tryz.prog (some 152)=true:=by kernel_rfl
@[simp] theorem aae:fj Tryz.prog 161=some true:=by kernel_rfl
@[simp] theorem Vz:bD Tryz.prog 161=some 2:=by kernel_rfl
@[simp] theorem VA:cD Tryz.prog 161=some (.pure (.agg [.gG, .gG])):=by kernel_rfl
@[simp] theorem aaf:fq Tryz.prog 161=none:=by kernel_rfl
@[simp] theorem NI:fK Tryz.prog 161=some [(0,1),(1,1)]:=by kernel_rfl
@[simp] theorem acT:tmz Tryz.prog 166=some (170,(some (.pure (.bool false)))):=by kernel_rfl
@[simp] theorem aag:xV Tryz.prog 166=some (170,4):=by kernel_rfl
@[simp] theorem VB:gd Tryz.prog 167=some (some 2):=by kernel_rfl
@[simp] theorem aah:fq Tryz.prog 167=none:=by kernel_rfl
@[simp] theorem aai:vh Tryz.prog 167=some ((some 2),(some 16),(some 2)):=by kernel_rfl
@[simp] theorem aaj:vl Tryz.prog 167=some ((some 2),(some [(.pure (.int .i64 0)),(.pure (.int .i64 0))])):=by kernel_rfl
@[simp] theorem NJ:dZ Tryz.prog (some 167)=true:=by kernel_rfl
@[simp] theorem aak:fj Tryz.prog 170=some true:=by kernel_rfl
@[simp] theorem VC:bD Tryz.prog 170=some 2:=by kernel_rfl
@[simp] theorem VD:cD Tryz.prog 170=some (.pure (.agg [(.int .i64 0),(.int .i64 0)])):=by kernel_rfl
@[simp] theorem aal:fq Tryz.prog 170=none:=by kernel_rfl
@[simp] theorem NK:fK Tryz.prog 170=some [(0,1),(1,1)]:=by kernel_rfl
@[simp] theorem VE:bD Tryz.prog 172=some 18:=by kernel_rfl
@[simp] theorem VF:cD Tryz.prog 172=some (.pure (.agg [.gG, .gG, .gG, .gG, .gG, .gG, .gG, .gG, .gG, .gG, .gG, .gG, .gG, .gG, .gG, .gG, .gG, .gG])):=by kernel_rfl
@[simp] theorem aam:fq Tryz.prog 172=some (9,(some 2),(some true)):=by kernel_rfl
@[simp] theorem acU:IQ Tryz.prog 25=some ((some 9),(some [(.int .i64 0),(.int .i64 0),(.int .i64 0),(.int .i64 0),(.int .i64 0),(.int .i64 0),(.int .i64 0),(.int .i64 0),(.int .i64 0)])):=by kernel_rfl
@[simp] theorem aan:mF Tryz.prog 27 0=some (0,(some 1)):=by kernel_rfl
@[simp] theorem aao:mF Tryz.prog 27 1=some (1,(some 1)):=by kernel_rfl
@[simp] theorem aap:mF Tryz.prog 27 2=some (2,(some 1)):=by kernel_rfl
@[simp] theorem aaq:mF Tryz.prog 27 3=some (3,(some 1)):=by kernel_rfl
@[simp] theorem aar:mF Tryz.prog 27 4=some (4,(some 1)):=by kernel_rfl
@[simp] theorem aas:mF Tryz.prog 27 5=some (5,(some 1)):=by kernel_rfl
@[simp] theorem aat:mF Tryz.prog 27 6=some (6,(some 1)):=by kernel_rfl
@[simp] theorem aau:mF Tryz.prog 29 0=some (0,(some 1)):=by kernel_rfl
@[simp] theorem aav:mF Tryz.prog 29 1=some (1,(some 1)):=by kernel_rfl
@[simp] theorem aaw:mF Tryz.prog 29 2=some (2,(some 1)):=by kernel_rfl
@[simp] theorem aax:mF Tryz.prog 29 3=some (3,(some 1)):=by kernel_rfl
@[simp] theorem aay:mF Tryz.prog 29 4=some (4,(some 1)):=by kernel_rfl
@[simp] theorem aaz:mF Tryz.prog 29 5=some (5,(some 1)):=by kernel_rfl
@[simp] theorem aaA:mF Tryz.prog 29 6=some (6,(some 1)):=by kernel_rfl
@[simp] theorem aaB:mF Tryz.prog 29 7=some (7,(some 1)):=by kernel_rfl
@[simp] theorem aaC:mF Tryz.prog 29 8=some (8,(some 1)):=by kernel_rfl
@[simp] theorem aaD:mF Tryz.prog 41 0=some (0,(some 1)):=by kernel_rfl
@[simp] theorem aaE:mF Tryz.prog 41 1=some (1,(some 1)):=by kernel_rfl
@[simp] theorem aaF:mF Tryz.prog 41 2=some (2,(some 1)):=by kernel_rfl
@[simp] theorem aaG:mF Tryz.prog 74 0=some (0,(some 1)):=by kernel_rfl
@[simp] theorem aaH:mF Tryz.prog 74 1=some (1,(some 1)):=by kernel_rfl
@[simp] theorem aaI:mF Tryz.prog 86 0=some (0,(some 1)):=by kernel_rfl
@[simp] theorem aaJ:mF Tryz.prog 86 1=some (1,(some 1)):=by kernel_rfl
@[simp] theorem aaK:mF Tryz.prog 86 2=some (2,(some 1)):=by kernel_rfl
@[simp] theorem aaL:mF Tryz.prog 86 3=some (3,(some 1)):=by kernel_rfl
@[simp] theorem aaM:mF Tryz.prog 86 4=some (4,(some 1)):=by kernel_rfl
@[simp] theorem aaN:mF Tryz.prog 89 0=some (0,(some 1)):=by kernel_rfl
@[simp] theorem aaO:mF Tryz.prog 94 0=some (0,(some 7)):=by kernel_rfl
@[simp] theorem aaP:mF Tryz.prog 94 1=some (7,(some 3)):=by kernel_rfl
@[simp] theorem VG:mF Tryz.prog 105 0=some (0,(some 1)):=by kernel_rfl
@[simp] theorem VH:mF Tryz.prog 105 1=some (1,(some 1)):=by kernel_rfl
@[simp] theorem VI:mF Tryz.prog 121 0=some (0,(some 7)):=by kernel_rfl
@[simp] theorem VJ:mF Tryz.prog 121 1=some (7,(some 1)):=by kernel_rfl
@[simp] theorem VK:mF Tryz.prog 121 2=some (8,(some 1)):=by kernel_rfl
@[simp] theorem VL:mF Tryz.prog 121 3=some (9,(some 1)):=by kernel_rfl
@[simp] theorem VM:mF Tryz.prog 121 4=some (10,(some 1)):=by kernel_rfl
@[simp] theorem VN:mF Tryz.prog 121 5=some (11,(some 1)):=by kernel_rfl
@[simp] theorem VO:mF Tryz.prog 130 0=some (0,(some 1)):=by kernel_rfl
@[simp] theorem VP:mF Tryz.prog 130 1=some (1,(some 1)):=by kernel_rfl
@[simp] theorem VQ:mF Tryz.prog 130 2=some (2,(some 1)):=by kernel_rfl
@[simp] theorem VR:tfa Tryz.prog 161 0=some (0,(some false),(some 1)):=by kernel_rfl
@[simp] theorem VS:tfa Tryz.prog 161 1=some (1,(some false),(some 1)):=by kernel_rfl
attribute [simp] Tryz.results2 Tryz.ntmps2
attribute [simp] Tryz.results3 Tryz.ntmps3
attribute [simp] Tryz.results4 Tryz.ntmps4
attribute [simp] Tryz.results5 Tryz.ntmps5
attribute [simp] Tryz.results6 Tryz.ntmps6
attribute [simp] Tryz.results7 Tryz.ntmps7
attribute [simp] Tryz.results8 Tryz.ntmps8
attribute [simp] Tryz.results9 Tryz.ntmps9
attribute [simp] Tryz.results10 Tryz.ntmps10
attribute [simp] Tryz.results11 Tryz.ntmps11
attribute [simp] Tryz.results12 Tryz.ntmps12
attribute [simp] Tryz.results13 Tryz.ntmps13
attribute [simp] Tryz.results14 Tryz.ntmps14
attribute [simp] Tryz.results15 Tryz.ntmps15
attribute [simp] Tryz.results16 Tryz.ntmps16
attribute [simp] Tryz.results17 Tryz.ntmps17
attribute [simp] Tryz.results18 Tryz.ntmps18
attribute [simp] Tryz.results19 Tryz.ntmps19
attribute [simp] Tryz.results20 Tryz.ntmps20
attribute [simp] Tryz.results21 Tryz.ntmps21
attribute [simp] Tryz.results22 Tryz.ntmps22
attribute [simp] Tryz.results23 Tryz.ntmps23
attribute [simp] Tryz.results24 Tryz.ntmps24
attribute [simp] Tryz.results25 Tryz.ntmps25
attribute [simp] Tryz.results26 Tryz.ntmps26
attribute [simp] Tryz.results27 Tryz.ntmps27
attribute [simp] Tryz.results28 Tryz.ntmps28
attribute [simp] Tryz.results29 Tryz.ntmps29
attribute [simp] Tryz.results30 Tryz.ntmps30
attribute [simp] Tryz.results31 Tryz.ntmps31
attribute [simp] Tryz.results32 Tryz.ntmps32
attribute [simp] Tryz.results33 Tryz.ntmps33
attribute [simp] Tryz.results34 Tryz.ntmps34
attribute [simp] Tryz.results35 Tryz.ntmps35
attribute [simp] Tryz.results36 Tryz.ntmps36
attribute [simp] Tryz.results37 Tryz.ntmps37
attribute [simp] Tryz.results38 Tryz.ntmps38
attribute [simp] Tryz.results39 Tryz.ntmps39
attribute [simp] Tryz.results40 Tryz.ntmps40
attribute [simp] Tryz.results41 Tryz.ntmps41
attribute [simp] Tryz.results42 Tryz.ntmps42
attribute [simp] Tryz.results43 Tryz.ntmps43
attribute [simp] Tryz.results44 Tryz.ntmps44
attribute [simp] Tryz.results45 Tryz.ntmps45
attribute [simp] Tryz.results46 Tryz.ntmps46
attribute [simp] Tryz.results47 Tryz.ntmps47
attribute [simp] Tryz.results48 Tryz.ntmps48
attribute [simp] Tryz.results49 Tryz.ntmps49
attribute [simp] Tryz.results50 Tryz.ntmps50
attribute [simp] Tryz.results51 Tryz.ntmps51
attribute [simp] Tryz.results52 Tryz.ntmps52
attribute [simp] Tryz.results53 Tryz.ntmps53
attribute [simp] Tryz.results54 Tryz.ntmps54
attribute [simp] Tryz.results55 Tryz.ntmps55
attribute [simp] Tryz.results56 Tryz.ntmps56
attribute [simp] Tryz.results57 Tryz.ntmps57
attribute [simp] Tryz.results58 Tryz.ntmps58
attribute [simp] Tryz.results59 Tryz.ntmps59
attribute [simp] Tryz.results60 Tryz.ntmps60
attribute [simp] Tryz.results61 Tryz.ntmps61
attribute [simp] Tryz.results62 Tryz.ntmps62
attribute [simp] Tryz.results63 Tryz.ntmps63
attribute [simp] Tryz.results64 Tryz.ntmps64
attribute [simp] Tryz.results65 Tryz.ntmps65
attribute [simp] Tryz.results66 Tryz.ntmps66
attribute [simp] Tryz.results67 Tryz.ntmps67
attribute [simp] Tryz.results68 Tryz.ntmps68
attribute [simp] Tryz.results69 Tryz.ntmps69
attribute [simp] Tryz.results70 Tryz.ntmps70
attribute [simp] Tryz.results71 Tryz.ntmps71
attribute [simp] Tryz.results72 Tryz.ntmps72
attribute [simp] Tryz.results73 Tryz.ntmps73
attribute [simp] Tryz.results74 Tryz.ntmps74
attribute [simp] Tryz.results75 Tryz.ntmps75
attribute [simp] Tryz.results76 Tryz.ntmps76
attribute [simp] Tryz.results77 Tryz.ntmps77
attribute [simp] Tryz.results78 Tryz.ntmps78
attribute [simp] Tryz.results79 Tryz.ntmps79
attribute [simp] Tryz.results80 Tryz.ntmps80
attribute [simp] Tryz.results81 Tryz.ntmps81
attribute [simp] Tryz.results82 Tryz.ntmps82
attribute [simp] Tryz.results83 Tryz.ntmps83
attribute [simp] Tryz.results84 Tryz.ntmps84
attribute [simp] Tryz.results85 Tryz.ntmps85
attribute [simp] Tryz.results86 Tryz.ntmps86
attribute [simp] Tryz.results87 Tryz.ntmps87
attribute [simp] Tryz.results88 Tryz.ntmps88
attribute [simp] Tryz.results89 Tryz.ntmps89
attribute [simp] Tryz.results90 Tryz.ntmps90
attribute [simp] Tryz.results91 Tryz.ntmps91
attribute [simp] Tryz.results92 Tryz.ntmps92
attribute [simp] Tryz.results93 Tryz.ntmps93
attribute [simp] Tryz.results94 Tryz.ntmps94
attribute [simp] Tryz.results95 Tryz.ntmps95
attribute [simp] Tryz.results96 Tryz.ntmps96
attribute [simp] Tryz.results97 Tryz.ntmps97
attribute [simp] Tryz.results98 Tryz.ntmps98
attribute [simp] Tryz.results99 Tryz.ntmps99
attribute [simp] Tryz.results100 Tryz.ntmps100
attribute [simp] Tryz.results101 Tryz.ntmps101
attribute [simp] Tryz.results102 Tryz.ntmps102
attribute [simp] Tryz.results103 Tryz.ntmps103
attribute [simp] Tryz.results104 Tryz.ntmps104
attribute [simp] Tryz.results105 Tryz.ntmps105
attribute [simp] Tryz.results106 Tryz.ntmps106
attribute [simp] Tryz.results107 Tryz.ntmps107
attribute [simp] Tryz.results108 Tryz.ntmps108
attribute [simp] Tryz.results109 Tryz.ntmps109
attribute [simp] Tryz.results110 Tryz.ntmps110
attribute [simp] Tryz.results111 Tryz.ntmps111
attribute [simp] Tryz.results112 Tryz.ntmps112
attribute [simp] Tryz.results113 Tryz.ntmps113
attribute [simp] Tryz.results114 Tryz.ntmps114
attribute [simp] Tryz.results115 Tryz.ntmps115
attribute [simp] Tryz.results116 Tryz.ntmps116
attribute [simp] Tryz.results117 Tryz.ntmps117
attribute [simp] Tryz.results118 Tryz.ntmps118
attribute [simp] Tryz.results119 Tryz.ntmps119
attribute [simp] Tryz.results120 Tryz.ntmps120
attribute [simp] Tryz.results121 Tryz.ntmps121
attribute [simp] Tryz.results122 Tryz.ntmps122
attribute [simp] Tryz.results123 Tryz.ntmps123
attribute [simp] Tryz.results124 Tryz.ntmps124
attribute [simp] Tryz.results125 Tryz.ntmps125
attribute [simp] Tryz.results126 Tryz.ntmps126
attribute [simp] Tryz.results127 Tryz.ntmps127
attribute [simp] Tryz.results128 Tryz.ntmps128
attribute [simp] Tryz.results129 Tryz.ntmps129
attribute [simp] Tryz.results130 Tryz.ntmps130
attribute [simp] Tryz.results131 Tryz.ntmps131
attribute [simp] Tryz.results132 Tryz.ntmps132
attribute [simp] Tryz.results133 Tryz.ntmps133
attribute [simp] Tryz.results134 Tryz.ntmps134
attribute [simp] Tryz.results135 Tryz.ntmps135
attribute [simp] Tryz.results136 Tryz.ntmps136
attribute [simp] Tryz.results137 Tryz.ntmps137
attribute [simp] Tryz.results138 Tryz.ntmps138
attribute [simp] Tryz.results139 Tryz.ntmps139
attribute [simp] Tryz.results140 Tryz.ntmps140
attribute [simp] Tryz.results141 Tryz.ntmps141
attribute [simp] Tryz.results142 Tryz.ntmps142
attribute [simp] Tryz.results143 Tryz.ntmps143
attribute [simp] Tryz.results144 Tryz.ntmps144
attribute [simp] Tryz.results145 Tryz.ntmps145
attribute [simp] Tryz.results146 Tryz.ntmps146
attribute [simp] Tryz.results147 Tryz.ntmps147
attribute [simp] Tryz.results148 Tryz.ntmps148
attribute [simp] Tryz.results149 Tryz.ntmps149
attribute [simp] Tryz.results150 Tryz.ntmps150
attribute [simp] Tryz.results151 Tryz.ntmps151
attribute [simp] Tryz.results152 Tryz.ntmps152
attribute [simp] Tryz.results153 Tryz.ntmps153
attribute [simp] Tryz.results154 Tryz.ntmps154
attribute [simp] Tryz.results155 Tryz.ntmps155
attribute [simp] Tryz.results156 Tryz.ntmps156
attribute [simp] Tryz.results157 Tryz.ntmps157
attribute [simp] Tryz.results158 Tryz.ntmps158
attribute [simp] Tryz.results159 Tryz.ntmps159
section
def j8:Code→List Code
 | .seq a b=>j8 a++j8 b
 | .cond _ a b=>j8 a++j8 b
 | .block _ a=>j8 a
 | .scope a=>j8 a
 | .loop a=>a::j8 a
 | .rangeFunc _ _ a b=>j8 a++j8 b
 |_=> []
def lp (g:Func)(k:Nat):Code:=((j8 (g.body.getD .skip))[k]?).getD .skip
noncomputable def mI {α:Type}(a:α):α:=Classical.choose (⟨a,rfl⟩: ∃x,x=a)
theorem cO {α:Type}(a:α):mI a=a:=Classical.choose_spec (⟨a,rfl⟩: ∃x,x=a)
section
variable {K:Ctx} {fn:FuncId} {H:aj}
def saV (v:GV)(x:Option (GV×aj)):Bool:=match x with|some (v',_)=>GV.beq v' v|none=>false
@[simp] theorem acV {v v':GV}:saV v (some (v',H))=GV.beq v' v:=rfl
@[simp] theorem VT {o:Oper}{s:bd}{v:GV}:sameAt K fn o s v H=saV v (eN K fn o s H):=by
 unfold sameAt saV;rfl
@[simp] theorem IE (n:Nat):((n:Int)<0)=False:=by simp
theorem cU {x:Int}(h1: -9223372036854775808≤x)(h2:x≤9223372036854775807):IntKind.i64.wrap x=x:=IntWalk.i64_in x ⟨h1,h2⟩
def bG (w:Int):dF:= .box [.pure (.int .u64 w)]
def fZ (H:aj)(nm:Nm):Prop:= ∃w,H.get nm=some (bG w)∧H.set nm (bG w)=H
def bJ (H:aj)(nm:Nm):Int:=match H.get nm with|some (.box [.pure (.int _ w)])=>w|_=>0
theorem yn {nm:Nm}(h:fZ H nm):H.get nm=some (bG (bJ H nm)):=by
 obtain⟨w,h1,h2⟩:=h;simp only [bJ,h1,bG]
theorem jU {nm:Nm}(h:fZ H nm):H.set nm (bG (bJ H nm))=H:=by
 obtain⟨w,h1,h2⟩:=h;simp only [bJ,h1,bG];exact h2
theorem gP {nm:Nm}(h:fZ H nm):nm.1<H.length:=by
 obtain⟨w,h1,h2⟩:=h;exact aj.bP h1
theorem Fr.fe {q : Nat} {x y : dF} : ∀ f : Fr, (f.ins q x).ins q y = f.ins q y
  | [] => by simp [Fr.ins]
  | (k, b) :: r => by
    simp only [Fr.ins]
    split
    · simp [Fr.ins]
    · rename_i h
      split
      · simp [Fr.ins]
      · rename_i h2
        simp only [Fr.ins, h, h2, if_false, Fr.fe r]
@[simp] theorem aj.set_set {nm:Nm}{x y:dF}: ∀{H:aj},(H.set nm x).set nm y=H.set nm y
 | []=>rfl
 |f::H=>by
  simp only [aj.set];split
  ·rename_i h;simp only [aj.set,h,if_true,Fr.fe]
  ·rename_i h;simp only [aj.set,aj.length_set,h,if_false,aj.set_set]
attribute [simp] aj.length_set
@[simp] theorem aj.gf {nm:Nm}{b:dF}(h:nm.1<H.length):(H.set nm b).get nm=some b:=aj.eF b h
@[simp] theorem lx {nm:Nm}{w:Int}(h:nm.1<H.length):bJ (H.set nm (bG w)) nm=w:=by
 simp only [bJ,aj.gf h,bG]
@[simp] theorem ly {nm:Nm}{w:Int}(h:nm.1<H.length):fZ (H.set nm (bG w)) nm:=⟨w,aj.gf h,aj.set_set⟩
theorem eE {nm:Nm}{fr:Fr}(h:fZ H nm):fZ (fr::H) nm:=by
 have hl:=gP h;obtain⟨w,h1,h2⟩:=h;have: ¬nm.1=H.length:=(by omega);exact⟨w,by simp [this,h1],by simp [this,h2]⟩
theorem dK {nm:Nm}{fr:Fr}(h:nm.1<H.length):bJ (fr::H) nm=bJ H nm:=by
 have: ¬nm.1=H.length:=(by omega);simp [bJ,this]
theorem aj.dR {nm:Nm}{fr:Fr}{b:dF}(h:nm.1<H.length):aj.set (fr::H) nm b=fr::H.set nm b:=by
 have: ¬nm.1=H.length:=(by omega);simp [this]
end
end
theorem acW:bz KC au 5 (Tryz.f5.body.getD .skip)=true:=by kernel_rfl
theorem acX:bz KC au 9 (Tryz.f9.body.getD .skip)=true:=by kernel_rfl
theorem VU:bz KC au 11 (Tryz.f11.body.getD .skip)=true:=by kernel_rfl
theorem VW:bz KC au 12 (Tryz.f12.body.getD .skip)=true:=by kernel_rfl
theorem VX:bz KC au 13 (Tryz.f13.body.getD .skip)=true:=by kernel_rfl
theorem IZ:bz KC au 15 (Tryz.f15.body.getD .skip)=true:=by kernel_rfl
theorem VY:bz KC au 16 (Tryz.f16.body.getD .skip)=true:=by kernel_rfl
theorem VZ:bz KC au 18 (Tryz.f18.body.getD .skip)=true:=by kernel_rfl
theorem V0:bz KC au 23 (Tryz.f23.body.getD .skip)=true:=by kernel_rfl
theorem V5:bz KC au 24 (Tryz.f24.body.getD .skip)=true:=by kernel_rfl
theorem V6:bz KC au 25 (Tryz.f25.body.getD .skip)=true:=by kernel_rfl
theorem V7:bz KC au 26 (Tryz.f26.body.getD .skip)=true:=by kernel_rfl
theorem V8:bz KC au 31 (Tryz.f31.body.getD .skip)=true:=by kernel_rfl
theorem De:bz KC au 32 (Tryz.f32.body.getD .skip)=true:=by kernel_rfl
theorem V9:bz KC au 33 (Tryz.f33.body.getD .skip)=true:=by kernel_rfl
theorem Wa:bz KC au 34 (Tryz.f34.body.getD .skip)=true:=by kernel_rfl
theorem Wb:bz KC au 35 (Tryz.f35.body.getD .skip)=true:=by kernel_rfl
theorem Wc:bz KC au 36 (Tryz.f36.body.getD .skip)=true:=by kernel_rfl
theorem Wd:bz KC au 37 (Tryz.f37.body.getD .skip)=true:=by kernel_rfl
theorem We:bz KC au 47 (Tryz.f47.body.getD .skip)=true:=by kernel_rfl
theorem I3:bz KC au 48 (Tryz.f48.body.getD .skip)=true:=by kernel_rfl
theorem Wf:bz KC au 49 (Tryz.f49.body.getD .skip)=true:=by kernel_rfl
theorem I4:bz KC au 50 (Tryz.f50.body.getD .skip)=true:=by kernel_rfl
theorem gH:bz KC au 51 (Tryz.f51.body.getD .skip)=true:=by kernel_rfl
theorem Wg:bz KC au 52 (Tryz.f52.body.getD .skip)=true:=by kernel_rfl
theorem Wh:bz KC au 53 (Tryz.f53.body.getD .skip)=true:=by kernel_rfl
theorem Wi:bz KC au 54 (Tryz.f54.body.getD .skip)=true:=by kernel_rfl
theorem Wj:bz KC au 55 (Tryz.f55.body.getD .skip)=true:=by kernel_rfl
theorem Wk:bz KC au 56 (Tryz.f56.body.getD .skip)=true:=by kernel_rfl
theorem Wl:bz KC au 57 (Tryz.f57.body.getD .skip)=true:=by kernel_rfl
theorem Wm:bz KC au 58 (Tryz.f58.body.getD .skip)=true:=by kernel_rfl
theorem Wn:bz KC au 59 (Tryz.f59.body.getD .skip)=true:=by kernel_rfl
theorem Wo:bz KC au 60 (Tryz.f60.body.getD .skip)=true:=by kernel_rfl
theorem I5:bz KC au 61 (Tryz.f61.body.getD .skip)=true:=by kernel_rfl
theorem I6:bz KC au 63 (Tryz.f63.body.getD .skip)=true:=by kernel_rfl
theorem Wp:bz KC au 64 (Tryz.f64.body.getD .skip)=true:=by kernel_rfl
theorem Wq:bz KC au 66 (Tryz.f66.body.getD .skip)=true:=by kernel_rfl
theorem Wr:bz KC au 67 (Tryz.f67.body.getD .skip)=true:=by kernel_rfl
theorem Ws:bz KC au 68 (Tryz.f68.body.getD .skip)=true:=by kernel_rfl
theorem Wt:bz KC au 69 (Tryz.f69.body.getD .skip)=true:=by kernel_rfl
theorem Wu:bz KC au 70 (Tryz.f70.body.getD .skip)=true:=by kernel_rfl
theorem Wv:bz KC au 71 (Tryz.f71.body.getD .skip)=true:=by kernel_rfl
theorem Ww:bz KC au 72 (Tryz.f72.body.getD .skip)=true:=by kernel_rfl
theorem Wx:bz KC au 73 (Tryz.f73.body.getD .skip)=true:=by kernel_rfl
theorem Wy:bz KC au 74 (Tryz.f74.body.getD .skip)=true:=by kernel_rfl
theorem Wz:bz KC au 75 (Tryz.f75.body.getD .skip)=true:=by kernel_rfl
theorem WA:bz KC au 76 (Tryz.f76.body.getD .skip)=true:=by kernel_rfl
theorem WC:bz KC au 77 (Tryz.f77.body.getD .skip)=true:=by kernel_rfl
theorem WD:bz KC au 78 (Tryz.f78.body.getD .skip)=true:=by kernel_rfl
theorem WE:bz KC au 79 (Tryz.f79.body.getD .skip)=true:=by kernel_rfl
theorem WG:bz KC au 80 (Tryz.f80.body.getD .skip)=true:=by kernel_rfl
theorem I7:bz KC au 81 (Tryz.f81.body.getD .skip)=true:=by kernel_rfl
theorem WH:bz KC au 82 (Tryz.f82.body.getD .skip)=true:=by kernel_rfl
theorem WI:bz KC au 83 (Tryz.f83.body.getD .skip)=true:=by kernel_rfl
theorem I8:bz KC au 84 (Tryz.f84.body.getD .skip)=true:=by kernel_rfl
theorem WJ:bz KC au 85 (Tryz.f85.body.getD .skip)=true:=by kernel_rfl
theorem WK:bz KC au 86 (Tryz.f86.body.getD .skip)=true:=by kernel_rfl
theorem WL:bz KC au 87 (Tryz.f87.body.getD .skip)=true:=by kernel_rfl
theorem I9:bz KC au 88 (Tryz.f88.body.getD .skip)=true:=by kernel_rfl
theorem WM:bz KC au 89 (Tryz.f89.body.getD .skip)=true:=by kernel_rfl
theorem WN:bz KC au 90 (Tryz.f90.body.getD .skip)=true:=by kernel_rfl
theorem WO:bz KC au 91 (Tryz.f91.body.getD .skip)=true:=by kernel_rfl
theorem WQ:bz KC au 92 (Tryz.f92.body.getD .skip)=true:=by kernel_rfl
theorem WR:bz KC au 93 (Tryz.f93.body.getD .skip)=true:=by kernel_rfl
theorem WS:bz KC au 94 (Tryz.f94.body.getD .skip)=true:=by kernel_rfl
theorem WT:bz KC au 95 (Tryz.f95.body.getD .skip)=true:=by kernel_rfl
theorem WU:bz KC au 96 (Tryz.f96.body.getD .skip)=true:=by kernel_rfl
theorem WV:bz KC au 97 (Tryz.f97.body.getD .skip)=true:=by kernel_rfl
theorem WW:bz KC au 98 (Tryz.f98.body.getD .skip)=true:=by kernel_rfl
theorem WX:bz KC au 99 (Tryz.f99.body.getD .skip)=true:=by kernel_rfl
theorem NL:bz KC au 100 (Tryz.f100.body.getD .skip)=true:=by kernel_rfl
theorem NM:bz KC au 101 (Tryz.f101.body.getD .skip)=true:=by kernel_rfl
theorem NN:bz KC au 104 (Tryz.f104.body.getD .skip)=true:=by kernel_rfl
theorem NO:bz KC au 105 (Tryz.f105.body.getD .skip)=true:=by kernel_rfl
theorem NP:bz KC au 106 (Tryz.f106.body.getD .skip)=true:=by kernel_rfl
theorem NQ:bz KC au 107 (Tryz.f107.body.getD .skip)=true:=by kernel_rfl
theorem NR:bz KC au 108 (Tryz.f108.body.getD .skip)=true:=by kernel_rfl
theorem NS:bz KC au 109 (Tryz.f109.body.getD .skip)=true:=by kernel_rfl
theorem NT:bz KC au 110 (Tryz.f110.body.getD .skip)=true:=by kernel_rfl
theorem NU:bz KC au 111 (Tryz.f111.body.getD .skip)=true:=by kernel_rfl
theorem NV:bz KC au 112 (Tryz.f112.body.getD .skip)=true:=by kernel_rfl
theorem NW:bz KC au 113 (Tryz.f113.body.getD .skip)=true:=by kernel_rfl
theorem NX:bz KC au 114 (Tryz.f114.body.getD .skip)=true:=by kernel_rfl
theorem NY:bz KC au 115 (Tryz.f115.body.getD .skip)=true:=by kernel_rfl
theorem Fc:bz KC au 116 (Tryz.f116.body.getD .skip)=true:=by kernel_rfl
theorem NZ:bz KC au 117 (Tryz.f117.body.getD .skip)=true:=by kernel_rfl
theorem Fe:bz KC au 118 (Tryz.f118.body.getD .skip)=true:=by kernel_rfl
theorem N0:bz KC au 119 (Tryz.f119.body.getD .skip)=true:=by kernel_rfl
theorem N4:bz KC au 120 (Tryz.f120.body.getD .skip)=true:=by kernel_rfl
theorem N5:bz KC au 121 (Tryz.f121.body.getD .skip)=true:=by kernel_rfl
theorem N6:bz KC au 122 (Tryz.f122.body.getD .skip)=true:=by kernel_rfl
theorem N7:bz KC au 123 (Tryz.f123.body.getD .skip)=true:=by kernel_rfl
theorem N8:bz KC au 124 (Tryz.f124.body.getD .skip)=true:=by kernel_rfl
theorem N9:bz KC au 125 (Tryz.f125.body.getD .skip)=true:=by kernel_rfl
theorem Oa:bz KC au 126 (Tryz.f126.body.getD .skip)=true:=by kernel_rfl
theorem Ob:bz KC au 127 (Tryz.f127.body.getD .skip)=true:=by kernel_rfl
theorem Oc:bz KC au 128 (Tryz.f128.body.getD .skip)=true:=by kernel_rfl
theorem Od:bz KC au 129 (Tryz.f129.body.getD .skip)=true:=by kernel_rfl
theorem Oe:bz KC au 130 (Tryz.f130.body.getD .skip)=true:=by kernel_rfl
theorem Og:bz KC au 131 (Tryz.f131.body.getD .skip)=true:=by kernel_rfl
theorem Oh:bz KC au 132 (Tryz.f132.body.getD .skip)=true:=by kernel_rfl
theorem Oi:bz KC au 133 (Tryz.f133.body.getD .skip)=true:=by kernel_rfl
theorem Oj:bz KC au 134 (Tryz.f134.body.getD .skip)=true:=by kernel_rfl
theorem Ok:bz KC au 135 (Tryz.f135.body.getD .skip)=true:=by kernel_rfl
theorem Ff:bz KC au 136 (Tryz.f136.body.getD .skip)=true:=by kernel_rfl
theorem Ol:bz KC au 137 (Tryz.f137.body.getD .skip)=true:=by kernel_rfl
theorem Om:bz KC au 138 (Tryz.f138.body.getD .skip)=true:=by kernel_rfl
theorem On:bz KC au 139 (Tryz.f139.body.getD .skip)=true:=by kernel_rfl
theorem Oo:bz KC au 140 (Tryz.f140.body.getD .skip)=true:=by kernel_rfl
theorem Oq:bz KC au 141 (Tryz.f141.body.getD .skip)=true:=by kernel_rfl
theorem Fg:bz KC au 142 (Tryz.f142.body.getD .skip)=true:=by kernel_rfl
theorem Ot:bz KC au 143 (Tryz.f143.body.getD .skip)=true:=by kernel_rfl
theorem Ou:bz KC au 144 (Tryz.f144.body.getD .skip)=true:=by kernel_rfl
theorem Ov:bz KC au 145 (Tryz.f145.body.getD .skip)=true:=by kernel_rfl
theorem Ow:bz KC au 146 (Tryz.f146.body.getD .skip)=true:=by kernel_rfl
theorem Ox:bz KC au 147 (Tryz.f147.body.getD .skip)=true:=by kernel_rfl
theorem Oy:bz KC au 148 (Tryz.f148.body.getD .skip)=true:=by kernel_rfl
theorem Oz:bz KC au 149 (Tryz.f149.body.getD .skip)=true:=by kernel_rfl
theorem OA:bz KC au 150 (Tryz.f150.body.getD .skip)=true:=by kernel_rfl
theorem OB:bz KC au 151 (Tryz.f151.body.getD .skip)=true:=by kernel_rfl
theorem OC:bz KC au 153 (Tryz.f153.body.getD .skip)=true:=by kernel_rfl
theorem OD:bz KC au 154 (Tryz.f154.body.getD .skip)=true:=by kernel_rfl
theorem OE:bz KC au 155 (Tryz.f155.body.getD .skip)=true:=by kernel_rfl
theorem OG:bz KC au 156 (Tryz.f156.body.getD .skip)=true:=by kernel_rfl
theorem OH:bz KC au 157 (Tryz.f157.body.getD .skip)=true:=by kernel_rfl
section
@[simp] theorem aeB (n:Nat):(n=n+1+1)=False:=by simp;omega
@[simp] theorem aeC (n:Nat):(n=n+1+1+1)=False:=by simp;omega
@[simp] theorem aeD (n:Nat):(n=n+1+1+1+1)=False:=by simp;omega
@[simp] theorem acY (n:Nat):(n+1+1=n)=False:=by simp;omega
@[simp] theorem acZ (n:Nat):(n+1+1+1=n)=False:=by simp;omega
@[simp] theorem ac0 (n:Nat):(n+1+1≤n)=False:=by simp;omega
@[simp] theorem aeE (n:Nat):(n≤n+1+1)=True:=by simp;omega
@[simp] theorem aeF (n:Nat):(n≤n+1+1+1)=True:=by simp;omega
def cH (nm:Nm)(es:Nat)(rows:List (List PV)):GV:=if rows=[]then .aR else .aZ nm es rows.length 0 rows.length
def eG (key es:Nat)(rows:List (List PV))(fr:Fr):Fr:=if rows=[]then fr else fr.ins key (.arr es rows 0 false)
theorem ff {nm:Nm}{es:Nat}:cH nm es []= .aR:=rfl
theorem ja {key es:Nat}{fr:Fr}:eG key es [] fr=fr:=rfl
theorem Fr.vQ {q p : Nat} (x y : dF) (h : q ≠ p) : ∀ f : Fr, (f.ins p y).ins q x = (f.ins q x).ins p y
  | [] => by
    simp only [Fr.ins, h, Ne.symm h, if_false]
    split
    · rename_i h1; rw [if_neg (by omega)]
    · rename_i h1; rw [if_pos (by omega)]
  | (k, b) :: r => by
    have hp : ¬ p = q := fun e => h e.symm
    by_cases h1 : p = k
    · subst h1
      by_cases h3 : q < p
      · simp [Fr.ins, h, h3, hp, show ¬ p < q by omega]
      · simp [Fr.ins, h, h3]
    · by_cases h2 : q = k
      · subst h2
        by_cases h3 : p < q
        · simp [Fr.ins, h, h3, hp, show ¬ q < p by omega]
        · simp [Fr.ins, h1, h3]
      · by_cases h3 : p < k
        · by_cases h4 : q < k
          · by_cases h5 : q < p
            · simp [Fr.ins, h, hp, h1, h2, h3, h4, h5, show ¬ p < q by omega]
            · simp [Fr.ins, h, hp, h1, h2, h3, h4, h5, show p < q by omega]
          · simp [Fr.ins, h, hp, h1, h2, h3, h4, show ¬ q < p by omega]
        · by_cases h4 : q < k
          · simp [Fr.ins, h, hp, h1, h2, h3, h4, show ¬ p < q by omega]
          · simp [Fr.ins, h1, h2, h3, h4, Fr.vQ x y h r]
section
variable {key es:Nat} {rows:List (List PV)} {fr:Fr} {H:aj} {nm:Nm}
@[simp] theorem bE {k:Nat}(h:k≠key):(eG key es rows fr).get k=fr.get k:=by
 unfold eG;split
 ·rfl
 ·exact Fr.aw _ h _
@[simp] theorem r8 {k:Nat}{b:dF}(h:k≠key):(eG key es rows fr).ins k b=eG key es rows (fr.ins k b):=by
 unfold eG;split
 ·rfl
 ·exact Fr.vQ _ _ h _
theorem dg (h:rows≠[]):(eG key es rows fr).get key=some (.arr es rows 0 false):=by
 unfold eG;rw [if_neg h];exact Fr.a7 _ _ _
@[simp] theorem WY:bO (cH nm es rows)=some [cH nm es rows]:=by
 unfold cH;split<;>rfl
@[simp] theorem Lm {l0:Nat}(h:nm.1≤l0):fE H l0 (cH nm es rows)=(cH nm es rows,H):=by
 unfold cH;split
 ·rfl
 ·simp [h]
@[simp] theorem ac1 {e:TypeId}:Ja (some (.slice e)) H (cH nm es rows)=some (rows.length:Int):=by
 unfold cH;split
 ·rename_i h;subst h;rfl
 ·rfl
@[simp] theorem S7 {r:List GV}:bC (cH nm es rows::r)=none:=by
 unfold cH;split<;>rfl
@[simp] theorem Jb {l0:Nat}(h:nm.1≤l0):clean H l0 (cH nm es rows)=cH nm es rows:=by
 unfold cH;split
 ·rfl
 ·simp [h]
theorem pZ {l bytes:Nat}{r:List PV}{H':aj}(hg:rows=[]→H'.get (l,key)=none)(hg2:rows≠[]→H'.get (l,key)=some (.arr es rows 0 false))(hl:l<H'.length)(hb:(rows.length+1)*bytes≤1099511627776):
  xR l key (cH (l,key) es rows) es bytes [r] H'=some (cH (l,key) es (rows++[r]),H'.set (l,key) (.arr es (rows++[r]) 0 false)):=by
 unfold cH;by_cases h:rows=[]
 ·subst h;have h1:=hg rfl;have h2: ¬H'.length≤l:=(by omega);have h3:bytes≤1099511627776:=(by simpa using hb);simp [h1,h2,h3]
 ·have h1:=hg2 h;simp [h,h1,hb]
@[simp] theorem vR {l bytes:Nat}{r:List PV}{f0:Fr}(hl:H.length=l)(hf:fr.get key=none)(hb:(rows.length+1)*bytes≤1099511627776):
  xR l key (cH (l,key) es rows) es bytes [r] (f0::eG key es rows fr::H)=some (cH (l,key) es (rows++[r]),f0::eG key es (rows++[r]) fr::H):=by
 subst hl;rw [pZ (fun h=>by subst h;simp [eG,hf]) (fun h=>by simp [dg h]) (by simp;omega) hb];simp [eG];split
 ·rfl
 ·rw [Fr.fe]
theorem WZ {l l0:Nat}(hl:H.length=l)(h:l0<l):canon (clean (eG key es rows fr::H) l0 (cH (l,key) es rows))= .pure (.slice rows):=by
 subst hl;unfold cH;by_cases hr:rows=[]
 ·subst hr;simp
 ·have: ¬H.length≤l0:=(by omega);simp [hr,this,dg hr]
theorem dz {l l0:Nat}{F:Fr}(hl:H.length=l)(h:l0<l)(hF:rows≠[]→F.get key=some (.arr es rows 0 false)):cP (F::H) l0 (cH (l,key) es rows)=if rows=[]then .aR else .pure (.slice rows):=by
 subst hl;unfold cH;by_cases hr:rows=[]
 ·subst hr;simp
 ·have: ¬H.length≤l0:=(by omega);simp [hr,this,hF hr]
@[simp] theorem aeG {i:Nat}(h:i<rows.length):iaS (some (some es)) (cH nm es rows) (i:Int)=some (.eH nm es rows.length i 0):=by
 unfold cH;have hr:rows≠[]:=fun e=>(by subst e;simp at h);simp [hr,h]
end
end
section
def hdQ (h:aj)(k:Fr→aj→Prop):Prop:=match h with|fr::H1=>k fr H1| []=>False
@[simp] theorem ac4 {fr:Fr}{H:aj}{k:Fr→aj→Prop}:hdQ (fr::H) k=k fr H:= .trans rfl rfl
def S8 (x:Option dF)(k:gj→Prop):Prop:=match x with|some (.loop l)=>k l|_=>False
@[simp] theorem Jc {l:gj}{k:gj→Prop}:S8 (some (.loop l)) k=k l:= .trans rfl rfl
def lZ:Code→Option (Code×Code)
 | .seq a b=>match lZ a with|some x=>some x|none=>lZ b
 | .cond _ a b=>match lZ a with|some x=>some x|none=>lZ b
 | .block _ a=>lZ a
 | .loop a=>lZ a
 | .rangeFunc _ _ a b=>some (a,b)
 |_=>none
def rgA (g:Func):Code:=((lZ (g.body.getD .skip)).getD (.skip, .skip)).1
def rgB (g:Func):Code:=((lZ (g.body.getD .skip)).getD (.skip, .skip)).2
section
variable (K:Ctx) (N:FuncId→Nat→List (Nat×Nat))
def oO (nm:Nm)(R:GV×aj→Prop)(e:GX)(st:bN):Prop:=
 hdQ st.h fun _ H2=>S8 (aj.get H2 nm) fun l2=>
  R (match e with
   | .normal=>(.pure (.bool true),aj.set H2 nm (.loop {l2 with state:= .ready,pending:=none}))
   |e=>(.pure (.bool false),aj.set H2 nm (.loop {l2 with state:= .done,pending:=some e})))
def Bf (nm:Nm)(l:gj)(R:GV×aj→Prop)(e:GX)(st:bN):Prop:=
 e= .normal∧hdQ st.h fun fr H1=>S8 (aj.get H1 nm) fun l1=>l1.state= .ready∧
  wp K N l.fn l.body ⟨st.s,fr::aj.set H1 nm (.loop {l1 with state:= .busy}),l.nt⟩ (oO nm R)
theorem Gy {nm:Nm} {args:List GV} {H:aj} {l:gj} {s:bd} {R:GV×aj→Prop} (hl:H.get nm=some (.loop l)) (hr:l.state= .ready) (hp:iE l.eK l.nt l.params (args.map canon)=some s)
  (ha:bz K N l.fn l.assign=true) (hb:bz K N l.fn l.body=true) (h:wp K N l.fn l.assign ⟨s,[]::H,l.nt⟩ (Bf K N nm l R)):kW (ground (aG K) nm args H) R:=by
 obtain⟨e,st,h1,rfl,h2⟩:=ir K N l.fn l.assign h ha;unfold hdQ at h2;split at h2
 ·rename_i fr H1 hst;unfold S8 at h2;split at h2
  ·rename_i l1 hg1;obtain⟨h3,h4⟩:=h2;obtain⟨e2,st2,h5,h6⟩:=ir K N l.fn l.body h4 hb;unfold oO hdQ at h6;split at h6
   ·rename_i fr2 H2 hst2;unfold S8 at h6;split at h6
    ·rename_i l2 hg2;refine⟨_, ?_,h6⟩;simp only [ground,hl,hr,if_true,hp,h1,hst,hg1,h3,ne_eq,not_true_eq_false,if_false,h5,hst2,hg2];cases e2<;>rfl
    ·exact h6.elim
   ·exact h6.elim
  ·exact h2.elim
 ·exact h2.elim
def vS (nm:Nm)(st:bN)(Q:GX→bN→Prop)(H:aj):Prop:=
 S8 (aj.get H nm) fun l=>l.state≠ .busy∧Q (match l.pending with|none=> .normal|some e=>e) {st with h:=aj.set H nm (.loop {l with state:= .exhausted})}
theorem Jd {fn:FuncId} {f:Operand} {ps:Array Tmp} {assign body:Code} {st:bN} {Q:GX→bN→Prop} {nm:Nm} {H1 H2:aj} {v:GV}
  (h1:jg st.h (10000000+ba body) (.loop {eK:=st.s,nt:=st.nt,params:=ps.toList,assign:=assign,body:=body,fn:=fn,state:= .ready,pending:=none})=some (nm,H1))
  (h2:nw K (aG K) (ev st.s f) [.yield nm] 0 H1=some (v,H2)) (h3:vS nm st Q H2):WP K N fn (.rangeFunc f ps assign body) st Q:=fun _=>by
 rw [fL];unfold vS S8 at h3;split at h3
 ·rename_i l hg;obtain⟨h4,h5⟩:=h3;simp only [c7,h1,h2,hg,h4,if_false]
  cases hp:l.pending with
  |none=>rw [hp]at h5;exact⟨_,_,rfl,h5⟩
  |some e=>rw [hp]at h5;exact⟨_,_,rfl,h5⟩
 ·exact h3.elim
end
end
section
structure aS where
 role:Int
 cell:Int
 deriving DecidableEq
structure aY where
 cell:Int
 state:Int
 home:Int
 want:Int
 vT:Bool
 deriving DecidableEq
structure ak where
 bc:Int
 aQ:Int
 kind:Int
 hand:Int
 bh:Int
 cell:Int
 other:Int
 cY:Int
 jV:Int
 deriving DecidableEq
structure bm where
 cell:Int
 state:Int
 deriving DecidableEq
structure aF where
 l:Int
 r:Int
 deriving DecidableEq
structure aC where
 wide:Int
 deep:Int
 ah:List aS
 aa:List aY
 seen:List Int
 aP:List Int
 ai:List ak
 deriving DecidableEq
structure az where
 ah:List Int
 aq:List aF
 aa:List bm
 deriving DecidableEq
def aS.row (p:aS):List PV:=[.int .i64 p.role, .int .i64 p.cell]
def aY.row (t:aY):List PV:=[.int .i64 t.cell, .int .i64 t.state, .int .i64 t.home, .int .i64 t.want, .bool t.vT]
def ak.row (a:ak):List PV:=[.int .i64 a.bc, .int .i64 a.aQ, .int .i64 a.kind, .int .i64 a.hand, .int .i64 a.bh, .int .i64 a.cell, .int .i64 a.other, .int .i64 a.cY, .int .i64 a.jV]
def bm.row (s:bm):List PV:=[.int .i64 s.cell, .int .i64 s.state]
def aF.row (h:aF):List PV:=[.int .i64 h.l, .int .i64 h.r]
def aE (n:Int):List PV:=[.int .i64 n]
def aC.row (r:aC):List PV:=[.int .i64 r.wide, .int .i64 r.deep, .slice (r.ah.map aS.row), .slice (r.aa.map aY.row), .slice (r.seen.map aE), .slice (r.aP.map aE), .slice (r.ai.map ak.row)]
def az.row (s:az):List PV:=[.slice (s.ah.map aE), .slice (s.aq.map aF.row), .slice (s.aa.map bm.row)]
@[simp] theorem OI {f:Nat}:KC.IY f=IX.contains f:= .trans rfl rfl
attribute [simp] IX
section
variable {f c:Nat} {H:aj} {args:List GV} {p:PV}
theorem dp (hc:KC.xS f=false) (hb:KC.Be f=true) (hz:(bu H args).1.map canon=args) (hq:my args=some none) (hfl:iO p=true) (hH:0<H.length)
  (h0: ∀H:aj,0<H.length→bF KC (aG KC) f args c H=some (.pure p,H)):aL KC (aG KC) f args c H=some (.pure p,H):=gQ KC hc hb hz hq hH h0 hfl
end
theorem Bg {K:Ctx}{n:Nat}{f:FuncId}{args:List GV}{c:Nat}{H:aj}{r:GV×aj}(h:aL K (dB K n) f args c H=some r):aL K (aG K) f args c H=some r:=by
 obtain⟨N,hN⟩:=tz K (F:=fun _=>aG K) (rec:=dB K n) (fun fn c st r h=>⟨0,fun _ _=>(kX K).2 (ny K n _ _ _ _ h)⟩) h;exact hN N (Nat.le_refl _)
variable {c:Nat} {H:aj}
def cC (x lo hi:Int):Bool:=decide (lo≤x) && decide (x≤hi)
theorem dx {x lo hi:Int}(hH:0<H.length):aL KC (aG KC) 64 [.pure (.int .i64 x), .pure (.int .i64 lo), .pure (.int .i64 hi)] c H=some (.pure (.bool (cC x lo hi)),H):=by
 refine dp rfl rfl rfl rfl rfl hH fun H hH=> ?_;refine aM (aH KC au Tryz.func64 rfl rfl Wp (by simp) hH ?_);by_cases h:lo≤x
 ·simp [h,cC,ae]
 ·simp [h,cC,ae]
theorem a9 {x lo hi:Int}(hH:0<H.length):aL KC (aG KC) 66 [.pure (.int .i64 x), .pure (.int .i64 lo), .pure (.int .i64 hi)] c H=some (.pure (.bool (cC x lo hi)),H):=by
 refine dp rfl rfl rfl rfl rfl hH fun H hH=> ?_;refine aM (aH KC au Tryz.func66 rfl rfl Wq (by simp) hH ?_);by_cases h:lo≤x
 ·simp [h,cC,ae]
 ·simp [h,cC,ae]
theorem nz {x lo hi:Int}:cC x lo hi=true↔lo≤x∧x≤hi:=by simp [cC]
theorem Gz (fr:Fr)(c:Nat):aL KC (dB KC 4000) 10 [] c [fr,[]]=some (.pure (.bool true),[fr,[]]):=by
 kernel_rfl
theorem Bh (fr:Fr)(c:Nat):aL KC (aG KC) 10 [] c [fr,[]]=some (.pure (.bool true),[fr,[]]):=Bg (Gz fr c)
end
section
variable {c:Nat} {H:aj}
noncomputable def Bi:Int→Int:=mI fun w=>IntKind.u64.wrap (w+11507291218515648293)
theorem GA (w:Int):Bi w=IntKind.u64.wrap (w+11507291218515648293):=by rw [Bi,cO]
def Df (x n:Int):Int:=W0 .u64 x (x.fdiv n)
noncomputable def qC:Int→Int:=mI fun w=>Df (IntKind.u64.wrap (Df (IntKind.u64.wrap (Df (IntKind.u64.wrap (w+11507291218515648293)) 4294967296*15485907386658061715)) 536870912*14029467366897019727)) 4294967296
theorem yo (w:Int):qC w=Df (IntKind.u64.wrap (Df (IntKind.u64.wrap (Df (IntKind.u64.wrap (w+11507291218515648293)) 4294967296*15485907386658061715)) 536870912*14029467366897019727)) 4294967296:=by rw [qC,cO]
theorem OJ (x:Int):0≤IntKind.u64.wrap x∧IntKind.u64.wrap x≤18446744073709551615:=by rw [IntKind.wrap_u64];omega
theorem GB (w:Int):0≤qC w∧qC w≤18446744073709551615:=by rw [yo];exact OJ _
@[simp] theorem ac5:IntKind.u64.bits=64:=rfl
@[simp] theorem ac6:IntKind.i64.bits=64:=rfl
theorem Fh {nm:Nm}(hB:fZ H nm):aL KC (aG KC) 55 [.aA nm 0] c H=some (.pure (.int .u64 (qC (bJ H nm))),H.set nm (bG (Bi (bJ H nm)))):=by
 have hl:=gP hB;have hg:=yn hB;refine aM (aW KC au Tryz.func55 rfl rfl Wj rfl rfl rfl (by simp) (by omega) ?_);have hne: ¬nm.1=H.length:=(by omega);have h1:(IntKind.u64.wrap 32)=32:=rfl;generalize bJ H nm=w at*;unfold bG at*;simp [hne,hl,hg,ae,yo,GA,Df]
noncomputable def lT:Int→Int→Int×Int:=mI fun w n=>
 if n<2 then (0,w)else (IntKind.i64.wrap (((qC w).fdiv 2).tmod (IntKind.u64.wrap n)),Bi w)
theorem zF (w:Int)(n:Int):lT w n=
 (if n<2 then (0,w)else (IntKind.i64.wrap (((qC w).fdiv 2).tmod (IntKind.u64.wrap n)),Bi w)):=by rw [lT,cO]
theorem kO (w n:Int)(h:n≤9223372036854775807):0≤(lT w n).1∧((lT w n).1<n∨(lT w n).1=0):=by
 rw [zF];split
 ·simp
 ·have h1:=GB w;have h2:IntKind.u64.wrap n=n:=(by rw [IntKind.wrap_u64];omega);have h3:0≤(qC w).fdiv 2:=Int.fdiv_nonneg h1.1 (by omega);rw [h2,Int.tmod_eq_emod_of_nonneg h3];have h4:=Int.emod_nonneg ((qC w).fdiv 2) (show n≠0 by omega)
  have h5:=Int.emod_lt_of_pos ((qC w).fdiv 2) (show 0<n by omega)
  rw [cU (by omega) (by omega)];exact⟨h4, .inl h5⟩
theorem kJ {nm:Nm}{n:Int}(hB:fZ H nm)(hn:n≤9223372036854775807):aL KC (aG KC) 24 [.aA nm 0, .pure (.int .i64 n)] c H=some (.pure (.int .i64 (lT (bJ H nm) n).1),H.set nm (bG (lT (bJ H nm) n).2)):=by
 have hl:=gP hB;have hs:=jU hB;refine aM (aW KC au Tryz.func24 rfl rfl V5 rfl rfl rfl (by simp) (by omega) ?_);have hne: ¬nm.1=H.length:=(by omega);by_cases h:n<2
 ·simp [h,zF,hs,ae]
 ·have h2:IntKind.u64.wrap n=n:=(by rw [IntKind.wrap_u64];omega);have h3: ¬n=0:=(by omega);have h4: ¬IntKind.u64.wrap n=0:=(by rw [h2];exact h3);simp [h,zF,Fh (eE hB),dK hl,aj.dR hl,ae,h4]
noncomputable def vU:Int→Int→Int→Int×Int:=mI fun w lo hi=>
 let r:=lT w (IntKind.i64.wrap (IntKind.i64.wrap (hi-lo)+1))
 (IntKind.i64.wrap (lo+r.1),r.2)
theorem Bj (w:Int)(lo:Int)(hi:Int):vU w lo hi=
 (let r:=lT w (IntKind.i64.wrap (IntKind.i64.wrap (hi-lo)+1))
 (IntKind.i64.wrap (lo+r.1),r.2)):=by rw [vU,cO]
theorem OK (x:Int): -9223372036854775808≤IntKind.i64.wrap x∧IntKind.i64.wrap x≤9223372036854775807:=by rw [IntKind.wrap_i64];omega
theorem Bk (w lo hi:Int)(h0: -4611686018427387903≤lo)(h1:hi≤4611686018427387903)(h:lo≤hi):lo≤(vU w lo hi).1∧(vU w lo hi).1≤hi:=by
 rw [Bj];rw [cU (x:=hi-lo) (by omega) (by omega),cU (x:=hi-lo+1) (by omega) (by omega)];have:=kO w (hi-lo+1) (by omega);simp only;rw [cU (by omega) (by omega)];omega
theorem tB {nm:Nm}{lo hi:Int}(hB:fZ H nm):aL KC (aG KC) 26 [.aA nm 0, .pure (.int .i64 lo), .pure (.int .i64 hi)] c H=some (.pure (.int .i64 (vU (bJ H nm) lo hi).1),H.set nm (bG (vU (bJ H nm) lo hi).2)):=by
 have hl:=gP hB;refine aM (aW KC au Tryz.func26 rfl rfl V7 rfl rfl rfl (by simp) (by omega) ?_);have hr:=(OK (IntKind.i64.wrap (hi-lo)+1)).2;simp [Bj,kJ (eE hB) hr,dK hl,aj.dR hl,ae]
noncomputable def zG:Int→Int→Bool×Int:=mI fun w n=>
 ((lT w n).1==0,(lT w n).2)
theorem Je (w:Int)(n:Int):zG w n=
 (((lT w n).1==0,(lT w n).2)):=by rw [zG,cO]
theorem nA {nm:Nm}{n:Int}(hB:fZ H nm)(hn:n≤9223372036854775807):aL KC (aG KC) 52 [.aA nm 0, .pure (.int .i64 n)] c H=some (.pure (.bool (zG (bJ H nm) n).1),H.set nm (bG (zG (bJ H nm) n).2)):=by
 have hl:=gP hB;refine aM (aW KC au Tryz.func52 rfl rfl Wg rfl rfl rfl (by simp) (by omega) ?_);simp [Je,kJ (eE hB) hn,dK hl,aj.dR hl,ae]
noncomputable def yp:Int→List Int→Int×Int:=mI fun w l=>
 if l.length=0 then (0,w)else (l.getD (lT w l.length).1.toNat 0,(lT w l.length).2)
theorem tC (w:Int)(l:List Int):yp w l=
 (if l.length=0 then (0,w)else (l.getD (lT w l.length).1.toNat 0,(lT w l.length).2)):=by rw [yp,cO]
theorem Fi {nm:Nm}{l:List Int}(hB:fZ H nm)(hn:l.length<4611686018427387904):aL KC (aG KC) 54 [.aA nm 0, .pure (.slice (l.map aE))] c H=some (.pure (.int .i64 (yp (bJ H nm) l).1),H.set nm (bG (yp (bJ H nm) l).2)):=by
 have hl:=gP hB;have hs:=jU hB;refine aM (aW KC au Tryz.func54 rfl rfl Wi rfl rfl rfl (by simp) (by omega) ?_);by_cases h:l.length=0
 ·obtain rfl:l=[]:=List.length_eq_zero_iff.1 h;simp [tC,hs,ae]
 ·have h2:((l.length:Int)==0)=false:=beq_eq_false_iff_ne.2 (by omega);have hr:=kO (bJ H nm) l.length (by omega);have h3: ¬(lT (bJ H nm) l.length).1<0:=(by omega);have h4:(lT (bJ H nm) l.length).1.toNat<l.length:=(by have:=hr;clear hl hs hB;omega);simp [h,h2,tC,kJ (eE hB) (show (l.length:Int)≤9223372036854775807 by omega),dK hl,aj.dR hl,ae,h3,h4,aE]
theorem bS {K:Ctx}{f:Nat}{c:Nat}{r:GV}{fr:Fr}(h:K.IY f=true):gn K f c r (fr::H)=(match cL (tD c fr H (dedup (cr fr H.length (refs H.length r))) (H.length-1)) fr H c (dedup (cr fr H.length (refs H.length r))) H with|some H'=>some (vn H.length c r,H')|none=>none):=by
 unfold gn;simp only [h,if_true];rfl
theorem Jf (l:List Int)(hn:l.length≤9223372036854775807)(Q:GX→bN→Prop)(hH:0<H.length): ∀(k i:Nat) (w:Int),i+k=l.length→
  (∀w',Q (.exit 0) ⟨[(3, .aA (H.length,6) 0)],[(6,bG w')]::H,30⟩)→
  fM KC au 12 (lp Tryz.f12 0) [0,3,4] [3] Q [(0, .pure (.slice (l.map aE))),(3, .aA (H.length,6) 0),(4, .pure (.int .i64 i))] ([(6,bG w)]::H) 30:=by
 intro k
 induction k with
 |zero=>
  intro i w hi h1;have hia: ¬i<l.length:=(by omega);apply ax;conv=>arg 4;whnf
  simp [hia,hH];exact h1 w
 |succ k ih=>
  intro i w hi h1;have hia:i<l.length:=(by omega);have hw:=cU (x:=(i:Int)+1) (by omega) (by omega);have ih':=fun w=>ih (i+1) w (by omega) h1;apply ax;conv=>arg 4;whnf
  have T:=fun(v:Int) (c:Nat)=>Fh (c:=c) (H:=[]::[(6,bG v)]::H) (nm:=(H.length,6)) ⟨v,by simp,by simp⟩;simp [bJ,bG]at T;simp [hia,hH,aE,hw,bG,T];simpa [bG]using ih' _
theorem Jg (l:List Int)(hn:l.length≤9223372036854775807)(hH:0<H.length)(hfree:H.get (H.length-1,ao c 6)=none):
  ∃w,aL KC (aG KC) 12 [.pure (.slice (l.map aE))] c H=some (.aA (H.length-1,ao c 6) 0,H.set (H.length-1,ao c 6) (bG w)):=by
 have key:kW (aL KC (aG KC) 12 [.pure (.slice (l.map aE))] c H) (fun x=> ∃w,x=(.aA (H.length-1,ao c 6) 0,H.set (H.length-1,ao c 6) (bG w))):=by
  refine aW KC au Tryz.func12 rfl rfl VW rfl rfl rfl (by simp) hH ?_;have h0:=fun Q hq=>Jf l hn Q hH l.length 0 2685821657736338717 (by omega) hq;simp [bG]at h0;simp;refine h0 _ (fun w=> ?_);simp [bS,OI,refs,dM,dn,cr,dC,dD,dedup,cL,cd,tD,hfree,vn,jW,im];exact⟨w,rfl⟩
 obtain⟨r,e1,w,e2⟩:=key;exact⟨w,by rw [e1,e2]⟩
end
section
variable {c:Nat} {H:aj}
@[simp] theorem afG:IntKind.i64.wrap 1=1:=rfl
@[simp] theorem afH:IntKind.i64.wrap 0=0:=rfl
noncomputable def ct:Int→Int→Int:=mI fun w d=>IntKind.i64.wrap (IntKind.i64.wrap (w*d)-1)
theorem vV (w d:Int):ct w d=IntKind.i64.wrap (IntKind.i64.wrap (w*d)-1):=by rw [ct,cO]
theorem Bl {w d:Int}{x1 x2 x3 x4 x5:PV}(hH:0<H.length):aL KC (aG KC) 130 [.pure (.agg [.int .i64 w, .int .i64 d,x1,x2,x3,x4,x5])] c H=some (.pure (.int .i64 (IntKind.i64.wrap (w*d))),H):=by
 refine dp rfl rfl rfl rfl rfl hH fun H hH=> ?_;refine aM (aH KC au Tryz.func130 rfl rfl Oe (by simp) hH ?_);simp [ae]
theorem gq {w d n:Int}{x1 x2 x3 x4 x5:PV}(hH:0<H.length):aL KC (aG KC) 112 [.pure (.agg [.int .i64 w, .int .i64 d,x1,x2,x3,x4,x5]), .pure (.int .i64 n)] c H=some (.pure (.bool (cC n 0 (ct w d))),H):=by
 refine dp rfl rfl rfl rfl rfl hH fun H hH=> ?_;refine aM (aH KC au Tryz.func112 rfl rfl NV (by simp) hH ?_);simp [ae,Bl,dx,vV]
theorem hZ {w d n:Int}{x1 x2 x3 x4 x5:PV}(hH:0<H.length):aL KC (aG KC) 113 [.pure (.agg [.int .i64 w, .int .i64 d,x1,x2,x3,x4,x5]), .pure (.int .i64 n)] c H=some (.pure (.bool (cC n 0 (ct w d))),H):=by
 refine dp rfl rfl rfl rfl rfl hH fun H hH=> ?_;refine aM (aH KC au Tryz.func113 rfl rfl NW (by simp) hH ?_);simp [ae,a9,vV]
def bB (g:Nat→Int):Nat→Nat→Int
 |0,_=>0
 |k+1,i=>if g i≠0 then g i else bB g k (i+1)
noncomputable def kg:(Int→Bool)→Int→List Int→Nat→Int:=mI fun p e l i=>if p (l.getD i 0)=false then e else if 0<i∧l.getD i 0≤l.getD (i-1) 0 then 11 else 0
theorem sa (p:Int→Bool)(e:Int)(l:List Int)(i:Nat):kg p e l i=if p (l.getD i 0)=false then e else if 0<i∧l.getD i 0≤l.getD (i-1) 0 then 11 else 0:=by rw [kg,cO]
theorem Jh (l:List Int) (hn:l.length≤4611686018427387904) (p:Int→Bool) (e:Int) (he0:e≠0) (g:GV) (hg: ∀(x:Int) (c:Nat) (fr:Fr),ez KC (aG KC) g [.pure (.int .i64 x)] c (fr::H)=some (.pure (.bool (p x)),fr::H))
  (hcl: ∀fr,clean (fr::H) (H.length-1) g=g) (Q:GX→bN→Prop) (hH:0<H.length): ∀k i:Nat,i+k=l.length→
  (bB (kg p e l) k i=0→Q (.exit 0) ⟨[(6,aN)],H,35⟩)→(bB (kg p e l) k i≠0→Q .ret ⟨[(6, .pure (.int .i64 (bB (kg p e l) k i)))],H,35⟩)→
  fM KC au 123 (lp Tryz.f123 0) [0,1,2,9,10,11] [6] Q [(0, .pure (.slice (l.map aE))),(1,g),(2, .pure (.int .i64 e)),(9, .pure (.slice (l.map aE))),(10, .pure (.int .i64 l.length)),(11, .pure (.int .i64 i))] H 35:=by
 intro k
 induction k with
 |zero=>
  intro i hi h1 h2;apply ax;conv=>arg 4;whnf
  have: ¬i<l.length:=(by omega);simp [this,hH];exact h1 rfl
 |succ k ih=>
  intro i hi h1 h2;have hia:i<l.length:=(by omega);have hw:=cU (x:=(i:Int)+1) (by omega) (by omega);have hw2:=cU (x:=(i:Int)-1) (by omega) (by omega);have ih':=ih (i+1) (by omega);unfold bB at h1 h2;have hf:=sa p e l i;have hgi:l.getD i 0=l[i]:=(by simp [List.getD_eq_getElem?_getD,hia]);rw [hgi]at hf;apply ax;conv=>arg 4;whnf
  by_cases hp:p l[i]=true
  ·by_cases h0:0<i
   ·have h0':(0:Int)<i:=(by omega);have hi1:i-1<l.length:=(by omega);have hgi1:l.getD (i-1) 0=l[i-1]:=(by simp [List.getD_eq_getElem?_getD,hi1]);have hnn: ¬(i:Int)-1<0:=(by omega);have htn:((i:Int)-1).toNat=i-1:=(by omega);rw [hgi1]at hf;by_cases hle:l[i]≤l[i-1]
    ·simp [hp,h0,hle]at hf;simp [hf]at h1 h2;simp [hia,hH,aE,hg,hp,hw,hw2,h0,h0',hnn,htn,hi1,hle];exact h2
    ·simp [hp,h0,hle]at hf;simp [hf]at h1 h2;simp [hia,hH,aE,hg,hp,hw,hw2,h0,h0',hnn,htn,hi1,hle,hcl];simpa [aE]using ih' h1 h2
   ·have h00:i=0:=(by omega);simp [hp,h0]at hf;simp [hf]at h1 h2;subst h00;simp [hia,hH,aE,hg,hp,hw,hcl];simpa [aE]using ih' h1 h2
  ·have hp':p l[i]=false:=(by simpa using hp);simp [hp']at hf;simp [hf,he0]at h1 h2;simp [hia,hH,aE,hg,hp'];exact h2
theorem Ji (l:List Int) (hn:l.length≤4611686018427387904) (p:Int→Bool) (e:Int) (he0:e≠0) (g:GV) (hcan:canon g=g) (hfz: ∀H,dr H g=(g,H)) (hg: ∀(x:Int) (c:Nat) (f0 fr:Fr),ez KC (aG KC) g [.pure (.int .i64 x)] c (f0::fr::H)=some (.pure (.bool (p x)),f0::fr::H))
  (hcl: ∀f0 fr,clean (f0::fr::H) (H.length) g=g) (hH:0<H.length):
  aL KC (aG KC) 123 [.pure (.slice (l.map aE)),g, .pure (.int .i64 e)] c H=some (.pure (.int .i64 (bB (kg p e l) l.length 0)),H):=by
 refine aM (aW KC au Tryz.func123 rfl rfl N7 (by simp [bu,hfz]) rfl rfl (by simp) hH ?_);simp [hcan];refine Jh (H:=[]::H) l hn p e he0 g (fun x c fr=>hg x c fr []) (fun fr=>by simpa using hcl fr []) _ (by simp) l.length 0 (by omega) (fun h=> ?_) (fun h=> ?_)
 ·simp [h,ae]
 ·simp [ae]
theorem Jj {w d x:Int}{x1 x2 x3 x4 x5:PV}{nm:Nm}(hg:H.get nm=some (.box [.pure (.int .i64 w), .pure (.int .i64 d), .pure x1, .pure x2, .pure x3, .pure x4, .pure x5])):
  aL KC (aG KC) 124 [.pure (.int .i64 x), .aA nm 0] c H=some (.pure (.bool (cC x 0 (ct w d))),H):=by
 have hl:nm.1<H.length:=aj.bP hg;have hne: ¬nm.1=H.length:=(by omega);refine aM (aW KC au Tryz.func124 rfl rfl N8 rfl rfl rfl (by simp) (by omega) ?_);simp [ae,gq,hg,hne]
theorem Jk {x:Int}(hH:0<H.length):
  aL KC (aG KC) 125 [.pure (.int .i64 x)] c H=some (.pure (.bool (cC x 1 3)),H):=by
 refine aM (aW KC au Tryz.func125 rfl rfl N9 rfl rfl rfl (by simp) hH ?_);simp [ae,dx]
def dh (ps:List aS)(i:Nat)(x:Int):Bool:=(ps.take i).any fun q=>q.cell==x
noncomputable def ia:Int→List aS→Nat→Int:=mI fun t ps i=>
 if cC (ps.getD i ⟨0,0⟩).role 1 3=false then 4 else if cC (ps.getD i ⟨0,0⟩).cell 0 t=false then 7 else if dh ps i (ps.getD i ⟨0,0⟩).cell=true then 12 else 0
theorem oP (t:Int)(ps:List aS)(i:Nat):ia t ps i=
 if cC (ps.getD i ⟨0,0⟩).role 1 3=false then 4 else if cC (ps.getD i ⟨0,0⟩).cell 0 t=false then 7 else if dh ps i (ps.getD i ⟨0,0⟩).cell=true then 12 else 0:=by rw [ia,cO]
noncomputable def iP:Int→List aY→Nat→Int:=mI fun t ts i=>
 if cC (ts.getD i ⟨0,0,0,0,false⟩).cell 0 t=false∨cC (ts.getD i ⟨0,0,0,0,false⟩).home 0 t=false then 7 else if cC (ts.getD i ⟨0,0,0,0,false⟩).state 0 15=false∨cC (ts.getD i ⟨0,0,0,0,false⟩).want 0 15=false then 2 else 0
theorem qT (t:Int)(ts:List aY)(i:Nat):iP t ts i=
 if cC (ts.getD i ⟨0,0,0,0,false⟩).cell 0 t=false∨cC (ts.getD i ⟨0,0,0,0,false⟩).home 0 t=false then 7 else if cC (ts.getD i ⟨0,0,0,0,false⟩).state 0 15=false∨cC (ts.getD i ⟨0,0,0,0,false⟩).want 0 15=false then 2 else 0:=by rw [iP,cO]
noncomputable def oQ:aC→Int:=mI fun r=>
 if cC r.wide 1 6=false∨cC r.deep 1 6=false then 2 else if r.ah.length=0 then 6 else if 4<r.ah.length then 8
 else if bB (ia (ct r.wide r.deep) r.ah) r.ah.length 0≠0 then bB (ia (ct r.wide r.deep) r.ah) r.ah.length 0
 else if 8<r.aa.length then 8
 else if bB (iP (ct r.wide r.deep) r.aa) r.aa.length 0≠0 then bB (iP (ct r.wide r.deep) r.aa) r.aa.length 0
 else if bB (kg (fun x=>cC x 0 (ct r.wide r.deep)) 7 r.seen) r.seen.length 0≠0 then bB (kg (fun x=>cC x 0 (ct r.wide r.deep)) 7 r.seen) r.seen.length 0
 else bB (kg (fun x=>cC x 1 3) 4 r.aP) r.aP.length 0
theorem tE (r:aC):oQ r=
 if cC r.wide 1 6=false∨cC r.deep 1 6=false then 2 else if r.ah.length=0 then 6 else if 4<r.ah.length then 8
 else if bB (ia (ct r.wide r.deep) r.ah) r.ah.length 0≠0 then bB (ia (ct r.wide r.deep) r.ah) r.ah.length 0
 else if 8<r.aa.length then 8
 else if bB (iP (ct r.wide r.deep) r.aa) r.aa.length 0≠0 then bB (iP (ct r.wide r.deep) r.aa) r.aa.length 0
 else if bB (kg (fun x=>cC x 0 (ct r.wide r.deep)) 7 r.seen) r.seen.length 0≠0 then bB (kg (fun x=>cC x 0 (ct r.wide r.deep)) 7 r.seen) r.seen.length 0
 else bB (kg (fun x=>cC x 1 3) 4 r.aP) r.aP.length 0:=by rw [oQ,cO]
def aD (r:aC):dF:= .box [.pure (.int .i64 r.wide), .pure (.int .i64 r.deep), .pure (.slice (r.ah.map aS.row)), .pure (.slice (r.aa.map aY.row)), .pure (.slice (r.seen.map aE)), .pure (.slice (r.aP.map aE)), .pure (.slice (r.ai.map ak.row))]
theorem qD (ps:List aS)(i:Nat)(h:i<ps.length)(x:Int):dh ps (i+1) x=(dh ps i x||ps[i].cell==x):=by
 unfold dh;rw [List.take_succ_eq_append_getElem h,List.any_append];simp
theorem GC (ps:List aS)(n:Nat)(hn:n≤ps.length)(hl:ps.length≤4)(p:aS)(r:aC)(g30 g31 g32:PV)(Q:GX→bN→Prop)(f0:Fr)(hf0:f0=[(4, .box [.pure (.int .i64 p.role), .pure (.int .i64 p.cell)])]):
  ∀k i:Nat,i+k=n→dh ps i p.cell=false→
  (dh ps n p.cell=false→Q (.exit 4) ⟨[(1, .aA (H.length,1) 0),(2,aN),(30, .pure g30),(31, .pure g31),(32, .pure g32)],f0::[(1,aD r)]::H,106⟩)→
  (dh ps n p.cell=true→Q .ret ⟨[(1, .aA (H.length,1) 0),(2, .pure (.int .i64 12)),(30, .pure g30),(31, .pure g31),(32, .pure g32)],f0::[(1,aD r)]::H,106⟩)→
  fM KC au 89 (lp Tryz.f89 1) [1,4,30,31,32,51,52,53] [1,2,30,31,32] Q
   [(1, .aA (H.length,1) 0),(4, .aA (H.length+1,4) 0),(30, .pure g30),(31, .pure g31),(32, .pure g32),(51, .pure (.slice ((ps.take n).map aS.row))),(52, .pure (.int .i64 n)),(53, .pure (.int .i64 i))] (f0::[(1,aD r)]::H) 106:=by
 subst hf0;intro k
 induction k with
 |zero=>
  intro i hi hs h1 h2;have e:i=n:=(by omega);subst e;apply ax;conv=>arg 4;whnf
  simp [aD];exact h1 hs
 |succ k ih=>
  intro i hi hs h1 h2;have hin:i<n:=(by omega);have hil:i<ps.length:=(by omega);have hw:=cU (x:=(i:Int)+1) (by omega) (by omega);have hs1:=qD ps i hil p.cell;apply ax;conv=>arg 4;whnf
  by_cases he:ps[i].cell=p.cell
  ·have ht:dh ps n p.cell=true:=by
    unfold dh;rw [List.any_eq_true];exact⟨ps[i],List.mem_take_iff_getElem.2 ⟨i,by omega,rfl⟩,by simp [he]⟩
   simp [hin,hil,hw,aD,aS.row,he];exact h2 ht
  ·have hs':dh ps (i+1) p.cell=false:=(by rw [hs1,hs];simpa using he);have he':(ps[i].cell==p.cell)=false:=(by simpa using he);simp [hin,hil,hw,aD,aS.row,he'];simpa [aD]using ih (i+1) (by omega) hs' h1 h2
end
section
variable {c:Nat} {H:aj}
theorem Bm (r:aC)(hl:r.ah.length≤4)(Q:GX→bN→Prop): ∀k i:Nat,i+k=r.ah.length→
  (bB (ia (ct r.wide r.deep) r.ah) k i=0→Q (.exit 1) ⟨[(1, .aA (H.length,1) 0),(2,aN)],[(1,aD r)]::H,106⟩)→
  (bB (ia (ct r.wide r.deep) r.ah) k i≠0→Q .ret ⟨[(1, .aA (H.length,1) 0),(2, .pure (.int .i64 (bB (ia (ct r.wide r.deep) r.ah) k i)))],[(1,aD r)]::H,106⟩)→
  fM KC au 89 (lp Tryz.f89 0) [1,30,31,32] [1,2] Q
   [(1, .aA (H.length,1) 0),(30, .pure (.slice (r.ah.map aS.row))),(31, .pure (.int .i64 r.ah.length)),(32, .pure (.int .i64 i))] ([(1,aD r)]::H) 106:=by
 intro k
 induction k with
 |zero=>
  intro i hi h1 h2;apply ax;conv=>arg 4;whnf
  have: ¬i<r.ah.length:=(by omega);simp [this];exact h1 rfl
 |succ k ih=>
  intro i hi h1 h2;have hia:i<r.ah.length:=(by omega);have hw:=cU (x:=(i:Int)+1) (by omega) (by omega);have ih':=ih (i+1) (by omega);unfold bB at h1 h2;have hf:=oP (ct r.wide r.deep) r.ah i;have hgi:r.ah.getD i ⟨0,0⟩=r.ah[i]:=(by simp [List.getD_eq_getElem?_getD,hia]);rw [hgi]at hf;have hmin:min i r.ah.length=i:=(by omega);have hile:i≤r.ah.length:=(by omega);have hnn: ¬(r.ah.length:Int)<i:=(by omega);apply ax;conv=>arg 4;whnf
  by_cases h3:cC r.ah[i].role 1 3=true
  ·by_cases h4:cC r.ah[i].cell 0 (ct r.wide r.deep)=true
   ·simp [hia,hile,hmin,aS.row,aD,dx,gq,h3,h4];have L:=fun Q=>GC (H:=H) r.ah i (by omega) hl r.ah[i] r (.slice (r.ah.map aS.row)) (.int .i64 r.ah.length) (.int .i64 i) Q _ rfl i 0 (by omega) (by simp [dh]);simp [aD]at L;refine L _ (fun h5=> ?_) (fun h5=> ?_)
    ·simp [h3,h4,h5]at hf;simp [hf]at h1 h2;simp [hw];simpa [aD]using ih' h1 h2
    ·simp [h3,h4,h5]at hf;simp [hf]at h1 h2;simp;simpa [aD]using h2
   ·have h4':cC r.ah[i].cell 0 (ct r.wide r.deep)=false:=(by simpa using h4);simp [h3,h4']at hf;simp [hf]at h1 h2;simp [hia,aS.row,aD,dx,gq,h3,h4'];simpa [aD]using h2
  ·have h3':cC r.ah[i].role 1 3=false:=(by simpa using h3);simp [h3']at hf;simp [hf]at h1 h2;simp [hia,aS.row,aD,dx,gq,h3'];simpa [aD]using h2
theorem Dg (r:aC)(hl:r.aa.length≤8)(Q:GX→bN→Prop): ∀k i:Nat,i+k=r.aa.length→
  (bB (iP (ct r.wide r.deep) r.aa) k i=0→Q (.exit 6) ⟨[(1, .aA (H.length,1) 0),(2,aN)],[(1,aD r)]::H,106⟩)→
  (bB (iP (ct r.wide r.deep) r.aa) k i≠0→Q .ret ⟨[(1, .aA (H.length,1) 0),(2, .pure (.int .i64 (bB (iP (ct r.wide r.deep) r.aa) k i)))],[(1,aD r)]::H,106⟩)→
  fM KC au 89 (lp Tryz.f89 2) [1,69,70,71] [1,2] Q
   [(1, .aA (H.length,1) 0),(69, .pure (.slice (r.aa.map aY.row))),(70, .pure (.int .i64 r.aa.length)),(71, .pure (.int .i64 i))] ([(1,aD r)]::H) 106:=by
 intro k
 induction k with
 |zero=>
  intro i hi h1 h2;apply ax;conv=>arg 4;whnf
  have: ¬i<r.aa.length:=(by omega);simp [this];exact h1 rfl
 |succ k ih=>
  intro i hi h1 h2;have hia:i<r.aa.length:=(by omega);have hw:=cU (x:=(i:Int)+1) (by omega) (by omega);have ih':=ih (i+1) (by omega);unfold bB at h1 h2;have hf:=qT (ct r.wide r.deep) r.aa i;have hgi:r.aa.getD i ⟨0,0,0,0,false⟩=r.aa[i]:=(by simp [List.getD_eq_getElem?_getD,hia]);rw [hgi]at hf;apply ax;conv=>arg 4;whnf
  cases h3:cC r.aa[i].cell 0 (ct r.wide r.deep)with
  |false=>
   simp [h3]at hf;simp [hf]at h1 h2;simp [hia,aY.row,aD,dx,gq,h3];simpa [aD]using h2
  |true=>
   cases h4:cC r.aa[i].home 0 (ct r.wide r.deep)with
   |false=>
    simp [h3,h4]at hf;simp [hf]at h1 h2;simp [hia,aY.row,aD,dx,gq,h3,h4];simpa [aD]using h2
   |true=>
    cases h5:cC r.aa[i].state 0 15 with
    |false=>
     simp [h3,h4,h5]at hf;simp [hf]at h1 h2;simp [hia,aY.row,aD,dx,gq,h3,h4,h5];simpa [aD]using h2
    |true=>
     cases h6:cC r.aa[i].want 0 15 with
     |false=>
      simp [h3,h4,h5,h6]at hf;simp [hf]at h1 h2;simp [hia,aY.row,aD,dx,gq,h3,h4,h5,h6];simpa [aD]using h2
     |true=>
      simp [h3,h4,h5,h6]at hf;simp [hf]at h1 h2;simp [hia,aY.row,aD,dx,gq,h3,h4,h5,h6,hw];simpa [aD]using ih' h1 h2
theorem cI (r:aC):r.row=[.int .i64 r.wide, .int .i64 r.deep, .slice (r.ah.map aS.row), .slice (r.aa.map aY.row), .slice (r.seen.map aE), .slice (r.aP.map aE), .slice (r.ai.map ak.row)]:=rfl
theorem OL (r:aC){x:Int}{nm:Nm}(hg:H.get nm=some (aD r)):aL KC (aG KC) 124 [.pure (.int .i64 x), .aA nm 0] c H=some (.pure (.bool (cC x 0 (ct r.wide r.deep))),H):=Jj hg
theorem zH (r:aC)(h1:r.seen.length≤1000000)(h2:r.aP.length≤1000000)(h3:r.ah.length≤1000000)(h4:r.aa.length≤1000000)(hH:0<H.length):
  aL KC (aG KC) 89 [.pure (.agg r.row)] c H=some (.pure (.int .i64 (oQ r)),H):=by
 refine dp rfl rfl rfl rfl rfl hH fun H hH=> ?_;refine aM (aH KC au Tryz.func89 rfl rfl WM (by simp) hH ?_);have hr:=tE r;rw [cI]
 cases e1:cC r.wide 1 6 with
 |false=>
  simp [e1]at hr;simp [dx,e1,ae,hr]
 |true=>
 cases e2:cC r.deep 1 6 with
 |false=>
  simp [e1,e2]at hr;simp [dx,e1,e2,ae,hr]
 |true=>
 by_cases e3:r.ah.length=0
 ·have e3':r.ah=[]:=List.length_eq_zero_iff.1 e3;simp [e1,e2,e3,e3']at hr;simp [dx,e1,e2,e3,e3',ae,hr]
 have e3':((r.ah.length:Int)==0)=false:=beq_eq_false_iff_ne.2 (by omega);by_cases e4:4<r.ah.length
 ·have e4':(4:Int)<r.ah.length:=(by omega);simp [e1,e2,e3,e4]at hr;simp [dx,e1,e2,e3,e3',e4,e4',ae,hr]
 have e4': ¬(4:Int)<r.ah.length:=(by omega);simp only [e1,e2,e3,e4,Bool.true_eq_false,or_self,if_false]at hr;simp [dx,e1,e2,e3,e3',e4,e4'];have L:=fun Q=>Bm (H:=H) r (by omega) Q r.ah.length 0 (by omega);simp [aD]at L;refine L _ (fun z1=> ?_) (fun z1=> ?_)
 ·by_cases e5:8<r.aa.length
  ·have e5':(8:Int)<r.aa.length:=(by omega);simp [z1,e5]at hr;simp [e5',e5,ae,hr]
  ·have e5': ¬(8:Int)<r.aa.length:=(by omega);simp only [z1,e5,ne_eq,not_true_eq_false,if_false]at hr;simp [e5',e5];have L2:=fun Q=>Dg (H:=H) r (by omega) Q r.aa.length 0 (by omega);simp [aD]at L2;refine L2 _ (fun z2=> ?_) (fun z2=> ?_)
   ·simp only [z2,ne_eq,not_true_eq_false,if_false]at hr;have A:=fun c=>Ji (c:=c) (H:=[(1,aD r)]::H) r.seen (by omega) (fun x=>cC x 0 (ct r.wide r.deep)) 7 (by decide) (.func 124 [] [.aA (H.length,1) 0]) rfl (fun _=>rfl) (fun x c f0 fr=>by
     rw [se];exact OL r (by simp)) (fun f0 fr=>by simp) (by simp)
    have B:=fun(H:aj) c (hH:0<H.length)=>Ji (c:=c) (H:=H) r.aP (by omega) (fun x=>cC x 1 3) 4 (by decide) (.pure (.fn 125)) rfl (fun _=>rfl) (fun x c f0 fr=>by
     rw [vW];exact Jk (by simp)) (fun f0 fr=>by simp) hH
    simp [aD]at A;by_cases z3:bB (kg (fun x=>cC x 0 (ct r.wide r.deep)) 7 r.seen) r.seen.length 0=0
    ·simp only [z3,ne_eq,not_true_eq_false,if_false]at hr;simp [A,z3,B,ae,hr]
    ·have z3':(bB (kg (fun x=>cC x 0 (ct r.wide r.deep)) 7 r.seen) r.seen.length 0 !=0)=true:=(by simpa using z3);simp only [z3,ne_eq,not_false_eq_true,if_true]at hr;simp [A,z3,z3',ae,hr]
   ·simp [z2]at hr;simp [ae,hr]
 ·simp [z1]at hr;simp [ae,hr]
end
end Go.Gh
