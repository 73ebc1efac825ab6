/- Texts joined: the evaluator over ghost values, its soundness, the walks. Spaces struck and names made short by a program, for the size. -/
import Derived.Test.YtkcmcjohoockcaaGc8e
import Derived.Test.YtkcmcjohoockcaaProg
import Derived.KernelRfl
import Derived.IntWalk
namespace Go.Gh
open Go.Proofs
set_option linter.unusedVariables false
set_option linter.unusedSimpArgs false
set_option linter.unnecessarySimpa false
set_option maxRecDepth 100000
set_option maxHeartbeats 8000000
section
section
variable {K:Ctx} {fn:FuncId} {rec:Rec} {dst:Option Tmp} {ty:TypeId} {pos:String} {af:Array Edge} {gu:Option (Nat×Bool)} {s:aS} {H:ae}
def vA (P:Program)(t:TypeId):Option (Option Nat×Option Nat×Option Nat):=(cU P t).map fun e=>(aZ P e,iI P e,o6 P e)
def Sr (lv:Option Nat)(k:Nat→Option (GV×ae)):Option (GV×ae):=match lv with|some l=>k l|none=>none
@[congr] theorem TD {lv lv':Option Nat}{k:Nat→Option (GV×ae)}(h: ∀_:Unit,lv=lv'):Sr lv k=Sr lv' k:=by rw [h ()]
@[simp] theorem PE {l:Nat}{k:Nat→Option (GV×ae)}:Sr (some l) k=k l:= .trans rfl rfl
def zZ (ta:Option (Option Nat×Option Nat×Option Nat))(xs:Option (List (List PV)×ae))(k:Nat→Nat→List (List PV)→ae→Option (GV×ae)):Option (GV×ae):=
 match ta,xs with
 |some (some size,some bytes,zs),some (xs,H)=>
  if zs=some size∧(xs.all fun r=>r.length==size)=true∧0<size∧0<bytes∧bytes≤1048576 then k size bytes xs H else none
 |_,_=>none
@[congr] theorem Ss {ta ta':Option (Option Nat×Option Nat×Option Nat)}{xs xs':Option (List (List PV)×ae)}{k:Nat→Nat→List (List PV)→ae→Option (GV×ae)}(h: ∀_:Unit,ta=ta')(h': ∀_:Unit,xs=xs'):zZ ta xs k=zZ ta' xs' k:=by rw [h (),h' ()]
@[simp] theorem Nc {size bytes:Nat}{zs:Option Nat}{xs:List (List PV)}{k:Nat→Nat→List (List PV)→ae→Option (GV×ae)}:zZ (some (some size,some bytes,zs)) (some (xs,H)) k=
  if zs=some size∧(xs.all fun r=>r.length==size)=true∧0<size∧0<bytes∧bytes≤1048576 then k size bytes xs H else none:= .trans rfl rfl
def Eb (l key:Nat)(s:GV)(size bytes:Nat)(xs:List (List PV))(H:ae):Option (GV×ae):=
 match s with
 | .aO=>
  if xs.length*bytes≤1099511627776 then (if xs.isEmpty then some (.aO,H)else rn (hQ H l key (.arr size xs 0 false)) fun nm=> .ay nm size xs.length 0 xs.length)else none
 | .ay nm es top lo len=>
  (match H.get nm with
  |some (.arr es' elems vf ro)=>
   if es'=size∧es=size∧top=elems.length∧lo=0∧len=top∧vf≤top∧ro=false∧(len+xs.length)*bytes≤1099511627776 then
    (if xs.isEmpty then some (.ay nm es top lo len,H)else some (.ay nm es (top+xs.length) 0 (top+xs.length),H.set nm (.arr es' (elems++xs) vf false)))
   else if es'=size∧es=size∧top=elems.length∧vf≤top∧ro=false∧lo+len+xs.length≤top then
    (if xs.isEmpty then some (.ay nm es top lo len,H)else some (.ay nm es top lo (len+xs.length),H.set nm (.arr es' (aD elems (lo+len) xs) top false)))
   else none
  |_=>none)
 |_=>none
@[simp] theorem BP {l key size bytes:Nat}{xs:List (List PV)}:Eb l key .aO size bytes xs H=
  if xs.length*bytes≤1099511627776 then (if xs.isEmpty then some (.aO,H)else rn (hQ H l key (.arr size xs 0 false)) fun nm=> .ay nm size xs.length 0 xs.length)else none:= .trans rfl rfl
def PF (H:ae)(nm:Nm)(es top lo len size bytes:Nat)(xs:List (List PV))(b:Option dW):Option (GV×ae):=match b with
  |some (.arr es' elems vf ro)=>
   if es'=size∧es=size∧top=elems.length∧lo=0∧len=top∧vf≤top∧ro=false∧(len+xs.length)*bytes≤1099511627776 then
    (if xs.isEmpty then some (.ay nm es top lo len,H)else some (.ay nm es (top+xs.length) 0 (top+xs.length),H.set nm (.arr es' (elems++xs) vf false)))
   else if es'=size∧es=size∧top=elems.length∧vf≤top∧ro=false∧lo+len+xs.length≤top then
    (if xs.isEmpty then some (.ay nm es top lo len,H)else some (.ay nm es top lo (len+xs.length),H.set nm (.arr es' (aD elems (lo+len) xs) top false)))
   else none
  |_=>none
@[congr] theorem TE {nm:Nm}{es top lo len size bytes:Nat}{xs:List (List PV)}{b b':Option dW}(h: ∀_:Unit,b=b'):PF H nm es top lo len size bytes xs b=PF H nm es top lo len size bytes xs b':=by rw [h ()]
@[simp] theorem St {nm:Nm}{es top lo len size bytes:Nat}{xs:List (List PV)}{es' vf:Nat}{elems:List (List PV)}{ro:Bool}:PF H nm es top lo len size bytes xs (some (.arr es' elems vf ro))=
      if es'=size∧es=size∧top=elems.length∧lo=0∧len=top∧vf≤top∧ro=false∧(len+xs.length)*bytes≤1099511627776 then
        (if xs.isEmpty then some (.ay nm es top lo len,H)else some (.ay nm es (top+xs.length) 0 (top+xs.length),H.set nm (.arr es' (elems++xs) vf false)))
      else if es'=size∧es=size∧top=elems.length∧vf≤top∧ro=false∧lo+len+xs.length≤top then
        (if xs.isEmpty then some (.ay nm es top lo len,H)else some (.ay nm es top lo (len+xs.length),H.set nm (.arr es' (aD elems (lo+len) xs) top false)))
      else none:= .trans rfl rfl
@[simp] theorem Su {l key size bytes:Nat}{xs:List (List PV)}{nm:Nm}{es top lo len:Nat}:Eb l key (.ay nm es top lo len) size bytes xs H=PF H nm es top lo len size bytes xs (H.get nm):=by
 unfold Eb PF;rfl
theorem vB {l key:Nat}{t:TypeId}{a x:GV}:l5 K H l key t a x=zZ (vA K.P t) (fA H x) (Eb l key a):=by
 unfold l5 vA
 cases cU K.P t with
 |none=>rfl
 |some e=>
  simp only [Option.map_some]
  cases aZ K.P e with
  |none=>rfl
  |some size=>
   cases iI K.P e with
   |none=>rfl
   |some bytes=>
    cases fA H x with
    |none=>rfl
    |some y=>
     obtain⟨xs,H1⟩:=y;simp only [zZ];by_cases hc:o6 K.P e=some size∧(xs.all fun r=>r.length==size)=true∧0<size∧0<bytes∧bytes≤1048576
     ·obtain⟨h1,h2,h3,h4,h5⟩:=hc;simp only [h1,h2,h3,h4,h5,decide_true,Bool.and_self,and_self,if_true];unfold Eb
      cases a with
      |aO=>
       simp only;split
       ·split
        ·rfl
        ·cases hQ H1 l key (.arr size xs 0 false)<;>rfl
       ·rfl
      |ay nm es top lo len=>rfl
      |_=>rfl
     ·rw [if_neg hc,if_neg];intro h;simp only [Bool.and_eq_true,decide_eq_true_eq]at h;exact hc ⟨h.1.1.1.1,h.1.1.1.2,h.1.1.2,h.1.2,h.2⟩
def TF (r:Option Nat)(x:Option (GV×ae))(y:Nat→Option (GV×ae)):Option (GV×ae):=match r with|none=>x|some key=>y key
@[simp] theorem PH {x:Option (GV×ae)}{y:Nat→Option (GV×ae)}:TF none x y=x:= .trans rfl rfl
def Sv (bn:Option Nm)(k:Nm→Option (GV×ae)):Option (GV×ae):=match bn with|some l=>k l|none=>none
@[congr] theorem TG {lv lv':Option Nm}{k:Nm→Option (GV×ae)}(h: ∀_:Unit,lv=lv'):Sv lv k=Sv lv' k:=by rw [h ()]
@[simp] theorem PI {l:Nm}{k:Nm→Option (GV×ae)}:Sv (some l) k=k l:= .trans rfl rfl
def TH:GV→Option Nm| .aA nm _=>some nm|_=>none
@[simp] theorem PJ {nm:Nm}{o:Nat}:TH (.aA nm o)=some nm:= .trans rfl rfl
@[simp] theorem Nd {t:Nat}:mB s (.box t)=TH (look s t):=by
 unfold mB TH;rfl
@[simp] theorem JX {d:Nat}{x y:Operand}{t t2:TypeId}:dw K fn ⟨some d, .call ⟨.builtin .append,#[x,y],#[t,t2]⟩,ty,pos,af,gu⟩ s H=
  if dQ K.P (some t2)=true then TF (K.row fn d) (Sr (gH H s (K.up fn d)) fun l=>zZ (vA K.P t) (fA H (ev s y)) (Eb l d (ev s x))) fun key=>Sv (mB s (K.up fn d)) fun bn=>kZ K H bn key t (ev s x) (ev s y)else none:=by
 show (if dQ K.P (some t2)=true then (match K.row fn d with|none=>(match gH H s (K.up fn d)with|some l=>l5 K H l d t (ev s x) (ev s y)|none=>none)|some key=>(match mB s (K.up fn d)with|some bn=>kZ K H bn key t (ev s x) (ev s y)|none=>none))else none)=_
 split
 ·cases K.row fn d with
  |none=>
   simp only [TF]
   cases gH H s (K.up fn d)with
   |none=>rfl
   |some l=>exact vB
  |some key=>rfl
 ·rfl
@[simp] theorem BQ {n:Nat}:gH H s (.scopes n)=if H.length≤n then none else some (H.length-1-n):= .trans rfl rfl
def TI:GV→Option Nat| .aA nm _=>some nm.1|_=>none
@[simp] theorem PK {nm:Nm}{o:Nat}:TI (.aA nm o)=some nm.1:= .trans rfl rfl
@[simp] theorem HN {t:Nat}:gH H s (.box t)=TI (look s t):=by
 unfold gH TI;rfl
@[simp] theorem JY {l key:Nat}{b:dW}:hQ H l key b=if H.length≤l then none else if (H.get (l,key)).isSome then none else some ((l,key),H.set (l,key) b):=by
 unfold hQ;split
 ·rfl
 ·cases H.get (l,key)<;>simp
@[simp] theorem HP {l:List (List PV)}:fA H (.pure (.slice l))=some (l,H):= .trans rfl rfl
def TJ (H:ae)(x:PV):Option (List (List PV)×ae):=match x with| .slice l=>some (l,H)|_=>none
@[simp] theorem Nf {l:List (List PV)}:TJ H (.slice l)=some (l,H):= .trans rfl rfl
@[simp] theorem JZ {nm:Nm}{es top lo len:Nat}:fA H (.ay nm es top lo len)=TJ H (PL es top lo len (H.get nm)):=by
 rw [←o7];unfold fA TJ;simp only;generalize gI H nm es top lo len=q;cases q<;>rfl
@[simp] theorem Ng {t:TypeId}{x:Operand}{lo hi mx:Option Operand}:dw K fn ⟨dst, .slice t x lo hi mx,ty,pos,af,gu⟩ s H=rv H (hZ K t (ev s x) (lo.map (ev s)) (hi.map (ev s)) (mx.map (ev s))):=by
 simp only [dw,rv];rfl
def TK (es:Option (Option Nat))(a b:Option Nat)(l:List (List PV)):Option GV:=
 match es,a,b with
 |some (some es),some a,some b=>if a≤b∧b≤l.length∧(l.all fun r=>r.length==es)=true then some (.pure (.slice ((l.take b).drop a)))else none
 |_,_,_=>none
@[simp] theorem PM {es a b:Nat}{l:List (List PV)}:TK (some (some es)) (some a) (some b) l=if a≤b∧b≤l.length∧(l.all fun r=>r.length==es)=true then some (.pure (.slice ((l.take b).drop a)))else none:= .trans rfl rfl
@[simp] theorem HQ {t:TypeId}{l:List (List PV)}{lo hi:Option GV}:hZ K t (.pure (.slice l)) lo hi none=TK (dZ K.P t) (cv lo 0) (cv hi l.length) l:=by
 unfold hZ TK dZ;simp only [Option.isSome_none,Bool.false_eq_true,if_false];generalize cv lo 0=a;generalize cv hi l.length=b;rcases a with _|a<;>rcases b with _|b
 ·cases cU K.P t with
  |none=>rfl
  |some e=>simp only [Option.map_some];cases aZ K.P e<;>rfl
 ·cases cU K.P t with
  |none=>rfl
  |some e=>simp only [Option.map_some];cases aZ K.P e<;>rfl
 ·cases cU K.P t with
  |none=>rfl
  |some e=>simp only [Option.map_some];cases aZ K.P e<;>rfl
 ·cases cU K.P t with
  |none=>rfl
  |some e=>
   simp only [Option.map_some]
   cases aZ K.P e with
   |none=>simp
   |some es=>
    simp only;by_cases h:a≤b∧b≤l.length
    ·rw [if_pos h];simp only [h.1,h.2,true_and]
    ·rw [if_neg h,if_neg (fun h'=>h ⟨h'.1,h'.2.1⟩)]
def TL (es:Option (Option Nat))(a b:Option Nat)(nm:Nm)(es' top l0 len:Nat):Option GV:=
 match es,a,b with
 |some es,some a,some b=>if a≤b∧(b≤len∨l0+b≤top)∧es=some es' then (if a=b∧0<a then some (.pure (.slice []))else some (.ay nm es' top (l0+a) (b-a)))else none
 |_,_,_=>none
@[simp] theorem PN {es:Option Nat}{a b:Nat}{nm:Nm}{es' top l0 len:Nat}:TL (some es) (some a) (some b) nm es' top l0 len=if a≤b∧(b≤len∨l0+b≤top)∧es=some es' then (if a=b∧0<a then some (.pure (.slice []))else some (.ay nm es' top (l0+a) (b-a)))else none:= .trans rfl rfl
@[simp] theorem J0 {t:TypeId}{nm:Nm}{es top l0 len:Nat}{lo hi:Option GV}:hZ K t (.ay nm es top l0 len) lo hi none=TL (dZ K.P t) (cv lo 0) (cv hi len) nm es top l0 len:=by
 unfold hZ TL dZ;simp only [Option.isSome_none,Bool.false_eq_true,if_false];generalize cv lo 0=a;generalize cv hi len=b
 cases cU K.P t with
 |none=>cases a<;>cases b<;>rfl
 |some e=>cases a<;>cases b<;>rfl
def TM (es:Option (Option Nat))(a:Option Nat)(b m:Int)(x:GV):Option GV:=
 match es,a with
 |some (some es'),some a=>
  (match x with
  | .aO=>if a=0∧b=0∧m=0 then some .aO else none
  | .pure (.slice _)=>if a=0∧b=0∧m=0 then some .aO else none
  | .ay nm es top l0 len=>
   if a=0∧b=0∧m=0 then some .aO
   else if (a:Int)<b∧b≤m∧m=len∧l0+len=top∧es'=es then some (.ay nm es top (l0+a) (b.toNat-a))else none
  |_=>none)
 |_,_=>none
@[simp] theorem Sw {es' a:Nat}{b m:Int}{nm:Nm}{es top l0 len:Nat}:TM (some (some es')) (some a) b m (.ay nm es top l0 len)=
  if a=0∧b=0∧m=0 then some .aO
  else if (a:Int)<b∧b≤m∧m=len∧l0+len=top∧es'=es then some (.ay nm es top (l0+a) (b.toNat-a))else none:= .trans rfl rfl
@[simp] theorem J1 {t:TypeId}{x:GV}{lo:Option GV}{k k':IntKind}{b m:Int}:hZ K t x lo (some (.pure (.int k b))) (some (.pure (.int k' m)))=TM (dZ K.P t) (cv lo 0) b m x:=by
 unfold hZ TM dZ;simp only [Option.isSome_some,if_true];generalize cv lo 0=a
 cases cU K.P t with
 |none=>cases a<;>rfl
 |some e=>
  simp only [Option.map_some]
  cases a with
  |none=>cases aZ K.P e<;>rfl
  |some a=>
   simp only
   cases aZ K.P e with
   |none=>rfl
   |some es=>
    cases x with
    |pure p=>cases p<;>rfl
    |_=>rfl
def z8 (e:Option Nat)(z:Option (List PV))(H:ae)(x:GV):Option ae:=
 match e,z,x with
 |some size,some ps, .ay nm es top lo len=>
  (match H.get nm with
  |some (.arr es' elems vf ro)=>if es'=size∧es=size∧ps.length=size∧top=elems.length∧vf≤top∧ro=false∧lo+len≤top∧0<len then some (H.set nm (.arr es' (aD elems lo (List.replicate len ps)) top false))else none
  |_=>none)
 |_,_,_=>none
def BR (P:Program)(t:TypeId):Option (Option Nat×Option (List PV)):=(cU P t).map fun e=>(aZ P e,match b8 P e with|some z=>(match bm z with|some zs=>bd (zs.map cb)|none=>none)|none=>none)
def BT (r:Option (Option Nat×Option (List PV)))(H:ae)(x:GV):Option ae:=match r with|some (e,z)=>z8 e z H x|none=>none
@[simp] theorem Nh {e:Option Nat}{z:Option (List PV)}{x:GV}:BT (some (e,z)) H x=z8 e z H x:= .trans rfl rfl
def EP (H:ae)(size:Nat)(ps:List PV)(nm:Nm)(es top lo len:Nat)(b:Option dW):Option ae:=match b with
  |some (.arr es' elems vf ro)=>if es'=size∧es=size∧ps.length=size∧top=elems.length∧vf≤top∧ro=false∧lo+len≤top∧0<len then some (H.set nm (.arr es' (aD elems lo (List.replicate len ps)) top false))else none
  |_=>none
@[congr] theorem Sx {size:Nat}{ps:List PV}{nm:Nm}{es top lo len:Nat}{b b':Option dW}(h: ∀_:Unit,b=b'):EP H size ps nm es top lo len b=EP H size ps nm es top lo len b':=by rw [h ()]
@[simp] theorem PO {size:Nat}{ps:List PV}{nm:Nm}{es top lo len:Nat}{es' vf:Nat}{elems:List (List PV)}{ro:Bool}:EP H size ps nm es top lo len (some (.arr es' elems vf ro))=
  if es'=size∧es=size∧ps.length=size∧top=elems.length∧vf≤top∧ro=false∧lo+len≤top∧0<len then some (H.set nm (.arr es' (aD elems lo (List.replicate len ps)) top false))else none:= .trans rfl rfl
@[simp] theorem PQ {size:Nat}{ps:List PV}{nm:Nm}{es top lo len:Nat}:z8 (some size) (some ps) H (.ay nm es top lo len)=EP H size ps nm es top lo len (H.get nm):= .trans rfl rfl
theorem xH {t:TypeId}{x:GV}:oy K t H x=BT (BR K.P t) H x:=by
 unfold oy BR
 cases cU K.P t with
 |none=>rfl
 |some e=>
  simp only [Option.map_some,BT]
  cases aZ K.P e with
  |none=>rfl
  |some size=>
   cases b8 K.P e with
   |none=>cases x<;>rfl
   |some z=>
    cases x with
    |ay nm es top lo len=>
     simp only
     cases bm z with
     |none=>rfl
     |some zs=>
      simp only
      cases hg:H.get nm with
      |none=>cases bd (zs.map cb)<;>simp only [z8,hg]
      |some b=>
       cases b with
       |arr es' elems vf ro=>simp only;cases bd (zs.map cb)<;>simp only [z8,hg]
       |_=>cases bd (zs.map cb)<;>simp only [z8,hg]
    |_=>
     simp only;generalize (match bm z with|some zs=>bd (zs.map cb)|none=>none)=ps
     cases ps<;>rfl
@[simp] theorem Ni {x:Operand}{t:TypeId}:dw K fn ⟨dst, .call ⟨.builtin .clear,#[x],#[t]⟩,ty,pos,af,gu⟩ s H=(BT (BR K.P t) H (ev s x)).map fun H=>(GV.pure (.tuple []),H):=by
 show (match oy K t H (ev s x)with|some H=>some (GV.pure (.tuple []),H)|none=>none)=_
 rw [xH];cases BT (BR K.P t) H (ev s x)<;>rfl
@[simp] theorem HR {d:Nat}:cv none d=some d:= .trans rfl rfl
@[simp] theorem HS {k:IntKind}{i:Int}{d:Nat}:cv (some (.pure (.int k i))) d=if i<0 then none else some i.toNat:= .trans rfl rfl
def sF (P:Program)(t:TypeId):Option (Option Nat×Option (List GV)):=(cU P t).map fun e=>(aZ P e,qn (b8 P e))
def PR (own:Bool)(d:Nat)(H:ae)(size len:Nat)(cs:List GV)(ps:Option (List PV)):Option (GV×ae):=
 match ps with
 |some ps=>if own then rn (fK H d (.arr size (chunks size len ps) 0 false)) (fun nm=> .ay nm size len 0 len)else some (.pure (.slice (chunks size len ps)),H)
 |none=>if own then rn (fK (bp H cs).2 d (.arr size (chunks size len (bp H cs).1) 0 false)) (fun nm=> .ay nm size len 0 len)else some (.lits (chunks size len cs),H)
def TN (own:Bool)(d:Nat)(H:ae)(size len:Nat)(x:Option (List GV)):Option (GV×ae):=match x with
 |some cs=>if len=0 then some (.aO,H)else PR own d H size len cs (bd (cs.map cb))
 |none=>none
def UG (own:Bool)(d:Nat)(H:ae)(len:Nat)(ps:List (Nat×GV))(tl:Option (Option Nat×Option (List GV))):Option (GV×ae):=match tl with
 |some (some size,some zs)=>if zs.length=size∧0<size∧len*size≤16777216 then TN own d H size len (db (fun i=>some (i*size,size)) (List.replicate len zs).flatten ps)else none
 |_=>none
@[simp] theorem ER {d size len:Nat}{cs:List GV}{ps:List PV}:PR true d H size len cs (some ps)=rn (fK H d (.arr size (chunks size len ps) 0 false)) (fun nm=> .ay nm size len 0 len):= .trans rfl rfl
@[simp] theorem PS {d size len:Nat}{cs:List GV}{ps:List PV}:PR false d H size len cs (some ps)=some (.pure (.slice (chunks size len ps)),H):= .trans rfl rfl
@[simp] theorem vC {d size len:Nat}{cs:List GV}:PR true d H size len cs none=rn (fK (bp H cs).2 d (.arr size (chunks size len (bp H cs).1) 0 false)) (fun nm=> .ay nm size len 0 len):= .trans rfl rfl
@[simp] theorem BU {own:Bool}{d size len:Nat}{cs:List GV}:TN own d H size len (some cs)=if len=0 then some (.aO,H)else PR own d H size len cs (bd (cs.map cb)):= .trans rfl rfl
@[simp] theorem BV {own:Bool}{d size len:Nat}{zs:List GV}{ps:List (Nat×GV)}:UG own d H len ps (some (some size,some zs))=
  if zs.length=size∧0<size∧len*size≤16777216 then TN own d H size len (db (fun i=>some (i*size,size)) (List.replicate len zs).flatten ps)else none:= .trans rfl rfl
@[simp] theorem BW {d:Nat}{t:TypeId}{n:Nat}{ps:Array (Nat×Operand)}:dw K fn ⟨some d, .buildSlice t n ps,ty,pos,af,gu⟩ s H=UG (K.own fn d) d H n (ps.toList.map (qo s)) (sF K.P t):=by
 simp only [dw,sF]
 cases cU K.P t with
 |none=>rfl
 |some e=>
  simp only [Option.map_some]
  cases aZ K.P e with
  |none=>rfl
  |some size=>
   cases b8 K.P e with
   |none=>rfl
   |some z=>
    simp only [j7]
    cases bm z with
    |none=>rfl
    |some zs=>
     simp only [BV];split
     ·cases db (fun i=>some (i*size,size)) (List.replicate n zs).flatten (ps.toList.map (qo s))with
      |none=>rfl
      |some cs=>
       simp only [BU];split
       ·rfl
       ·cases bd (cs.map cb)with
        |none=>
         simp only
         cases K.own fn d with
         |true=>
          simp only [if_true,vC];cases fK (bp H cs).2 d (.arr size (chunks size n (bp H cs).1) 0 false)<;>rfl
         |false=>rfl
        |some qs=>
         simp only
         cases K.own fn d with
         |true=>
          simp only [if_true,ER];cases fK H d (.arr size (chunks size n qs) 0 false)<;>rfl
         |false=>rfl
     ·rfl
@[simp] theorem HT {α:Type}{es:Nat}{l:List α}:chunks es 0 l=[]:= .trans rfl rfl
@[simp] theorem HU {α:Type}{es n:Nat}{l:List α}:chunks es (n+1) l=l.take es::chunks es n (l.drop es):= .trans rfl rfl
def UP (d:Nat)(H:ae)(a b:GV)(tm:Option (Option Nat×Option Nat×Option (List PV))):Option (GV×ae):=match tm,a,b with
 |some (some size,some bytes,some ps), .pure (.int _ l), .pure (.int _ c)=>if ps.length=size∧0<size∧0<bytes∧0≤l∧l≤c∧c*bytes≤1099511627776 then
   rn (fK H d (.arr size (List.replicate l.toNat ps) 0 false)) (fun nm=> .ay nm size l.toNat 0 l.toNat)else none
 |_,_,_=>none
@[simp] theorem HV {d:Nat}{t:TypeId}:dw K fn ⟨some d, .makeMap t none,ty,pos,af,gu⟩ s H=rn (fK H d (.map [])) .map:=by
 simp only [dw];cases fK H d (.map [])<;>rfl
def PT (ok:Bool)(z:Option GV)(x:Option (Option (Nat×GV))):Option GV:=match x with
 |some (some (_,v))=>some (if ok then mkTuple [v, .pure (.bool true)]else v)
 |some none=>(match z with|some z=>some (if ok then mkTuple [z, .pure (.bool false)]else z)|none=>none)
 |none=>none
@[simp] theorem Sy {ok:Bool}{z:Option GV}{i:Nat}{v:GV}:PT ok z (some (some (i,v)))=some (if ok then mkTuple [v, .pure (.bool true)]else v):= .trans rfl rfl
@[simp] theorem PU {ok:Bool}{z:GV}:PT ok (some z) (some none)=some (if ok then mkTuple [z, .pure (.bool false)]else z):= .trans rfl rfl
def Sz (P:Program)(t:TypeId):Option (TypeId×Option GV):=(sG P t).map fun x=>(x.1,b8 P x.2)
def SA (K:Ctx)(ok:Bool)(tm:Option (TypeId×Option GV))(k:GV)(es:Option (List (PV×GV))):Option GV:=match tm,k,es with
 |some (kt,z), .pure k,some es=>if gb K kt k=false then none else PT ok z (b9 k es 0)
 |_,_,_=>none
@[simp] theorem PW {K:Ctx}{ok:Bool}{kt:TypeId}{z:Option GV}{k:PV}{es:List (PV×GV)}:SA K ok (some (kt,z)) (.pure k) (some es)=if gb K kt k=false then none else PT ok z (b9 k es 0):= .trans rfl rfl
@[simp] theorem J2 {t:TypeId}{x k:Operand}{ok:Bool}:dw K fn ⟨dst, .lookup t x k ok,ty,pos,af,gu⟩ s H=rv H (SA K ok (Sz K.P t) (ev s k) (mapOf H (ev s x))):=by
 have h:nq K t H (ev s x) (ev s k) ok=SA K ok (Sz K.P t) (ev s k) (mapOf H (ev s x)):=by
  unfold nq SA Sz;generalize ev s k=g;generalize mapOf H (ev s x)=m
  cases sG K.P t with
  |none=>rfl
  |some p=>
   obtain⟨kt,e⟩:=p
   cases g with
   |pure q=>
    cases m with
    |none=>rfl
    |some es=>
     simp only [Option.map_some];split
     ·rfl
     ·unfold PT
      cases b9 q es 0 with
      |none=>rfl
      |some y=>cases y<;>rfl
   |_=>cases m<;>rfl
 simp only [dw,h];rfl
def ES (b:Option dW):Option (List (PV×GV)):=match b with|some (.map es)=>some es|_=>none
@[simp] theorem PX {es:List (PV×GV)}:ES (some (.map es))=some es:= .trans rfl rfl
def PY (nm:Nm)(H:ae)(k:PV)(v:GV)(es:List (PV×GV))(x:Option (Option (Nat×GV))):Option ae:=match x with
 |some (some (i,_))=>some (H.set nm (.map (es.set i (k,v))))
 |some none=>some (H.set nm (.map (es++[(k,v)])))
 |none=>none
@[simp] theorem SB {nm:Nm}{k:PV}{v v':GV}{es:List (PV×GV)}{i:Nat}:PY nm H k v es (some (some (i,v')))=some (H.set nm (.map (es.set i (k,v)))):= .trans rfl rfl
@[simp] theorem PZ {nm:Nm}{k:PV}{v:GV}{es:List (PV×GV)}:PY nm H k v es (some none)=some (H.set nm (.map (es++[(k,v)]))):= .trans rfl rfl
def TP (K:Ctx)(kt:TypeId)(nm:Nm)(k:PV)(x:Option (GV×ae)):Option ae:=match x with
 |some (v',H1)=>(match ES (H1.get nm)with|some es=>if gb K kt k=false then none else PY nm H1 k v' es (b9 k es 0)|none=>none)
 |none=>none
@[simp] theorem P0 {K:Ctx}{kt:TypeId}{nm:Nm}{k:PV}{v:GV}:TP K kt nm k (some (v,H))=(match ES (H.get nm)with|some es=>if gb K kt k=false then none else PY nm H k v es (b9 k es 0)|none=>none):= .trans rfl rfl
def P1 (K:Ctx)(tm:Option (TypeId×TypeId))(H:ae)(m k v:GV):Option ae:=match tm,m,k with
 |some (kt,_), .map nm, .pure k=>TP K kt nm k (iJ H nm.1 v)
 |_,_,_=>none
@[simp] theorem Ec {t:TypeId}{m k v:Operand}:dw K fn ⟨dst, .mapUpdate t m k v,ty,pos,af,gu⟩ s H=rh (P1 K (sG K.P t) H (ev s m) (ev s k) (ev s v)):=by
 have h:gA K t H (ev s m) (ev s k) (ev s v)=P1 K (sG K.P t) H (ev s m) (ev s k) (ev s v):=by
  unfold gA P1;generalize ev s m=gm;generalize ev s k=gk
  cases sG K.P t with
  |none=>rfl
  |some p=>
   obtain⟨kt,e⟩:=p
   cases gm with
   |map nm=>
    cases gk with
    |pure q=>
     simp only
     cases iJ H nm.1 (ev s v)with
     |none=>rfl
     |some y=>
      obtain⟨v',H1⟩:=y;simp only [TP,ES]
      cases H1.get nm with
      |none=>rfl
      |some b=>
       cases b with
       |map es=>
        simp only;split
        ·rfl
        ·unfold PY
         cases b9 q es 0 with
         |none=>rfl
         |some y=>cases y<;>rfl
       |_=>rfl
    |_=>rfl
   |_=>rfl
 simp only [dw,h];rfl
@[simp] theorem ET {f:Nat}{a c:Array Operand}:dw K fn ⟨dst, .makeFunc (.func f) a c,ty,pos,af,gu⟩ s H=rv H (some (oz f (a.toList.map (ev s)) (c.toList.map (ev s)))):= .trans rfl rfl
@[simp] theorem J3 {f:Nat}{a:List GV}{g:GV}{c:List GV}:oz f a (g::c)= .func f a (g::c):=by unfold oz;simp
def vD (x:Option GV)(r:Option (List GV)):Option (List GV):=match x,r with|some v,some l=>some (v::l)|_,_=>none
@[simp] theorem J4 {v:GV}{l:List GV}:vD (some v) (some l)=some (v::l):= .trans rfl rfl
def vE (K:Ctx)(st:bE):List ResultVar→Option (List GV)
 | []=>some []
 | .tmp t::r=>vD (some (look st.s t)) (vE K st r)
 | .cell a t::r=>vD (ig K.P t st.h (look st.s a)) (vE K st r)
@[simp] theorem P3 {st:bE}:vE K st []=some []:= .trans rfl rfl
@[simp] theorem BX {st:bE}{t:Nat}{r:List ResultVar}:vE K st (.tmp t::r)=vD (some (look st.s t)) (vE K st r):= .trans rfl rfl
@[simp] theorem z9 {st:bE}{a:Nat}{t:TypeId}{r:List ResultVar}:vE K st (.cell a t::r)=vD (ig K.P t st.h (look st.s a)) (vE K st r):= .trans rfl rfl
@[simp] theorem EU {g:Func}{st:bE}:dB K g st=vE K st g.results.toList:=by
 unfold dB;generalize g.results.toList=l
 induction l with
 |nil=>rfl
 |cons x r ih=>
  cases x with
  |tmp t=>
   simp only [List.mapM_cons,BX,←ih];generalize List.mapM (m:=Option) _ r=q;cases q<;>rfl
  |cell a t=>
   simp only [List.mapM_cons,z9,←ih]
   cases ig K.P t st.h (look st.s a)with
   |none=>rfl
   |some v=>
    generalize List.mapM (m:=Option) _ r=q;cases q<;>rfl
@[simp] theorem xI {id:Nat}{ops:Array Oper}{b:Bool}:aL (.region id ops b)=id+1:= .trans rfl rfl
@[simp] theorem BG {a b:Code}:aL (.seq a b)=if aL a=0 then aL b else aL a:= .trans rfl rfl
theorem aU {α:Type}{x:Option α}{a:α}(h:j5 x (fun r=>r=a)):x=some a:=by
 obtain⟨r,h1,h2⟩:=h;rw [h1,h2]
end
end
def TQ:List (Nat×Nat×List Nat×List Nat):=[(4,7,[3,4,6],[2]),(5,8,[3,4,9],[2,3,4]),(5,13,[3,4,10],[2]),(6,6,[3,4,5,6],[4,5]),(7,9,[3,4,5,6,7,8,9,10,11],[3,4,5,6,7,8,9,10]),(7,13,[3,4,5,6,7,8,9,10,12],[3,4,5,6,7,8,9]),(7,24,[7,8,9,15,16,17,18,19,20],[7,8,9,15,16,17,18,19]),(12,6,[0,6,7,8,9,10],[6,7,8,9]),(12,23,[6,7,8,9,18],[6,7,8]),(12,26,[6,7,8,9,18,19],[6,7,8,9,18]),(12,33,[6,7,8,21],[6,7]),(13,4,[0,3,4],[3]),(15,8,[1,17,18,19],[2]),(17,5,[2,3,5],[2,3,4]),(17,10,[2,3,6],[4]),(19,6,[2,3,5,6],[2,3,4,5]),(19,11,[2,3,5,6,7],[2,3,4,5,6]),(19,19,[2,3,5,9],[4]),(21,5,[2,3,5],[2,3,4]),(21,10,[2,3,6],[4]),(23,5,[0,1,5],[4]),(25,9,[1,2,3,6,9,28,29,30],[3,6,9]),(27,5,[0,1,5],[4]),(30,5,[1,2,3,4],[0]),(32,5,[0,4,5,6,7],[0,4,5]),(32,9,[0,4,5,8],[0,4,5]),(32,16,[0,4,5,10],[4,5]),(33,4,[1,2,3,4],[1,2,3]),(33,8,[1,2,3,5],[2,3]),(35,5,[0,5,6,8,10,11,12],[0,8,10]),(40,10,[1,30,31,32],[1,2]),(40,17,[1,4,30,31,32,51,52,53],[1,2,30,31,32]),(40,26,[1,69,70,71],[1,2]),(46,7,[1,3],[2]),(46,15,[1,3,4,5],[1,2,3]),(47,5,[1,3],[1,2]),(47,13,[1,5],[1,2]),(47,20,[1,6],[2]),(48,5,[1,3],[2]),(48,15,[1,3,4,5],[1,2,3,4]),(49,5,[0,1,5],[4]),(53,3,[0,1,5],[4]),(57,6,[1,24,25],[2,3,4]),(57,9,[1,8,24,25,29,30,31],[1,2,3,4,24,25]),(58,4,[0,1,5,6],[5]),(59,4,[1,2,5,6],[1,2,5]),(59,8,[1,2,5,7],[5]),(59,11,[1,2,5,7,8],[1,2,5,7]),(59,18,[1,2,5,7,8,9,10],[1,2,5,7,8]),(59,24,[1,2,5,7,8,9,11],[1,2,5,7,8]),(60,6,[3,4,5,9],[3,4,5,6]),(61,3,[1,2,5],[4]),(66,3,[0,1,2,9,10,11],[6]),(69,3,[0,1,7,8],[4]),(72,4,[1,2,3,11,12,13],[1,2,3]),(72,10,[2,3,36,37,38],[2,3]),(73,4,[1,2,3,6,9],[3,6,7,8]),(73,6,[1,2,3,6,9,10],[1,2,3,6,9,10]),(74,3,[1,9,10,11],[1,2]),(74,9,[1,21,22,23],[2]),(82,12,[12,16,17,51],[6,7]),(85,3,[0,1,5],[4]),(85,6,[0,1,5,6],[0,1,4,5]),(88,5,[2,4,7,8,19,20,21],[4,5,6,7]),(88,11,[2,4,7,8,9,10,11,19,20,21,35,36,37],[2,4,5,6,7,8,10,11,19,20,21]),(88,17,[2,4,7,8,10,19,20,21,47,48,49],[2,4,7,8,10,19,20,21]),(89,11,[7,8,9],[7]),(90,5,[3,8,9],[8,9]),(98,3,[1,2,4,5],[2,4,5]),(103,3,[0,1,7,8],[4]),(104,4,[1,2,4,5],[]),(104,8,[1,2,4,5,18,19],[1,2,4,5]),(104,13,[1,2,4,5,30],[1,2,4,5]),(104,20,[1,2,4,5,8,30,47,48],[1,2,4,5,30]),(104,26,[1,2,4,5,8,30,62,63],[1,2,4,5,30]),(124,3,[0,1,2,6,7,8],[0,1,2,6,7]),(124,8,[0,1,2,6],[]),(124,10,[0,1,2,6,7,8],[0,1,2,6,7]),(129,2,[0,1,2,3,8],[]),(129,5,[0,1,2,3,8,9],[0,1,2,3,8]),(130,4,[0,1,4,10,11],[0,1,10]),(130,10,[0,10,13],[]),(130,16,[0,2,4,14,15],[0,2,14]),(130,22,[0,14,17],[]),(130,34,[0,1,2,3,4,18,19,20,21,22],[0,1,2,3,4,18,19,20]),(131,3,[0,2,4,10,11],[0,2,4,10]),(132,2,[0,1,2,3,10],[])]
def UN:List (Nat×Nat×Up):=[(7,100, .scopes 1),(8,42, .scopes 0),(8,45, .scopes 0),(8,49, .scopes 0),(11,6, .scopes 0),(11,10, .scopes 0),(11,22, .scopes 0),(12,62, .box 7),(12,102, .box 7),(12,140, .box 7),(25,56, .scopes 1),(29,10, .scopes 0),(29,16, .scopes 0),(31,5, .scopes 0),(32,46, .box 5),(32,83, .box 5),(32,96, .box 5),(33,22, .box 3),(33,27, .box 3),(33,53, .box 3),(35,35, .scopes 1),(35,52, .scopes 1),(36,6, .scopes 0),(36,10, .scopes 0),(36,14, .scopes 0),(51,8, .box 1),(58,20, .scopes 1),(59,26, .scopes 1),(59,43, .scopes 2),(59,58, .scopes 3),(59,76, .scopes 3),(64,61, .box 5),(72,23, .box 3),(72,31, .box 3),(72,51, .box 3),(75,7, .scopes 0),(76,7, .scopes 0),(77,7, .scopes 0),(78,7, .scopes 0),(79,7, .scopes 0),(80,7, .scopes 0),(93,64, .scopes 0),(96,27, .scopes 0),(96,35, .scopes 0),(96,43, .scopes 0),(96,53, .scopes 0),(96,60, .scopes 0),(102,26, .scopes 0)]
def P4 (f r:Nat):Option (List Nat×List Nat):=(TQ.find? fun x=>x.1==f && x.2.1==r).map fun x=>x.2.2
def TR (f d:Nat):Up:=((UN.find? fun x=>x.1==f && x.2.1==d).map fun x=>x.2.2).getD (.scopes 0)
def P5:List (Nat×Nat×List (Nat×Nat)):=[(3,9,[(2,1),(13,12)]),(6,8,[(19,4)]),(7,15,[(7,1),(7,4),(10,1),(10,4),(12,1),(12,4),(15,4)]),(7,20,[(2,0),(4,0)]),(7,25,[(8,4)]),(8,2,[(8,3),(8,5),(11,5)]),(8,4,[(9,4),(9,7)]),(11,1,[(6,3)]),(11,2,[(4,2),(8,2),(8,5)]),(12,20,[(4,0)]),(12,34,[(20,4)]),(29,2,[(7,5)]),(30,6,[(4,0),(8,0)]),(32,6,[(3,1),(6,3),(7,3),(9,3)]),(32,10,[(6,1),(11,1),(11,9),(13,1),(13,9)]),(33,5,[(11,9)]),(36,1,[(6,3),(10,3),(10,7)]),(37,6,[(14,7),(14,9)]),(37,8,[(17,7)]),(37,10,[(7,1),(7,3),(9,7),(11,7),(13,7),(17,9),(17,11),(17,13)]),(38,1,[(3,2),(4,2)]),(50,1,[(3,1)]),(50,3,[(4,2),(4,3)]),(51,1,[(2,0)]),(52,1,[(6,3),(10,3),(10,7)]),(55,1,[(4,2),(7,2),(7,5),(10,2),(10,5),(10,8)]),(82,1,[(5,3),(9,3),(12,5),(12,9)]),(82,3,[(2,1),(3,1)]),(88,20,[(4,2),(5,2)]),(89,5,[(6,2)]),(93,10,[(8,5),(8,6),(9,8),(11,5),(11,6),(12,8),(12,11)]),(95,1,[(4,2),(5,2)]),(98,4,[(3,1)]),(113,1,[(5,2),(8,5),(10,5),(12,5)]),(115,1,[(8,2),(8,4),(9,8),(10,8),(11,2),(11,4)]),(116,1,[(10,7)]),(117,1,[(5,2)]),(118,1,[(14,11),(21,18),(29,26),(37,34)]),(119,1,[(5,2)]),(119,2,[(5,2)]),(120,1,[(8,5)]),(121,1,[(5,2)]),(122,1,[(8,5)]),(123,1,[(5,2)])]
def au (f r:Nat):List (Nat×Nat):=((P5.find? fun x=>x.1==f && x.2.1==r).map fun x=>x.2.2).getD []
def qJ:Nat→Option (List SK)
 |29=>some [.int .i64, .int .i64, .int .i64, .int .i64, .int .i64, .int .i64, .int .i64, .int .i64, .int .i64]
 |53=>some [.int .i64, .int .i64]
 |55=>some [.int .i64, .int .i64]
 |57=>some [.int .i64, .int .i64, .int .i64, .int .i64, .bool]
 |85=>some [.int .i64, .int .i64]
 |138=>some [.int .i64, .int .i64]
 |_=>none
@[simp] theorem P6:qJ 29=some [.int .i64, .int .i64, .int .i64, .int .i64, .int .i64, .int .i64, .int .i64, .int .i64, .int .i64]:= .trans rfl rfl
@[simp] theorem P7:qJ 53=some [.int .i64, .int .i64]:= .trans rfl rfl
@[simp] theorem P8:qJ 55=some [.int .i64, .int .i64]:= .trans rfl rfl
def BZ:List Nat:=[11,13,32,33,36,52,28,29,75,76,77,78,79,80]
def TU:List Nat:=[18,20,56,59,64,96,82,73,50,88,89,98,25,55,11,93]
def TV:List Nat:=[33,9,14,15,16,17,19,21,23,27,35,38,40,41,44,45,46,47,48,49,53,57,60,61,63,65,70,71,74,92,81,83,84,85,86,87,90,95,106,107,108,110,112,114,116,118,120,122,103,126,127,128]
def EV:List Nat:=[75,76,77,78,79,80]
def J5:List (Nat×Nat):=[(96,9),(64,10),(28,3),(28,6),(28,7),(28,8),(28,14)]
def TW:List (Nat×Nat):=[(12,6)]
def xJ (f d:Nat):Option Nat:=if f=12∧d=54 then some 8 else none
def rowOf (_ _:Nat):Option Nat:=none
noncomputable def EW (cl:List Nat):Ctx:={P:=Try.prog,B0:=fun f=>BZ.contains f,ir:=P4,up:=TR,own:=fun f d=>J5.contains (f,d),BH:=fun f=>TU.contains f,vF:=fun f=>TV.contains f,iu:=fun f r=>TW.contains (f,r),vw:=fun f=>cl.contains f,lift:=xJ,row:=rowOf,eqs:=qJ}
noncomputable def KC:Ctx:=EW EV
section
@[simp] theorem Aa:KC.P=Try.prog:= .trans rfl rfl
@[simp] theorem TX {f d:Nat}:KC.own f d=J5.contains (f,d):= .trans rfl rfl
@[simp] theorem SC {f d:Nat}:KC.lift f d=xJ f d:= .trans rfl rfl
@[simp] theorem TY {f d:Nat}:KC.row f d=rowOf f d:= .trans rfl rfl
attribute [simp] xJ J5 rowOf
@[simp] theorem HW:KC.ir 15 8=some ([1,17,18,19],[2]):=by kernel_rfl
@[simp] theorem HX:KC.iu 15 8=false:=by kernel_rfl
@[simp] theorem HY:KC.ir 27 5=some ([0,1,5],[4]):=by kernel_rfl
@[simp] theorem HZ:KC.iu 27 5=false:=by kernel_rfl
@[simp] theorem H4:KC.ir 30 5=some ([1,2,3,4],[0]):=by kernel_rfl
@[simp] theorem H5:KC.iu 30 5=false:=by kernel_rfl
@[simp] theorem EX:KC.ir 40 10=some ([1,30,31,32],[1,2]):=by kernel_rfl
@[simp] theorem EY:KC.iu 40 10=false:=by kernel_rfl
@[simp] theorem EZ:KC.ir 40 17=some ([1,4,30,31,32,51,52,53],[1,2,30,31,32]):=by kernel_rfl
@[simp] theorem E0:KC.iu 40 17=false:=by kernel_rfl
@[simp] theorem E1:KC.ir 40 26=some ([1,69,70,71],[1,2]):=by kernel_rfl
@[simp] theorem E2:KC.iu 40 26=false:=by kernel_rfl
@[simp] theorem H6:KC.ir 57 6=some ([1,24,25],[2,3,4]):=by kernel_rfl
@[simp] theorem H7:KC.iu 57 6=false:=by kernel_rfl
@[simp] theorem H8:KC.ir 57 9=some ([1,8,24,25,29,30,31],[1,2,3,4,24,25]):=by kernel_rfl
@[simp] theorem H9:KC.iu 57 9=false:=by kernel_rfl
@[simp] theorem Ia:KC.ir 66 3=some ([0,1,2,9,10,11],[6]):=by kernel_rfl
@[simp] theorem Ib:KC.iu 66 3=false:=by kernel_rfl
@[simp] theorem Ic:KC.ir 69 3=some ([0,1,7,8],[4]):=by kernel_rfl
@[simp] theorem Ie:KC.iu 69 3=false:=by kernel_rfl
@[simp] theorem Ig:KC.ir 72 4=some ([1,2,3,11,12,13],[1,2,3]):=by kernel_rfl
@[simp] theorem Ih:KC.iu 72 4=false:=by kernel_rfl
@[simp] theorem E3:KC.ir 72 10=some ([2,3,36,37,38],[2,3]):=by kernel_rfl
@[simp] theorem E4:KC.iu 72 10=false:=by kernel_rfl
@[simp] theorem Ii:KC.ir 73 4=some ([1,2,3,6,9],[3,6,7,8]):=by kernel_rfl
@[simp] theorem Ij:KC.iu 73 4=false:=by kernel_rfl
@[simp] theorem Ik:KC.ir 73 6=some ([1,2,3,6,9,10],[1,2,3,6,9,10]):=by kernel_rfl
@[simp] theorem Il:KC.iu 73 6=false:=by kernel_rfl
@[simp] theorem Im:KC.ir 74 3=some ([1,9,10,11],[1,2]):=by kernel_rfl
@[simp] theorem Io:KC.iu 74 3=false:=by kernel_rfl
@[simp] theorem Ip:KC.ir 74 9=some ([1,21,22,23],[2]):=by kernel_rfl
@[simp] theorem Iq:KC.iu 74 9=false:=by kernel_rfl
@[simp] theorem E5:KC.ir 82 12=some ([12,16,17,51],[6,7]):=by kernel_rfl
@[simp] theorem E6:KC.iu 82 12=false:=by kernel_rfl
@[simp] theorem Ir:KC.ir 88 5=some ([2,4,7,8,19,20,21],[4,5,6,7]):=by kernel_rfl
@[simp] theorem Is:KC.iu 88 5=false:=by kernel_rfl
@[simp] theorem E7:KC.ir 88 11=some ([2,4,7,8,9,10,11,19,20,21,35,36,37],[2,4,5,6,7,8,10,11,19,20,21]):=by kernel_rfl
@[simp] theorem E8:KC.iu 88 11=false:=by kernel_rfl
@[simp] theorem E9:KC.ir 88 17=some ([2,4,7,8,10,19,20,21,47,48,49],[2,4,7,8,10,19,20,21]):=by kernel_rfl
@[simp] theorem Fa:KC.iu 88 17=false:=by kernel_rfl
@[simp] theorem Fb:KC.ir 89 11=some ([7,8,9],[7]):=by kernel_rfl
@[simp] theorem Fc:KC.iu 89 11=false:=by kernel_rfl
@[simp] theorem It:KC.ir 90 5=some ([3,8,9],[8,9]):=by kernel_rfl
@[simp] theorem Iu:KC.iu 90 5=false:=by kernel_rfl
@[simp] theorem Iv:KC.ir 98 3=some ([1,2,4,5],[2,4,5]):=by kernel_rfl
@[simp] theorem Iw:KC.iu 98 3=false:=by kernel_rfl
@[simp] theorem Fe:KC.ir 103 3=some ([0,1,7,8],[4]):=by kernel_rfl
@[simp] theorem Ff:KC.iu 103 3=false:=by kernel_rfl
@[simp] theorem Fg:KC.ir 104 4=some ([1,2,4,5],[]):=by kernel_rfl
@[simp] theorem Fh:KC.iu 104 4=false:=by kernel_rfl
@[simp] theorem Fi:KC.ir 104 8=some ([1,2,4,5,18,19],[1,2,4,5]):=by kernel_rfl
@[simp] theorem Fj:KC.iu 104 8=false:=by kernel_rfl
@[simp] theorem Ed:KC.ir 104 13=some ([1,2,4,5,30],[1,2,4,5]):=by kernel_rfl
@[simp] theorem Ee:KC.iu 104 13=false:=by kernel_rfl
@[simp] theorem Ef:KC.ir 104 20=some ([1,2,4,5,8,30,47,48],[1,2,4,5,30]):=by kernel_rfl
@[simp] theorem Eg:KC.iu 104 20=false:=by kernel_rfl
@[simp] theorem Eh:KC.ir 104 26=some ([1,2,4,5,8,30,62,63],[1,2,4,5,30]):=by kernel_rfl
@[simp] theorem Ei:KC.iu 104 26=false:=by kernel_rfl
@[simp] theorem Fk:KC.ir 124 3=some ([0,1,2,6,7,8],[0,1,2,6,7]):=by kernel_rfl
@[simp] theorem Fl:KC.iu 124 3=false:=by kernel_rfl
@[simp] theorem Fm:KC.ir 124 8=some ([0,1,2,6],[]):=by kernel_rfl
@[simp] theorem Fo:KC.iu 124 8=false:=by kernel_rfl
@[simp] theorem Ej:KC.ir 124 10=some ([0,1,2,6,7,8],[0,1,2,6,7]):=by kernel_rfl
@[simp] theorem Ek:KC.iu 124 10=false:=by kernel_rfl
@[simp] theorem Fp:KC.ir 129 2=some ([0,1,2,3,8],[]):=by kernel_rfl
@[simp] theorem Fq:KC.iu 129 2=false:=by kernel_rfl
@[simp] theorem Fs:KC.ir 129 5=some ([0,1,2,3,8,9],[0,1,2,3,8]):=by kernel_rfl
@[simp] theorem Ft:KC.iu 129 5=false:=by kernel_rfl
@[simp] theorem Fu:KC.ir 130 4=some ([0,1,4,10,11],[0,1,10]):=by kernel_rfl
@[simp] theorem Fv:KC.iu 130 4=false:=by kernel_rfl
@[simp] theorem El:KC.ir 130 10=some ([0,10,13],[]):=by kernel_rfl
@[simp] theorem Em:KC.iu 130 10=false:=by kernel_rfl
@[simp] theorem En:KC.ir 130 16=some ([0,2,4,14,15],[0,2,14]):=by kernel_rfl
@[simp] theorem Eo:KC.iu 130 16=false:=by kernel_rfl
@[simp] theorem Ep:KC.ir 130 22=some ([0,14,17],[]):=by kernel_rfl
@[simp] theorem Er:KC.iu 130 22=false:=by kernel_rfl
@[simp] theorem Es:KC.ir 130 34=some ([0,1,2,3,4,18,19,20,21,22],[0,1,2,3,4,18,19,20]):=by kernel_rfl
@[simp] theorem Et:KC.iu 130 34=false:=by kernel_rfl
@[simp] theorem Fy:KC.ir 131 3=some ([0,2,4,10,11],[0,2,4,10]):=by kernel_rfl
@[simp] theorem Fz:KC.iu 131 3=false:=by kernel_rfl
@[simp] theorem FA:KC.ir 132 2=some ([0,1,2,3,10],[]):=by kernel_rfl
@[simp] theorem FC:KC.iu 132 2=false:=by kernel_rfl
@[simp] theorem Ix:KC.up 72 23= .box 3:=by kernel_rfl
@[simp] theorem Iy:KC.up 72 31= .box 3:=by kernel_rfl
@[simp] theorem Iz:KC.up 72 51= .box 3:=by kernel_rfl
@[simp] theorem J6:KC.up 75 7= .scopes 0:=by kernel_rfl
@[simp] theorem J7:KC.up 76 7= .scopes 0:=by kernel_rfl
@[simp] theorem J8:KC.up 77 7= .scopes 0:=by kernel_rfl
@[simp] theorem J9:KC.up 80 7= .scopes 0:=by kernel_rfl
@[simp] theorem IA:KC.up 93 64= .scopes 0:=by kernel_rfl
@[simp] theorem IB:KC.up 96 27= .scopes 0:=by kernel_rfl
@[simp] theorem IC:KC.up 96 35= .scopes 0:=by kernel_rfl
@[simp] theorem ID:KC.up 96 43= .scopes 0:=by kernel_rfl
@[simp] theorem IE:KC.up 96 53= .scopes 0:=by kernel_rfl
@[simp] theorem IG:KC.up 96 60= .scopes 0:=by kernel_rfl
@[simp] theorem FD:KC.up 102 26= .scopes 0:=by kernel_rfl
@[simp] theorem Ka:au 15 11=[]:=by kernel_rfl
@[simp] theorem Nj:au 27 6=[]:=by kernel_rfl
@[simp] theorem Nk:au 30 6=[(4,0),(8,0)]:=by kernel_rfl
@[simp] theorem Nl:au 44 1=[]:=by kernel_rfl
@[simp] theorem Nn:au 50 1=[(3,1)]:=by kernel_rfl
@[simp] theorem Np:au 50 3=[(4,2),(4,3)]:=by kernel_rfl
@[simp] theorem Nq:au 52 1=[(6,3),(10,3),(10,7)]:=by kernel_rfl
@[simp] theorem Nr:au 73 5=[]:=by kernel_rfl
@[simp] theorem Ns:au 73 7=[]:=by kernel_rfl
@[simp] theorem Kb:au 74 10=[]:=by kernel_rfl
@[simp] theorem Nt:au 82 1=[(5,3),(9,3),(12,5),(12,9)]:=by kernel_rfl
@[simp] theorem Nu:au 82 3=[(2,1),(3,1)]:=by kernel_rfl
@[simp] theorem Kc:au 88 20=[(4,2),(5,2)]:=by kernel_rfl
@[simp] theorem Nv:au 89 5=[(6,2)]:=by kernel_rfl
@[simp] theorem Nw:au 91 1=[]:=by kernel_rfl
@[simp] theorem Nx:au 93 2=[]:=by kernel_rfl
@[simp] theorem Kd:au 93 10=[(8,5),(8,6),(9,8),(11,5),(11,6),(12,8),(12,11)]:=by kernel_rfl
@[simp] theorem Ny:au 95 1=[(4,2),(5,2)]:=by kernel_rfl
@[simp] theorem Nz:au 96 4=[]:=by kernel_rfl
@[simp] theorem NA:au 98 2=[]:=by kernel_rfl
@[simp] theorem NB:au 98 4=[(3,1)]:=by kernel_rfl
@[simp] theorem Ke:au 102 5=[]:=by kernel_rfl
@[simp] theorem Kf:au 106 1=[]:=by kernel_rfl
@[simp] theorem Kg:au 107 1=[]:=by kernel_rfl
@[simp] theorem Kh:au 108 1=[]:=by kernel_rfl
@[simp] theorem Ki:au 110 1=[]:=by kernel_rfl
@[simp] theorem Kj:au 111 1=[]:=by kernel_rfl
@[simp] theorem Kk:au 113 1=[(5,2),(8,5),(10,5),(12,5)]:=by kernel_rfl
@[simp] theorem Kl:au 113 2=[]:=by kernel_rfl
@[simp] theorem Km:au 114 1=[]:=by kernel_rfl
@[simp] theorem Ko:au 115 1=[(8,2),(8,4),(9,8),(10,8),(11,2),(11,4)]:=by kernel_rfl
@[simp] theorem Kp:au 115 2=[]:=by kernel_rfl
@[simp] theorem Kq:au 116 1=[(10,7)]:=by kernel_rfl
@[simp] theorem Kr:au 117 1=[(5,2)]:=by kernel_rfl
@[simp] theorem Ks:au 118 1=[(14,11),(21,18),(29,26),(37,34)]:=by kernel_rfl
@[simp] theorem Kt:au 119 1=[(5,2)]:=by kernel_rfl
@[simp] theorem Ku:au 119 2=[(5,2)]:=by kernel_rfl
@[simp] theorem Kv:au 120 1=[(8,5)]:=by kernel_rfl
@[simp] theorem Kw:au 121 1=[(5,2)]:=by kernel_rfl
@[simp] theorem Kx:au 122 1=[(8,5)]:=by kernel_rfl
@[simp] theorem Ky:au 123 1=[(5,2)]:=by kernel_rfl
@[simp] theorem Kz:au 126 1=[]:=by kernel_rfl
@[simp] theorem KA:au 129 4=[]:=by kernel_rfl
@[simp] theorem KB:au 129 6=[]:=by kernel_rfl
@[simp] theorem KD:au 130 5=[]:=by kernel_rfl
@[simp] theorem II:au 130 11=[]:=by kernel_rfl
@[simp] theorem IJ:au 130 17=[]:=by kernel_rfl
@[simp] theorem IK:au 130 23=[]:=by kernel_rfl
@[simp] theorem IL:au 130 35=[]:=by kernel_rfl
@[simp] theorem KE:au 132 3=[]:=by kernel_rfl
@[simp] theorem TZ {t:Nat}:KC.eqs t=qJ t:= .trans rfl rfl
@[simp] theorem KF (x0 x1:Int):gb KC 138 (.agg [.int .i64 x0, .int .i64 x1])=true:=by kernel_rfl
end
@[simp] theorem SD:dC Try.prog 3=some false:=by kernel_rfl
@[simp] theorem P9:aZ Try.prog 3=some 1:=by kernel_rfl
@[simp] theorem Qa:b8 Try.prog 3=some (.pure (.int .i64 0)):=by kernel_rfl
@[simp] theorem SG:dC Try.prog 4=some false:=by kernel_rfl
@[simp] theorem Qb:aZ Try.prog 4=some 1:=by kernel_rfl
@[simp] theorem Qc:b8 Try.prog 4=some (.pure (.bool false)):=by kernel_rfl
@[simp] theorem Qd:dC Try.prog 22=some false:=by kernel_rfl
@[simp] theorem NC:aZ Try.prog 22=some 1:=by kernel_rfl
@[simp] theorem ND:dZ Try.prog 22=some (some 2):=by kernel_rfl
@[simp] theorem Qe:dY Try.prog 22=none:=by kernel_rfl
@[simp] theorem Qf:sF Try.prog 22=some ((some 2),(some [(.pure (.int .i64 0)),(.pure (.int .i64 0))])):=by kernel_rfl
@[simp] theorem Qg:dC Try.prog 23=some false:=by kernel_rfl
@[simp] theorem NF:aZ Try.prog 23=some 1:=by kernel_rfl
@[simp] theorem NG:dZ Try.prog 23=some (some 5):=by kernel_rfl
@[simp] theorem Qh:dY Try.prog 23=none:=by kernel_rfl
@[simp] theorem Qi:sF Try.prog 23=some ((some 5),(some [(.pure (.int .i64 0)),(.pure (.int .i64 0)),(.pure (.int .i64 0)),(.pure (.int .i64 0)),(.pure (.bool false))])):=by kernel_rfl
@[simp] theorem Qj:dC Try.prog 24=some false:=by kernel_rfl
@[simp] theorem NH:aZ Try.prog 24=some 1:=by kernel_rfl
@[simp] theorem NI:dZ Try.prog 24=some (some 1):=by kernel_rfl
@[simp] theorem Qk:dY Try.prog 24=none:=by kernel_rfl
@[simp] theorem Ql:vA Try.prog 24=some ((some 1),(some 8),(some 1)):=by kernel_rfl
@[simp] theorem Qm:sF Try.prog 24=some ((some 1),(some [(.pure (.int .i64 0))])):=by kernel_rfl
@[simp] theorem IM:dQ Try.prog (some 24)=true:=by kernel_rfl
@[simp] theorem Qn:dC Try.prog 25=some false:=by kernel_rfl
@[simp] theorem NJ:aZ Try.prog 25=some 1:=by kernel_rfl
@[simp] theorem NK:b8 Try.prog 25=some .aO:=by kernel_rfl
@[simp] theorem NL:dZ Try.prog 25=some (some 9):=by kernel_rfl
@[simp] theorem Qo:dY Try.prog 25=none:=by kernel_rfl
@[simp] theorem Qp:vA Try.prog 25=some ((some 9),(some 72),(some 9)):=by kernel_rfl
@[simp] theorem Qq:sF Try.prog 25=some ((some 9),(some [(.pure (.int .i64 0)),(.pure (.int .i64 0)),(.pure (.int .i64 0)),(.pure (.int .i64 0)),(.pure (.int .i64 0)),(.pure (.int .i64 0)),(.pure (.int .i64 0)),(.pure (.int .i64 0)),(.pure (.int .i64 0))])):=by kernel_rfl
@[simp] theorem IP:dQ Try.prog (some 25)=true:=by kernel_rfl
@[simp] theorem Qr:dC Try.prog 27=some true:=by kernel_rfl
@[simp] theorem NM:aZ Try.prog 27=some 7:=by kernel_rfl
@[simp] theorem NN:b8 Try.prog 27=some (.agg [(.pure (.int .i64 0)),(.pure (.int .i64 0)), .aO, .aO, .aO, .aO, .aO]):=by kernel_rfl
@[simp] theorem Qs:dY Try.prog 27=none:=by kernel_rfl
@[simp] theorem IQ:eI Try.prog 27=some [(0,1),(1,1),(2,1),(3,1),(4,1),(5,1),(6,1)]:=by kernel_rfl
@[simp] theorem Qt:dC Try.prog 29=some true:=by kernel_rfl
@[simp] theorem NO:aZ Try.prog 29=some 9:=by kernel_rfl
@[simp] theorem NP:b8 Try.prog 29=some (.pure (.agg [(.int .i64 0),(.int .i64 0),(.int .i64 0),(.int .i64 0),(.int .i64 0),(.int .i64 0),(.int .i64 0),(.int .i64 0),(.int .i64 0)])):=by kernel_rfl
@[simp] theorem Qu:dY Try.prog 29=none:=by kernel_rfl
@[simp] theorem IS:eI Try.prog 29=some [(0,1),(1,1),(2,1),(3,1),(4,1),(5,1),(6,1),(7,1),(8,1)]:=by kernel_rfl
@[simp] theorem NQ:dZ Try.prog 41=some (some 3):=by kernel_rfl
@[simp] theorem Qv:dY Try.prog 41=none:=by kernel_rfl
@[simp] theorem Qw:dC Try.prog 45=some false:=by kernel_rfl
@[simp] theorem NR:aZ Try.prog 45=some 1:=by kernel_rfl
@[simp] theorem NS:dZ Try.prog 45=some (some 2):=by kernel_rfl
@[simp] theorem Qx:dY Try.prog 45=none:=by kernel_rfl
@[simp] theorem Qy:vA Try.prog 45=some ((some 2),(some 16),(some 2)):=by kernel_rfl
@[simp] theorem Qz:sF Try.prog 45=some ((some 2),(some [(.pure (.int .i64 0)),(.pure (.int .i64 0))])):=by kernel_rfl
@[simp] theorem IT:dQ Try.prog (some 45)=true:=by kernel_rfl
@[simp] theorem QA:dC Try.prog 46=some false:=by kernel_rfl
@[simp] theorem NT:aZ Try.prog 46=some 1:=by kernel_rfl
@[simp] theorem NU:dZ Try.prog 46=some (some 2):=by kernel_rfl
@[simp] theorem QB:dY Try.prog 46=none:=by kernel_rfl
@[simp] theorem QC:vA Try.prog 46=some ((some 2),(some 16),(some 2)):=by kernel_rfl
@[simp] theorem QD:sF Try.prog 46=some ((some 2),(some [(.pure (.int .i64 0)),(.pure (.int .i64 0))])):=by kernel_rfl
@[simp] theorem IU:dQ Try.prog (some 46)=true:=by kernel_rfl
@[simp] theorem QE:dC Try.prog 48=some true:=by kernel_rfl
@[simp] theorem NV:aZ Try.prog 48=some 3:=by kernel_rfl
@[simp] theorem NW:b8 Try.prog 48=some (.agg [.aO, .aO, .aO]):=by kernel_rfl
@[simp] theorem QF:dY Try.prog 48=none:=by kernel_rfl
@[simp] theorem IV:eI Try.prog 48=some [(0,1),(1,1),(2,1)]:=by kernel_rfl
@[simp] theorem QG:dC Try.prog 53=some true:=by kernel_rfl
@[simp] theorem NX:aZ Try.prog 53=some 2:=by kernel_rfl
@[simp] theorem NY:b8 Try.prog 53=some (.pure (.agg [(.int .i64 0),(.int .i64 0)])):=by kernel_rfl
@[simp] theorem QH:dY Try.prog 53=some (2,(some 1),(some false)):=by kernel_rfl
@[simp] theorem QI:dC Try.prog 55=some true:=by kernel_rfl
@[simp] theorem NZ:aZ Try.prog 55=some 2:=by kernel_rfl
@[simp] theorem N0:b8 Try.prog 55=some (.pure (.agg [(.int .i64 0),(.int .i64 0)])):=by kernel_rfl
@[simp] theorem QJ:dY Try.prog 55=none:=by kernel_rfl
@[simp] theorem IW:eI Try.prog 55=some [(0,1),(1,1)]:=by kernel_rfl
@[simp] theorem QK:dC Try.prog 57=some true:=by kernel_rfl
@[simp] theorem N3:aZ Try.prog 57=some 5:=by kernel_rfl
@[simp] theorem N4:b8 Try.prog 57=some (.pure (.agg [(.int .i64 0),(.int .i64 0),(.int .i64 0),(.int .i64 0),(.bool false)])):=by kernel_rfl
@[simp] theorem QL:dY Try.prog 57=none:=by kernel_rfl
@[simp] theorem IX:eI Try.prog 57=some [(0,1),(1,1),(2,1),(3,1),(4,1)]:=by kernel_rfl
@[simp] theorem QM:dC Try.prog 81=some false:=by kernel_rfl
@[simp] theorem N5:aZ Try.prog 81=some 1:=by kernel_rfl
@[simp] theorem QN:dC Try.prog 85=some true:=by kernel_rfl
@[simp] theorem N6:aZ Try.prog 85=some 2:=by kernel_rfl
@[simp] theorem N7:b8 Try.prog 85=some (.pure (.agg [(.int .i64 0),(.int .i64 0)])):=by kernel_rfl
@[simp] theorem QO:dY Try.prog 85=none:=by kernel_rfl
@[simp] theorem IY:eI Try.prog 85=some [(0,1),(1,1)]:=by kernel_rfl
@[simp] theorem QP:dC Try.prog 87=some true:=by kernel_rfl
@[simp] theorem N8:aZ Try.prog 87=some 10:=by kernel_rfl
@[simp] theorem N9:b8 Try.prog 87=some (.agg [(.pure (.int .i64 0)),(.pure (.int .i64 0)), .aO, .aO, .aO, .aO, .aO, .aO, .aO, .aO]):=by kernel_rfl
@[simp] theorem QQ:dY Try.prog 87=none:=by kernel_rfl
@[simp] theorem IZ:eI Try.prog 87=some [(0,7),(7,3)]:=by kernel_rfl
@[simp] theorem Oa:dZ Try.prog 95=some (some 1):=by kernel_rfl
@[simp] theorem QR:dY Try.prog 95=none:=by kernel_rfl
@[simp] theorem QS:sF Try.prog 95=some ((some 1),(some [.aO])):=by kernel_rfl
@[simp] theorem Ob:dC Try.prog 129=some false:=by kernel_rfl
@[simp] theorem KG:aZ Try.prog 129=some 1:=by kernel_rfl
@[simp] theorem KH:b8 Try.prog 129=some (.pure .eg):=by kernel_rfl
@[simp] theorem Oc:dC Try.prog 130=some false:=by kernel_rfl
@[simp] theorem KI:aZ Try.prog 130=some 1:=by kernel_rfl
@[simp] theorem KJ:b8 Try.prog 130=some (.pure .eg):=by kernel_rfl
@[simp] theorem QT:Sz Try.prog 134=some (138,(some (.pure (.bool false)))):=by kernel_rfl
@[simp] theorem Od:sG Try.prog 134=some (138,4):=by kernel_rfl
@[simp] theorem KL:dZ Try.prog 135=some (some 2):=by kernel_rfl
@[simp] theorem Oe:dY Try.prog 135=none:=by kernel_rfl
@[simp] theorem Og:vA Try.prog 135=some ((some 2),(some 16),(some 2)):=by kernel_rfl
@[simp] theorem Oh:sF Try.prog 135=some ((some 2),(some [(.pure (.int .i64 0)),(.pure (.int .i64 0))])):=by kernel_rfl
@[simp] theorem FE:dQ Try.prog (some 135)=true:=by kernel_rfl
@[simp] theorem Oi:dC Try.prog 138=some true:=by kernel_rfl
@[simp] theorem KM:aZ Try.prog 138=some 2:=by kernel_rfl
@[simp] theorem KN:b8 Try.prog 138=some (.pure (.agg [(.int .i64 0),(.int .i64 0)])):=by kernel_rfl
@[simp] theorem Oj:dY Try.prog 138=none:=by kernel_rfl
@[simp] theorem FF:eI Try.prog 138=some [(0,1),(1,1)]:=by kernel_rfl
@[simp] theorem Ok:dC Try.prog 142=some true:=by kernel_rfl
@[simp] theorem KO:aZ Try.prog 142=some 2:=by kernel_rfl
@[simp] theorem KP:b8 Try.prog 142=some (.pure (.agg [.eg, .eg])):=by kernel_rfl
@[simp] theorem Ol:dY Try.prog 142=none:=by kernel_rfl
@[simp] theorem FG:eI Try.prog 142=some [(0,1),(1,1)]:=by kernel_rfl
@[simp] theorem KQ:aZ Try.prog 151=some 18:=by kernel_rfl
@[simp] theorem KR:b8 Try.prog 151=some (.pure (.agg [.eg, .eg, .eg, .eg, .eg, .eg, .eg, .eg, .eg, .eg, .eg, .eg, .eg, .eg, .eg, .eg, .eg, .eg])):=by kernel_rfl
@[simp] theorem Om:dY Try.prog 151=some (9,(some 2),(some true)):=by kernel_rfl
@[simp] theorem QU:BR Try.prog 25=some ((some 9),(some [(.int .i64 0),(.int .i64 0),(.int .i64 0),(.int .i64 0),(.int .i64 0),(.int .i64 0),(.int .i64 0),(.int .i64 0),(.int .i64 0)])):=by kernel_rfl
@[simp] theorem On:mC Try.prog 27 0=some (0,(some 1)):=by kernel_rfl
@[simp] theorem Oo:mC Try.prog 27 1=some (1,(some 1)):=by kernel_rfl
@[simp] theorem Oq:mC Try.prog 27 2=some (2,(some 1)):=by kernel_rfl
@[simp] theorem Ot:mC Try.prog 27 3=some (3,(some 1)):=by kernel_rfl
@[simp] theorem Ou:mC Try.prog 27 4=some (4,(some 1)):=by kernel_rfl
@[simp] theorem Ov:mC Try.prog 27 5=some (5,(some 1)):=by kernel_rfl
@[simp] theorem Ow:mC Try.prog 27 6=some (6,(some 1)):=by kernel_rfl
@[simp] theorem Ox:mC Try.prog 29 0=some (0,(some 1)):=by kernel_rfl
@[simp] theorem Oy:mC Try.prog 29 1=some (1,(some 1)):=by kernel_rfl
@[simp] theorem Oz:mC Try.prog 29 2=some (2,(some 1)):=by kernel_rfl
@[simp] theorem OA:mC Try.prog 29 3=some (3,(some 1)):=by kernel_rfl
@[simp] theorem OB:mC Try.prog 29 4=some (4,(some 1)):=by kernel_rfl
@[simp] theorem OC:mC Try.prog 29 5=some (5,(some 1)):=by kernel_rfl
@[simp] theorem OD:mC Try.prog 29 6=some (6,(some 1)):=by kernel_rfl
@[simp] theorem OE:mC Try.prog 29 7=some (7,(some 1)):=by kernel_rfl
@[simp] theorem OG:mC Try.prog 29 8=some (8,(some 1)):=by kernel_rfl
@[simp] theorem OH:mC Try.prog 48 0=some (0,(some 1)):=by kernel_rfl
@[simp] theorem OI:mC Try.prog 48 1=some (1,(some 1)):=by kernel_rfl
@[simp] theorem OJ:mC Try.prog 48 2=some (2,(some 1)):=by kernel_rfl
@[simp] theorem OK:mC Try.prog 55 0=some (0,(some 1)):=by kernel_rfl
@[simp] theorem OL:mC Try.prog 55 1=some (1,(some 1)):=by kernel_rfl
@[simp] theorem OM:mC Try.prog 57 0=some (0,(some 1)):=by kernel_rfl
@[simp] theorem ON:mC Try.prog 57 1=some (1,(some 1)):=by kernel_rfl
@[simp] theorem OO:mC Try.prog 57 2=some (2,(some 1)):=by kernel_rfl
@[simp] theorem OP:mC Try.prog 57 3=some (3,(some 1)):=by kernel_rfl
@[simp] theorem OQ:mC Try.prog 57 4=some (4,(some 1)):=by kernel_rfl
@[simp] theorem OS:mC Try.prog 85 0=some (0,(some 1)):=by kernel_rfl
@[simp] theorem OT:mC Try.prog 85 1=some (1,(some 1)):=by kernel_rfl
@[simp] theorem OU:mC Try.prog 87 0=some (0,(some 7)):=by kernel_rfl
@[simp] theorem OV:mC Try.prog 87 1=some (7,(some 3)):=by kernel_rfl
@[simp] theorem KS:SI Try.prog 142 0=some (0,(some false),(some 1)):=by kernel_rfl
@[simp] theorem KT:SI Try.prog 142 1=some (1,(some false),(some 1)):=by kernel_rfl
attribute [simp] Try.results2 Try.ntmps2
attribute [simp] Try.results3 Try.ntmps3
attribute [simp] Try.results4 Try.ntmps4
attribute [simp] Try.results5 Try.ntmps5
attribute [simp] Try.results6 Try.ntmps6
attribute [simp] Try.results7 Try.ntmps7
attribute [simp] Try.results8 Try.ntmps8
attribute [simp] Try.results9 Try.ntmps9
attribute [simp] Try.results10 Try.ntmps10
attribute [simp] Try.results11 Try.ntmps11
attribute [simp] Try.results12 Try.ntmps12
attribute [simp] Try.results13 Try.ntmps13
attribute [simp] Try.results14 Try.ntmps14
attribute [simp] Try.results15 Try.ntmps15
attribute [simp] Try.results16 Try.ntmps16
attribute [simp] Try.results17 Try.ntmps17
attribute [simp] Try.results18 Try.ntmps18
attribute [simp] Try.results19 Try.ntmps19
attribute [simp] Try.results20 Try.ntmps20
attribute [simp] Try.results21 Try.ntmps21
attribute [simp] Try.results22 Try.ntmps22
attribute [simp] Try.results23 Try.ntmps23
attribute [simp] Try.results24 Try.ntmps24
attribute [simp] Try.results25 Try.ntmps25
attribute [simp] Try.results26 Try.ntmps26
attribute [simp] Try.results27 Try.ntmps27
attribute [simp] Try.results28 Try.ntmps28
attribute [simp] Try.results29 Try.ntmps29
attribute [simp] Try.results30 Try.ntmps30
attribute [simp] Try.results31 Try.ntmps31
attribute [simp] Try.results32 Try.ntmps32
attribute [simp] Try.results33 Try.ntmps33
attribute [simp] Try.results34 Try.ntmps34
attribute [simp] Try.results35 Try.ntmps35
attribute [simp] Try.results36 Try.ntmps36
attribute [simp] Try.results37 Try.ntmps37
attribute [simp] Try.results38 Try.ntmps38
attribute [simp] Try.results39 Try.ntmps39
attribute [simp] Try.results40 Try.ntmps40
attribute [simp] Try.results41 Try.ntmps41
attribute [simp] Try.results42 Try.ntmps42
attribute [simp] Try.results43 Try.ntmps43
attribute [simp] Try.results44 Try.ntmps44
attribute [simp] Try.results45 Try.ntmps45
attribute [simp] Try.results46 Try.ntmps46
attribute [simp] Try.results47 Try.ntmps47
attribute [simp] Try.results48 Try.ntmps48
attribute [simp] Try.results49 Try.ntmps49
attribute [simp] Try.results50 Try.ntmps50
attribute [simp] Try.results51 Try.ntmps51
attribute [simp] Try.results52 Try.ntmps52
attribute [simp] Try.results53 Try.ntmps53
attribute [simp] Try.results54 Try.ntmps54
attribute [simp] Try.results55 Try.ntmps55
attribute [simp] Try.results56 Try.ntmps56
attribute [simp] Try.results57 Try.ntmps57
attribute [simp] Try.results58 Try.ntmps58
attribute [simp] Try.results59 Try.ntmps59
attribute [simp] Try.results60 Try.ntmps60
attribute [simp] Try.results61 Try.ntmps61
attribute [simp] Try.results62 Try.ntmps62
attribute [simp] Try.results63 Try.ntmps63
attribute [simp] Try.results64 Try.ntmps64
attribute [simp] Try.results65 Try.ntmps65
attribute [simp] Try.results66 Try.ntmps66
attribute [simp] Try.results67 Try.ntmps67
attribute [simp] Try.results68 Try.ntmps68
attribute [simp] Try.results69 Try.ntmps69
attribute [simp] Try.results70 Try.ntmps70
attribute [simp] Try.results71 Try.ntmps71
attribute [simp] Try.results72 Try.ntmps72
attribute [simp] Try.results73 Try.ntmps73
attribute [simp] Try.results74 Try.ntmps74
attribute [simp] Try.results75 Try.ntmps75
attribute [simp] Try.results76 Try.ntmps76
attribute [simp] Try.results77 Try.ntmps77
attribute [simp] Try.results78 Try.ntmps78
attribute [simp] Try.results79 Try.ntmps79
attribute [simp] Try.results80 Try.ntmps80
attribute [simp] Try.results81 Try.ntmps81
attribute [simp] Try.results82 Try.ntmps82
attribute [simp] Try.results83 Try.ntmps83
attribute [simp] Try.results84 Try.ntmps84
attribute [simp] Try.results85 Try.ntmps85
attribute [simp] Try.results86 Try.ntmps86
attribute [simp] Try.results87 Try.ntmps87
attribute [simp] Try.results88 Try.ntmps88
attribute [simp] Try.results89 Try.ntmps89
attribute [simp] Try.results90 Try.ntmps90
attribute [simp] Try.results91 Try.ntmps91
attribute [simp] Try.results92 Try.ntmps92
attribute [simp] Try.results93 Try.ntmps93
attribute [simp] Try.results94 Try.ntmps94
attribute [simp] Try.results95 Try.ntmps95
attribute [simp] Try.results96 Try.ntmps96
attribute [simp] Try.results97 Try.ntmps97
attribute [simp] Try.results98 Try.ntmps98
attribute [simp] Try.results99 Try.ntmps99
attribute [simp] Try.results100 Try.ntmps100
attribute [simp] Try.results101 Try.ntmps101
attribute [simp] Try.results102 Try.ntmps102
attribute [simp] Try.results103 Try.ntmps103
attribute [simp] Try.results104 Try.ntmps104
attribute [simp] Try.results105 Try.ntmps105
attribute [simp] Try.results106 Try.ntmps106
attribute [simp] Try.results107 Try.ntmps107
attribute [simp] Try.results108 Try.ntmps108
attribute [simp] Try.results109 Try.ntmps109
attribute [simp] Try.results110 Try.ntmps110
attribute [simp] Try.results111 Try.ntmps111
attribute [simp] Try.results112 Try.ntmps112
attribute [simp] Try.results113 Try.ntmps113
attribute [simp] Try.results114 Try.ntmps114
attribute [simp] Try.results115 Try.ntmps115
attribute [simp] Try.results116 Try.ntmps116
attribute [simp] Try.results117 Try.ntmps117
attribute [simp] Try.results118 Try.ntmps118
attribute [simp] Try.results119 Try.ntmps119
attribute [simp] Try.results120 Try.ntmps120
attribute [simp] Try.results121 Try.ntmps121
attribute [simp] Try.results122 Try.ntmps122
attribute [simp] Try.results123 Try.ntmps123
attribute [simp] Try.results124 Try.ntmps124
attribute [simp] Try.results125 Try.ntmps125
attribute [simp] Try.results126 Try.ntmps126
attribute [simp] Try.results127 Try.ntmps127
attribute [simp] Try.results128 Try.ntmps128
attribute [simp] Try.results129 Try.ntmps129
attribute [simp] Try.results130 Try.ntmps130
attribute [simp] Try.results131 Try.ntmps131
attribute [simp] Try.results132 Try.ntmps132
section
def gJ:Code→List Code
 | .seq a b=>gJ a++gJ b
 | .cond _ a b=>gJ a++gJ b
 | .block _ a=>gJ a
 | .scope a=>gJ a
 | .loop a=>a::gJ a
 | .rangeFunc _ _ a b=>gJ a++gJ b
 |_=> []
def lp (g:Func)(k:Nat):Code:=((gJ (g.body.getD .skip))[k]?).getD .skip
noncomputable def o8 {α:Type}(a:α):α:=Classical.choose (⟨a,rfl⟩: ∃x,x=a)
theorem bR {α:Type}(a:α):o8 a=a:=Classical.choose_spec (⟨a,rfl⟩: ∃x,x=a)
section
variable {K:Ctx} {fn:FuncId} {H:ae}
def T0 (v:GV)(x:Option (GV×ae)):Bool:=match x with|some (v',_)=>GV.beq v' v|none=>false
@[simp] theorem QV {v v':GV}:T0 v (some (v',H))=GV.beq v' v:=rfl
@[simp] theorem KU {o:Oper}{s:aS}{v:GV}:sameAt K fn o s v H=T0 v (dw K fn o s H):=by
 unfold sameAt T0;rfl
@[simp] theorem BI (n:Nat):((n:Int)<0)=False:=by simp
theorem dM {x:Int}(h1: -9223372036854775808≤x)(h2:x≤9223372036854775807):IntKind.i64.wrap x=x:=IntWalk.i64_in x ⟨h1,h2⟩
theorem Fr.jj {q : Nat} {x y : dW} : ∀ f : Fr, (f.ins q x).ins q y = f.ins q y
  | [] => by simp [Fr.ins]
  | (k, b) :: r => by
    simp only [Fr.ins]
    split
    · simp [Fr.ins]
    · rename_i h
      split
      · simp [Fr.ins]
      · rename_i h2
        simp only [Fr.ins, h, h2, if_false, Fr.jj r]
@[simp] theorem ae.set_set {nm:Nm}{x y:dW}: ∀{H:ae},(H.set nm x).set nm y=H.set nm y
 | []=>rfl
 |f::H=>by
  simp only [ae.set];split
  ·rename_i h;simp only [ae.set,h,if_true,Fr.jj]
  ·rename_i h;simp only [ae.set,ae.length_set,h,if_false,ae.set_set]
attribute [simp] ae.length_set
@[simp] theorem ae.vG {nm:Nm}{b:dW}(h:nm.1<H.length):(H.set nm b).get nm=some b:=ae.cw b h
end
end
theorem KV:bD KC au 15 (Try.f15.body.getD .skip)=true:=by kernel_rfl
theorem B3:bD KC au 20 (Try.f20.body.getD .skip)=true:=by kernel_rfl
theorem KW:bD KC au 27 (Try.f27.body.getD .skip)=true:=by kernel_rfl
theorem KX:bD KC au 28 (Try.f28.body.getD .skip)=true:=by kernel_rfl
theorem KY:bD KC au 30 (Try.f30.body.getD .skip)=true:=by kernel_rfl
theorem KZ:bD KC au 40 (Try.f40.body.getD .skip)=true:=by kernel_rfl
theorem K0:bD KC au 41 (Try.f41.body.getD .skip)=true:=by kernel_rfl
theorem K3:bD KC au 42 (Try.f42.body.getD .skip)=true:=by kernel_rfl
theorem K4:bD KC au 43 (Try.f43.body.getD .skip)=true:=by kernel_rfl
theorem K5:bD KC au 44 (Try.f44.body.getD .skip)=true:=by kernel_rfl
theorem K6:bD KC au 50 (Try.f50.body.getD .skip)=true:=by kernel_rfl
theorem B4:bD KC au 52 (Try.f52.body.getD .skip)=true:=by kernel_rfl
theorem K7:bD KC au 54 (Try.f54.body.getD .skip)=true:=by kernel_rfl
theorem K8:bD KC au 56 (Try.f56.body.getD .skip)=true:=by kernel_rfl
theorem K9:bD KC au 57 (Try.f57.body.getD .skip)=true:=by kernel_rfl
theorem La:bD KC au 65 (Try.f65.body.getD .skip)=true:=by kernel_rfl
theorem Lb:bD KC au 66 (Try.f66.body.getD .skip)=true:=by kernel_rfl
theorem Lc:bD KC au 67 (Try.f67.body.getD .skip)=true:=by kernel_rfl
theorem Ld:bD KC au 68 (Try.f68.body.getD .skip)=true:=by kernel_rfl
theorem Le:bD KC au 69 (Try.f69.body.getD .skip)=true:=by kernel_rfl
theorem Lf:bD KC au 72 (Try.f72.body.getD .skip)=true:=by kernel_rfl
theorem Lg:bD KC au 73 (Try.f73.body.getD .skip)=true:=by kernel_rfl
theorem Lh:bD KC au 74 (Try.f74.body.getD .skip)=true:=by kernel_rfl
theorem Li:bD KC au 75 (Try.f75.body.getD .skip)=true:=by kernel_rfl
theorem Lj:bD KC au 76 (Try.f76.body.getD .skip)=true:=by kernel_rfl
theorem Lk:bD KC au 77 (Try.f77.body.getD .skip)=true:=by kernel_rfl
theorem Ll:bD KC au 80 (Try.f80.body.getD .skip)=true:=by kernel_rfl
theorem Lm:bD KC au 81 (Try.f81.body.getD .skip)=true:=by kernel_rfl
theorem Ln:bD KC au 82 (Try.f82.body.getD .skip)=true:=by kernel_rfl
theorem Lo:bD KC au 86 (Try.f86.body.getD .skip)=true:=by kernel_rfl
theorem B5:bD KC au 88 (Try.f88.body.getD .skip)=true:=by kernel_rfl
theorem Lp:bD KC au 89 (Try.f89.body.getD .skip)=true:=by kernel_rfl
theorem Lq:bD KC au 90 (Try.f90.body.getD .skip)=true:=by kernel_rfl
theorem Lr:bD KC au 91 (Try.f91.body.getD .skip)=true:=by kernel_rfl
theorem Ls:bD KC au 92 (Try.f92.body.getD .skip)=true:=by kernel_rfl
theorem B6:bD KC au 93 (Try.f93.body.getD .skip)=true:=by kernel_rfl
theorem Lt:bD KC au 94 (Try.f94.body.getD .skip)=true:=by kernel_rfl
theorem Lu:bD KC au 95 (Try.f95.body.getD .skip)=true:=by kernel_rfl
theorem Lv:bD KC au 96 (Try.f96.body.getD .skip)=true:=by kernel_rfl
theorem Lw:bD KC au 97 (Try.f97.body.getD .skip)=true:=by kernel_rfl
theorem Lx:bD KC au 98 (Try.f98.body.getD .skip)=true:=by kernel_rfl
theorem Ly:bD KC au 99 (Try.f99.body.getD .skip)=true:=by kernel_rfl
theorem FH:bD KC au 100 (Try.f100.body.getD .skip)=true:=by kernel_rfl
theorem FI:bD KC au 101 (Try.f101.body.getD .skip)=true:=by kernel_rfl
theorem FJ:bD KC au 102 (Try.f102.body.getD .skip)=true:=by kernel_rfl
theorem FK:bD KC au 103 (Try.f103.body.getD .skip)=true:=by kernel_rfl
theorem FL:bD KC au 104 (Try.f104.body.getD .skip)=true:=by kernel_rfl
theorem FM:bD KC au 105 (Try.f105.body.getD .skip)=true:=by kernel_rfl
theorem FN:bD KC au 106 (Try.f106.body.getD .skip)=true:=by kernel_rfl
theorem FO:bD KC au 107 (Try.f107.body.getD .skip)=true:=by kernel_rfl
theorem FQ:bD KC au 108 (Try.f108.body.getD .skip)=true:=by kernel_rfl
theorem y8:bD KC au 109 (Try.f109.body.getD .skip)=true:=by kernel_rfl
theorem FR:bD KC au 110 (Try.f110.body.getD .skip)=true:=by kernel_rfl
theorem FT:bD KC au 111 (Try.f111.body.getD .skip)=true:=by kernel_rfl
theorem FU:bD KC au 112 (Try.f112.body.getD .skip)=true:=by kernel_rfl
theorem FV:bD KC au 113 (Try.f113.body.getD .skip)=true:=by kernel_rfl
theorem FW:bD KC au 114 (Try.f114.body.getD .skip)=true:=by kernel_rfl
theorem y9:bD KC au 115 (Try.f115.body.getD .skip)=true:=by kernel_rfl
theorem FX:bD KC au 116 (Try.f116.body.getD .skip)=true:=by kernel_rfl
theorem FY:bD KC au 117 (Try.f117.body.getD .skip)=true:=by kernel_rfl
theorem FZ:bD KC au 118 (Try.f118.body.getD .skip)=true:=by kernel_rfl
theorem F4:bD KC au 119 (Try.f119.body.getD .skip)=true:=by kernel_rfl
theorem F6:bD KC au 120 (Try.f120.body.getD .skip)=true:=by kernel_rfl
theorem F7:bD KC au 121 (Try.f121.body.getD .skip)=true:=by kernel_rfl
theorem F8:bD KC au 122 (Try.f122.body.getD .skip)=true:=by kernel_rfl
theorem F9:bD KC au 123 (Try.f123.body.getD .skip)=true:=by kernel_rfl
theorem Ga:bD KC au 124 (Try.f124.body.getD .skip)=true:=by kernel_rfl
theorem Gb:bD KC au 125 (Try.f125.body.getD .skip)=true:=by kernel_rfl
theorem Gc:bD KC au 126 (Try.f126.body.getD .skip)=true:=by kernel_rfl
theorem Gd:bD KC au 127 (Try.f127.body.getD .skip)=true:=by kernel_rfl
theorem Ge:bD KC au 128 (Try.f128.body.getD .skip)=true:=by kernel_rfl
theorem Gf:bD KC au 129 (Try.f129.body.getD .skip)=true:=by kernel_rfl
theorem ug:bD KC au 130 (Try.f130.body.getD .skip)=true:=by kernel_rfl
theorem Gg:bD KC au 131 (Try.f131.body.getD .skip)=true:=by kernel_rfl
theorem Gi:bD KC au 132 (Try.f132.body.getD .skip)=true:=by kernel_rfl
section
@[simp] theorem SJ (n:Nat):(n=n+1+1)=False:=by simp;omega
@[simp] theorem SL (n:Nat):(n=n+1+1+1)=False:=by simp;omega
@[simp] theorem SM (n:Nat):(n=n+1+1+1+1)=False:=by simp;omega
@[simp] theorem QW (n:Nat):(n+1+1=n)=False:=by simp;omega
@[simp] theorem QX (n:Nat):(n+1+1+1=n)=False:=by simp;omega
@[simp] theorem SO (n:Nat):(n≤n+1+1)=True:=by simp;omega
@[simp] theorem SP (n:Nat):(n≤n+1+1+1)=True:=by simp;omega
def jL (nm:Nm)(es:Nat)(rows:List (List PV)):GV:=if rows=[]then .aO else .ay nm es rows.length 0 rows.length
def kN (key es:Nat)(rows:List (List PV))(fr:Fr):Fr:=if rows=[]then fr else fr.ins key (.arr es rows 0 false)
theorem uh {nm:Nm}{es:Nat}:jL nm es []= .aO:=rfl
theorem qp {key es:Nat}{fr:Fr}:kN key es [] fr=fr:=rfl
theorem Fr.qK {q p : Nat} (x y : dW) (h : q ≠ p) : ∀ f : Fr, (f.ins p y).ins q x = (f.ins q x).ins p y
  | [] => by
    simp only [Fr.ins, h, Ne.symm h, if_false]
    split
    · rename_i h1; rw [if_neg (by omega)]
    · rename_i h1; rw [if_pos (by omega)]
  | (k, b) :: r => by
    have hp : ¬ p = q := fun e => h e.symm
    by_cases h1 : p = k
    · subst h1
      by_cases h3 : q < p
      · simp [Fr.ins, h, h3, hp, show ¬ p < q by omega]
      · simp [Fr.ins, h, h3]
    · by_cases h2 : q = k
      · subst h2
        by_cases h3 : p < q
        · simp [Fr.ins, h, h3, hp, show ¬ q < p by omega]
        · simp [Fr.ins, h1, h3]
      · by_cases h3 : p < k
        · by_cases h4 : q < k
          · by_cases h5 : q < p
            · simp [Fr.ins, h, hp, h1, h2, h3, h4, h5, show ¬ p < q by omega]
            · simp [Fr.ins, h, hp, h1, h2, h3, h4, h5, show p < q by omega]
          · simp [Fr.ins, h, hp, h1, h2, h3, h4, show ¬ q < p by omega]
        · by_cases h4 : q < k
          · simp [Fr.ins, h, hp, h1, h2, h3, h4, show ¬ p < q by omega]
          · simp [Fr.ins, h1, h2, h3, h4, Fr.qK x y h r]
section
variable {key es:Nat} {rows:List (List PV)} {fr:Fr} {H:ae} {nm:Nm}
@[simp] theorem nr {k:Nat}(h:k≠key):(kN key es rows fr).get k=fr.get k:=by
 unfold kN;split
 ·rfl
 ·exact Fr.aF _ h _
@[simp] theorem Gj {k:Nat}{b:dW}(h:k≠key):(kN key es rows fr).ins k b=kN key es rows (fr.ins k b):=by
 unfold kN;split
 ·rfl
 ·exact Fr.qK _ _ h _
theorem iK (h:rows≠[]):(kN key es rows fr).get key=some (.arr es rows 0 false):=by
 unfold kN;rw [if_neg h];exact Fr.bO _ _ _
@[simp] theorem Lz:bm (jL nm es rows)=some [jL nm es rows]:=by
 unfold jL;split<;>rfl
@[simp] theorem Eu {l0:Nat}(h:nm.1≤l0):dx H l0 (jL nm es rows)=(jL nm es rows,H):=by
 unfold jL;split
 ·rfl
 ·simp [h]
@[simp] theorem I1 {r:List GV}:bd (jL nm es rows::r)=none:=by
 unfold jL;split<;>rfl
theorem za {l bytes:Nat}{r:List PV}{H':ae}(hg:rows=[]→H'.get (l,key)=none)(hg2:rows≠[]→H'.get (l,key)=some (.arr es rows 0 false))(hl:l<H'.length)(hb:(rows.length+1)*bytes≤1099511627776):
  Eb l key (jL (l,key) es rows) es bytes [r] H'=some (jL (l,key) es (rows++[r]),H'.set (l,key) (.arr es (rows++[r]) 0 false)):=by
 unfold jL;by_cases h:rows=[]
 ·subst h;have h1:=hg rfl;have h2: ¬H'.length≤l:=(by omega);have h3:bytes≤1099511627776:=(by simpa using hb);simp [h1,h2,h3]
 ·have h1:=hg2 h;simp [h,h1,hb]
@[simp] theorem I2 {l bytes:Nat}{r:List PV}{f0:Fr}(hl:H.length=l)(hf:fr.get key=none)(hb:(rows.length+1)*bytes≤1099511627776):
  Eb l key (jL (l,key) es rows) es bytes [r] (f0::kN key es rows fr::H)=some (jL (l,key) es (rows++[r]),f0::kN key es (rows++[r]) fr::H):=by
 subst hl;rw [za (fun h=>by subst h;simp [kN,hf]) (fun h=>by simp [iK h]) (by simp;omega) hb];simp [kN];split
 ·rfl
 ·rw [Fr.jj]
theorem T1 {l l0:Nat}(hl:H.length=l)(h:l0<l):canon (clean (kN key es rows fr::H) l0 (jL (l,key) es rows))= .pure (.slice rows):=by
 subst hl;unfold jL;by_cases hr:rows=[]
 ·subst hr;simp
 ·have: ¬H.length≤l0:=(by omega);simp [hr,this,iK hr]
theorem mR {l l0:Nat}{F:Fr}(hl:H.length=l)(h:l0<l)(hF:rows≠[]→F.get key=some (.arr es rows 0 false)):cH (F::H) l0 (jL (l,key) es rows)=if rows=[]then .aO else .pure (.slice rows):=by
 subst hl;unfold jL;by_cases hr:rows=[]
 ·subst hr;simp
 ·have: ¬H.length≤l0:=(by omega);simp [hr,this,hF hr]
end
end
section
def QY (h:ae)(k:Fr→ae→Prop):Prop:=match h with|fr::H1=>k fr H1| []=>False
@[simp] theorem QZ {fr:Fr}{H:ae}{k:Fr→ae→Prop}:QY (fr::H) k=k fr H:= .trans rfl rfl
def I3 (x:Option dW)(k:dR→Prop):Prop:=match x with|some (.loop l)=>k l|_=>False
@[simp] theorem B7 {l:dR}{k:dR→Prop}:I3 (some (.loop l)) k=k l:= .trans rfl rfl
def jk:Code→Option (Code×Code)
 | .seq a b=>match jk a with|some x=>some x|none=>jk b
 | .cond _ a b=>match jk a with|some x=>some x|none=>jk b
 | .block _ a=>jk a
 | .loop a=>jk a
 | .rangeFunc _ _ a b=>some (a,b)
 |_=>none
def T2 (g:Func):Code:=((jk (g.body.getD .skip)).getD (.skip, .skip)).1
def SQ (g:Func):Code:=((jk (g.body.getD .skip)).getD (.skip, .skip)).2
section
variable (K:Ctx) (N:FuncId→Nat→List (Nat×Nat))
def ld (nm:Nm)(R:GV×ae→Prop)(e:GX)(st:bE):Prop:=
 QY st.h fun _ H2=>I3 (ae.get H2 nm) fun l2=>
  R (match e with
   | .normal=>(.pure (.bool true),ae.set H2 nm (.loop {l2 with state:= .ready,pending:=none}))
   |e=>(.pure (.bool false),ae.set H2 nm (.loop {l2 with state:= .done,pending:=some e})))
def vH (nm:Nm)(l:dR)(R:GV×ae→Prop)(e:GX)(st:bE):Prop:=
 e= .normal∧QY st.h fun fr H1=>I3 (ae.get H1 nm) fun l1=>l1.state= .ready∧
  wp K N l.fn l.body ⟨st.s,fr::ae.set H1 nm (.loop {l1 with state:= .busy}),l.nt⟩ (ld nm R)
theorem Ab {nm:Nm} {args:List GV} {H:ae} {l:dR} {s:aS} {R:GV×ae→Prop} (hl:H.get nm=some (.loop l)) (hr:l.state= .ready) (hp:fj l.c8 l.nt l.params (args.map canon)=some s)
  (ha:bD K N l.fn l.assign=true) (hb:bD K N l.fn l.body=true) (h:wp K N l.fn l.assign ⟨s,[]::H,l.nt⟩ (vH K N nm l R)):j5 (ground (aE K) nm args H) R:=by
 obtain⟨e,st,h1,rfl,h2⟩:=eV K N l.fn l.assign h ha;unfold QY at h2;split at h2
 ·rename_i fr H1 hst;unfold I3 at h2;split at h2
  ·rename_i l1 hg1;obtain⟨h3,h4⟩:=h2;obtain⟨e2,st2,h5,h6⟩:=eV K N l.fn l.body h4 hb;unfold ld QY at h6;split at h6
   ·rename_i fr2 H2 hst2;unfold I3 at h6;split at h6
    ·rename_i l2 hg2;refine⟨_, ?_,h6⟩;simp only [ground,hl,hr,if_true,hp,h1,hst,hg1,h3,ne_eq,not_true_eq_false,if_false,h5,hst2,hg2];cases e2<;>rfl
    ·exact h6.elim
   ·exact h6.elim
  ·exact h2.elim
 ·exact h2.elim
def qL (nm:Nm)(st:bE)(Q:GX→bE→Prop)(H:ae):Prop:=
 I3 (ae.get H nm) fun l=>l.state≠ .busy∧Q (match l.pending with|none=> .normal|some e=>e) {st with h:=ae.set H nm (.loop {l with state:= .exhausted})}
theorem B8 {fn:FuncId} {f:Operand} {ps:Array Tmp} {assign body:Code} {st:bE} {Q:GX→bE→Prop} {nm:Nm} {H1 H2:ae} {v:GV}
  (h1:fK st.h (10000000+aL body) (.loop {c8:=st.s,nt:=st.nt,params:=ps.toList,assign:=assign,body:=body,fn:=fn,state:= .ready,pending:=none})=some (nm,H1))
  (h2:j8 K (aE K) (ev st.s f) [.yield nm] 0 H1=some (v,H2)) (h3:qL nm st Q H2):WP K N fn (.rangeFunc f ps assign body) st Q:=fun _=>by
 rw [dD];unfold qL I3 at h3;split at h3
 ·rename_i l hg;obtain⟨h4,h5⟩:=h3;simp only [cr,h1,h2,hg,h4,if_false]
  cases hp:l.pending with
  |none=>rw [hp]at h5;exact⟨_,_,rfl,h5⟩
  |some e=>rw [hp]at h5;exact⟨_,_,rfl,h5⟩
 ·exact h3.elim
end
end
section
structure bA where
 role:Int
 cell:Int
 deriving DecidableEq
structure bU where
 cell:Int
 state:Int
 home:Int
 want:Int
 sZ:Bool
 deriving DecidableEq
structure ai where
 aQ:Int
 aY:Int
 kind:Int
 hand:Int
 bL:Int
 cell:Int
 other:Int
 dE:Int
 lf:Int
 deriving DecidableEq
structure cg where
 cell:Int
 state:Int
 deriving DecidableEq
structure bt where
 l:Int
 r:Int
 deriving DecidableEq
structure aI where
 wide:Int
 deep:Int
 ak:List bA
 aa:List bU
 seen:List Int
 bg:List Int
 aj:List ai
 deriving DecidableEq
structure az where
 ak:List Int
 ao:List bt
 aa:List cg
 deriving DecidableEq
def bA.row (p:bA):List PV:=[.int .i64 p.role, .int .i64 p.cell]
def bU.row (t:bU):List PV:=[.int .i64 t.cell, .int .i64 t.state, .int .i64 t.home, .int .i64 t.want, .bool t.sZ]
def ai.row (a:ai):List PV:=[.int .i64 a.aQ, .int .i64 a.aY, .int .i64 a.kind, .int .i64 a.hand, .int .i64 a.bL, .int .i64 a.cell, .int .i64 a.other, .int .i64 a.dE, .int .i64 a.lf]
def cg.row (s:cg):List PV:=[.int .i64 s.cell, .int .i64 s.state]
def bt.row (h:bt):List PV:=[.int .i64 h.l, .int .i64 h.r]
def ba (n:Int):List PV:=[.int .i64 n]
def aI.row (r:aI):List PV:=[.int .i64 r.wide, .int .i64 r.deep, .slice (r.ak.map bA.row), .slice (r.aa.map bU.row), .slice (r.seen.map ba), .slice (r.bg.map ba), .slice (r.aj.map ai.row)]
def az.row (s:az):List PV:=[.slice (s.ak.map ba), .slice (s.ao.map bt.row), .slice (s.aa.map cg.row)]
@[simp] theorem SR {f:Nat}:KC.B0 f=BZ.contains f:= .trans rfl rfl
attribute [simp] BZ
section
variable {f c:Nat} {H:ae} {args:List GV} {p:PV}
theorem ey (hc:KC.vw f=false) (hb:KC.vF f=true) (hz:(br H args).1.map canon=args) (hq:mS args=some none) (hfl:iL p=true) (hH:0<H.length)
  (h0: ∀H:ae,0<H.length→bG KC (aE KC) f args c H=some (.pure p,H)):aK KC (aE KC) f args c H=some (.pure p,H):=iM KC hc hb hz hq hH h0 hfl
end
variable {c:Nat} {H:ae}
def cF (x lo hi:Int):Bool:=decide (lo≤x) && decide (x≤hi)
theorem cE {x lo hi:Int}(hH:0<H.length):aK KC (aE KC) 41 [.pure (.int .i64 x), .pure (.int .i64 lo), .pure (.int .i64 hi)] c H=some (.pure (.bool (cF x lo hi)),H):=by
 refine ey rfl rfl rfl rfl rfl hH fun H hH=> ?_;refine aU (aM KC au Try.func41 rfl rfl K0 (by simp) hH ?_);by_cases h:lo≤x
 ·simp [h,cF,ah]
 ·simp [h,cF,ah]
theorem l6 {x lo hi:Int}:cF x lo hi=true↔lo≤x∧x≤hi:=by simp [cF]
end
section
variable {c:Nat} {H:ae}
@[simp] theorem Q0:IntKind.u64.bits=64:=rfl
@[simp] theorem Q1:IntKind.i64.bits=64:=rfl
theorem eW {K:Ctx}{f:Nat}{c:Nat}{r:GV}{fr:Fr}(h:K.B0 f=true):fB K f c r (fr::H)=(match eJ (BJ c fr H (dedup (ez fr H.length (refs H.length r))) (H.length-1)) fr H c (dedup (ez fr H.length (refs H.length r))) H with|some H'=>some (Ew H.length c r,H')|none=>none):=by
 unfold fB;simp only [h,if_true];rfl
end
section
variable {c:Nat} {H:ae}
@[simp] theorem T3:IntKind.i64.wrap 1=1:=rfl
@[simp] theorem T4:IntKind.i64.wrap 0=0:=rfl
noncomputable def c9:Int→Int→Int:=o8 fun w d=>IntKind.i64.wrap (IntKind.i64.wrap (w*d)-1)
theorem vI (w d:Int):c9 w d=IntKind.i64.wrap (IntKind.i64.wrap (w*d)-1):=by rw [c9,bR]
theorem vJ {w d:Int}{x1 x2 x3 x4 x5:PV}(hH:0<H.length):aK KC (aE KC) 86 [.pure (.agg [.int .i64 w, .int .i64 d,x1,x2,x3,x4,x5])] c H=some (.pure (.int .i64 (IntKind.i64.wrap (w*d))),H):=by
 refine ey rfl rfl rfl rfl rfl hH fun H hH=> ?_;refine aU (aM KC au Try.func86 rfl rfl Lo (by simp) hH ?_);simp [ah]
theorem dS {w d n:Int}{x1 x2 x3 x4 x5:PV}(hH:0<H.length):aK KC (aE KC) 65 [.pure (.agg [.int .i64 w, .int .i64 d,x1,x2,x3,x4,x5]), .pure (.int .i64 n)] c H=some (.pure (.bool (cF n 0 (c9 w d))),H):=by
 refine ey rfl rfl rfl rfl rfl hH fun H hH=> ?_;refine aU (aM KC au Try.func65 rfl rfl La (by simp) hH ?_);simp [ah,vJ,cE,vI]
def bH (g:Nat→Int):Nat→Nat→Int
 |0,_=>0
 |k+1,i=>if g i≠0 then g i else bH g k (i+1)
noncomputable def mv:(Int→Bool)→Int→List Int→Nat→Int:=o8 fun p e l i=>if p (l.getD i 0)=false then e else if 0<i∧l.getD i 0≤l.getD (i-1) 0 then 11 else 0
theorem vK (p:Int→Bool)(e:Int)(l:List Int)(i:Nat):mv p e l i=if p (l.getD i 0)=false then e else if 0<i∧l.getD i 0≤l.getD (i-1) 0 then 11 else 0:=by rw [mv,bR]
theorem B9 (l:List Int) (hn:l.length≤4611686018427387904) (p:Int→Bool) (e:Int) (he0:e≠0) (g:GV) (hg: ∀(x:Int) (c:Nat) (fr:Fr),cV KC (aE KC) g [.pure (.int .i64 x)] c (fr::H)=some (.pure (.bool (p x)),fr::H))
  (hcl: ∀fr,clean (fr::H) (H.length-1) g=g) (Q:GX→bE→Prop) (hH:0<H.length): ∀k i:Nat,i+k=l.length→
  (bH (mv p e l) k i=0→Q (.exit 0) ⟨[(6,aG)],H,35⟩)→(bH (mv p e l) k i≠0→Q .ret ⟨[(6, .pure (.int .i64 (bH (mv p e l) k i)))],H,35⟩)→
  jf KC au 66 (lp Try.f66 0) [0,1,2,9,10,11] [6] Q [(0, .pure (.slice (l.map ba))),(1,g),(2, .pure (.int .i64 e)),(9, .pure (.slice (l.map ba))),(10, .pure (.int .i64 l.length)),(11, .pure (.int .i64 i))] H 35:=by
 intro k
 induction k with
 |zero=>
  intro i hi h1 h2;apply aw;conv=>arg 4;whnf
  have: ¬i<l.length:=(by omega);simp [this,hH];exact h1 rfl
 |succ k ih=>
  intro i hi h1 h2;have hia:i<l.length:=(by omega);have hw:=dM (x:=(i:Int)+1) (by omega) (by omega);have hw2:=dM (x:=(i:Int)-1) (by omega) (by omega);have ih':=ih (i+1) (by omega);unfold bH at h1 h2;have hf:=vK p e l i;have hgi:l.getD i 0=l[i]:=(by simp [List.getD_eq_getElem?_getD,hia]);rw [hgi]at hf;apply aw;conv=>arg 4;whnf
  by_cases hp:p l[i]=true
  ·by_cases h0:0<i
   ·have h0':(0:Int)<i:=(by omega);have hi1:i-1<l.length:=(by omega);have hgi1:l.getD (i-1) 0=l[i-1]:=(by simp [List.getD_eq_getElem?_getD,hi1]);have hnn: ¬(i:Int)-1<0:=(by omega);have htn:((i:Int)-1).toNat=i-1:=(by omega);rw [hgi1]at hf;by_cases hle:l[i]≤l[i-1]
    ·simp [hp,h0,hle]at hf;simp [hf]at h1 h2;simp [hia,hH,ba,hg,hp,hw,hw2,h0,h0',hnn,htn,hi1,hle];exact h2
    ·simp [hp,h0,hle]at hf;simp [hf]at h1 h2;simp [hia,hH,ba,hg,hp,hw,hw2,h0,h0',hnn,htn,hi1,hle,hcl];simpa [ba]using ih' h1 h2
   ·have h00:i=0:=(by omega);simp [hp,h0]at hf;simp [hf]at h1 h2;subst h00;simp [hia,hH,ba,hg,hp,hw,hcl];simpa [ba]using ih' h1 h2
  ·have hp':p l[i]=false:=(by simpa using hp);simp [hp']at hf;simp [hf,he0]at h1 h2;simp [hia,hH,ba,hg,hp'];exact h2
theorem Ca (l:List Int) (hn:l.length≤4611686018427387904) (p:Int→Bool) (e:Int) (he0:e≠0) (g:GV) (hcan:canon g=g) (hfz: ∀H,cZ H g=(g,H)) (hg: ∀(x:Int) (c:Nat) (f0 fr:Fr),cV KC (aE KC) g [.pure (.int .i64 x)] c (f0::fr::H)=some (.pure (.bool (p x)),f0::fr::H))
  (hcl: ∀f0 fr,clean (f0::fr::H) (H.length) g=g) (hH:0<H.length):
  aK KC (aE KC) 66 [.pure (.slice (l.map ba)),g, .pure (.int .i64 e)] c H=some (.pure (.int .i64 (bH (mv p e l) l.length 0)),H):=by
 refine aU (bw KC au Try.func66 rfl rfl Lb (by simp [br,hfz]) rfl rfl (by simp) hH ?_);simp [hcan];refine B9 (H:=[]::H) l hn p e he0 g (fun x c fr=>hg x c fr []) (fun fr=>by simpa using hcl fr []) _ (by simp) l.length 0 (by omega) (fun h=> ?_) (fun h=> ?_)
 ·simp [h,ah]
 ·simp [ah]
theorem Cb {w d x:Int}{x1 x2 x3 x4 x5:PV}{nm:Nm}(hg:H.get nm=some (.box [.pure (.int .i64 w), .pure (.int .i64 d), .pure x1, .pure x2, .pure x3, .pure x4, .pure x5])):
  aK KC (aE KC) 67 [.pure (.int .i64 x), .aA nm 0] c H=some (.pure (.bool (cF x 0 (c9 w d))),H):=by
 have hl:nm.1<H.length:=ae.cj hg;have hne: ¬nm.1=H.length:=(by omega);refine aU (bw KC au Try.func67 rfl rfl Lc rfl rfl rfl (by simp) (by omega) ?_);simp [ah,dS,hg,hne]
theorem Cc {x:Int}(hH:0<H.length):
  aK KC (aE KC) 68 [.pure (.int .i64 x)] c H=some (.pure (.bool (cF x 1 3)),H):=by
 refine aU (bw KC au Try.func68 rfl rfl Ld rfl rfl rfl (by simp) hH ?_);simp [ah,cE]
def dc (ps:List bA)(i:Nat)(x:Int):Bool:=(ps.take i).any fun q=>q.cell==x
noncomputable def gd:Int→List bA→Nat→Int:=o8 fun t ps i=>
 if cF (ps.getD i ⟨0,0⟩).role 1 3=false then 4 else if cF (ps.getD i ⟨0,0⟩).cell 0 t=false then 7 else if dc ps i (ps.getD i ⟨0,0⟩).cell=true then 12 else 0
theorem o9 (t:Int)(ps:List bA)(i:Nat):gd t ps i=
 if cF (ps.getD i ⟨0,0⟩).role 1 3=false then 4 else if cF (ps.getD i ⟨0,0⟩).cell 0 t=false then 7 else if dc ps i (ps.getD i ⟨0,0⟩).cell=true then 12 else 0:=by rw [gd,bR]
noncomputable def iO:Int→List bU→Nat→Int:=o8 fun t ts i=>
 if cF (ts.getD i ⟨0,0,0,0,false⟩).cell 0 t=false∨cF (ts.getD i ⟨0,0,0,0,false⟩).home 0 t=false then 7 else if cF (ts.getD i ⟨0,0,0,0,false⟩).state 0 15=false∨cF (ts.getD i ⟨0,0,0,0,false⟩).want 0 15=false then 2 else 0
theorem qM (t:Int)(ts:List bU)(i:Nat):iO t ts i=
 if cF (ts.getD i ⟨0,0,0,0,false⟩).cell 0 t=false∨cF (ts.getD i ⟨0,0,0,0,false⟩).home 0 t=false then 7 else if cF (ts.getD i ⟨0,0,0,0,false⟩).state 0 15=false∨cF (ts.getD i ⟨0,0,0,0,false⟩).want 0 15=false then 2 else 0:=by rw [iO,bR]
noncomputable def kO:aI→Int:=o8 fun r=>
 if cF r.wide 1 6=false∨cF r.deep 1 6=false then 2 else if r.ak.length=0 then 6 else if 4<r.ak.length then 8
 else if bH (gd (c9 r.wide r.deep) r.ak) r.ak.length 0≠0 then bH (gd (c9 r.wide r.deep) r.ak) r.ak.length 0
 else if 8<r.aa.length then 8
 else if bH (iO (c9 r.wide r.deep) r.aa) r.aa.length 0≠0 then bH (iO (c9 r.wide r.deep) r.aa) r.aa.length 0
 else if bH (mv (fun x=>cF x 0 (c9 r.wide r.deep)) 7 r.seen) r.seen.length 0≠0 then bH (mv (fun x=>cF x 0 (c9 r.wide r.deep)) 7 r.seen) r.seen.length 0
 else bH (mv (fun x=>cF x 1 3) 4 r.bg) r.bg.length 0
theorem td (r:aI):kO r=
 if cF r.wide 1 6=false∨cF r.deep 1 6=false then 2 else if r.ak.length=0 then 6 else if 4<r.ak.length then 8
 else if bH (gd (c9 r.wide r.deep) r.ak) r.ak.length 0≠0 then bH (gd (c9 r.wide r.deep) r.ak) r.ak.length 0
 else if 8<r.aa.length then 8
 else if bH (iO (c9 r.wide r.deep) r.aa) r.aa.length 0≠0 then bH (iO (c9 r.wide r.deep) r.aa) r.aa.length 0
 else if bH (mv (fun x=>cF x 0 (c9 r.wide r.deep)) 7 r.seen) r.seen.length 0≠0 then bH (mv (fun x=>cF x 0 (c9 r.wide r.deep)) 7 r.seen) r.seen.length 0
 else bH (mv (fun x=>cF x 1 3) 4 r.bg) r.bg.length 0:=by rw [kO,bR]
def bs (r:aI):dW:= .box [.pure (.int .i64 r.wide), .pure (.int .i64 r.deep), .pure (.slice (r.ak.map bA.row)), .pure (.slice (r.aa.map bU.row)), .pure (.slice (r.seen.map ba)), .pure (.slice (r.bg.map ba)), .pure (.slice (r.aj.map ai.row))]
theorem sH (ps:List bA)(i:Nat)(h:i<ps.length)(x:Int):dc ps (i+1) x=(dc ps i x||ps[i].cell==x):=by
 unfold dc;rw [List.take_succ_eq_append_getElem h,List.any_append];simp
theorem Ac (ps:List bA)(n:Nat)(hn:n≤ps.length)(hl:ps.length≤4)(p:bA)(r:aI)(g30 g31 g32:PV)(Q:GX→bE→Prop)(f0:Fr)(hf0:f0=[(4, .box [.pure (.int .i64 p.role), .pure (.int .i64 p.cell)])]):
  ∀k i:Nat,i+k=n→dc ps i p.cell=false→
  (dc ps n p.cell=false→Q (.exit 4) ⟨[(1, .aA (H.length,1) 0),(2,aG),(30, .pure g30),(31, .pure g31),(32, .pure g32)],f0::[(1,bs r)]::H,106⟩)→
  (dc ps n p.cell=true→Q .ret ⟨[(1, .aA (H.length,1) 0),(2, .pure (.int .i64 12)),(30, .pure g30),(31, .pure g31),(32, .pure g32)],f0::[(1,bs r)]::H,106⟩)→
  jf KC au 40 (lp Try.f40 1) [1,4,30,31,32,51,52,53] [1,2,30,31,32] Q
   [(1, .aA (H.length,1) 0),(4, .aA (H.length+1,4) 0),(30, .pure g30),(31, .pure g31),(32, .pure g32),(51, .pure (.slice ((ps.take n).map bA.row))),(52, .pure (.int .i64 n)),(53, .pure (.int .i64 i))] (f0::[(1,bs r)]::H) 106:=by
 subst hf0;intro k
 induction k with
 |zero=>
  intro i hi hs h1 h2;have e:i=n:=(by omega);subst e;apply aw;conv=>arg 4;whnf
  simp [bs];exact h1 hs
 |succ k ih=>
  intro i hi hs h1 h2;have hin:i<n:=(by omega);have hil:i<ps.length:=(by omega);have hw:=dM (x:=(i:Int)+1) (by omega) (by omega);have hs1:=sH ps i hil p.cell;apply aw;conv=>arg 4;whnf
  by_cases he:ps[i].cell=p.cell
  ·have ht:dc ps n p.cell=true:=by
    unfold dc;rw [List.any_eq_true];exact⟨ps[i],List.mem_take_iff_getElem.2 ⟨i,by omega,rfl⟩,by simp [he]⟩
   simp [hin,hil,hw,bs,bA.row,he];exact h2 ht
  ·have hs':dc ps (i+1) p.cell=false:=(by rw [hs1,hs];simpa using he);have he':(ps[i].cell==p.cell)=false:=(by simpa using he);simp [hin,hil,hw,bs,bA.row,he'];simpa [bs]using ih (i+1) (by omega) hs' h1 h2
end
section
variable {c:Nat} {H:ae}
theorem vL (r:aI)(hl:r.ak.length≤4)(Q:GX→bE→Prop): ∀k i:Nat,i+k=r.ak.length→
  (bH (gd (c9 r.wide r.deep) r.ak) k i=0→Q (.exit 1) ⟨[(1, .aA (H.length,1) 0),(2,aG)],[(1,bs r)]::H,106⟩)→
  (bH (gd (c9 r.wide r.deep) r.ak) k i≠0→Q .ret ⟨[(1, .aA (H.length,1) 0),(2, .pure (.int .i64 (bH (gd (c9 r.wide r.deep) r.ak) k i)))],[(1,bs r)]::H,106⟩)→
  jf KC au 40 (lp Try.f40 0) [1,30,31,32] [1,2] Q
   [(1, .aA (H.length,1) 0),(30, .pure (.slice (r.ak.map bA.row))),(31, .pure (.int .i64 r.ak.length)),(32, .pure (.int .i64 i))] ([(1,bs r)]::H) 106:=by
 intro k
 induction k with
 |zero=>
  intro i hi h1 h2;apply aw;conv=>arg 4;whnf
  have: ¬i<r.ak.length:=(by omega);simp [this];exact h1 rfl
 |succ k ih=>
  intro i hi h1 h2;have hia:i<r.ak.length:=(by omega);have hw:=dM (x:=(i:Int)+1) (by omega) (by omega);have ih':=ih (i+1) (by omega);unfold bH at h1 h2;have hf:=o9 (c9 r.wide r.deep) r.ak i;have hgi:r.ak.getD i ⟨0,0⟩=r.ak[i]:=(by simp [List.getD_eq_getElem?_getD,hia]);rw [hgi]at hf;have hmin:min i r.ak.length=i:=(by omega);have hile:i≤r.ak.length:=(by omega);have hnn: ¬(r.ak.length:Int)<i:=(by omega);apply aw;conv=>arg 4;whnf
  by_cases h3:cF r.ak[i].role 1 3=true
  ·by_cases h4:cF r.ak[i].cell 0 (c9 r.wide r.deep)=true
   ·simp [hia,hile,hmin,bA.row,bs,cE,dS,h3,h4];have L:=fun Q=>Ac (H:=H) r.ak i (by omega) hl r.ak[i] r (.slice (r.ak.map bA.row)) (.int .i64 r.ak.length) (.int .i64 i) Q _ rfl i 0 (by omega) (by simp [dc]);simp [bs]at L;refine L _ (fun h5=> ?_) (fun h5=> ?_)
    ·simp [h3,h4,h5]at hf;simp [hf]at h1 h2;simp [hw];simpa [bs]using ih' h1 h2
    ·simp [h3,h4,h5]at hf;simp [hf]at h1 h2;simp;simpa [bs]using h2
   ·have h4':cF r.ak[i].cell 0 (c9 r.wide r.deep)=false:=(by simpa using h4);simp [h3,h4']at hf;simp [hf]at h1 h2;simp [hia,bA.row,bs,cE,dS,h3,h4'];simpa [bs]using h2
  ·have h3':cF r.ak[i].role 1 3=false:=(by simpa using h3);simp [h3']at hf;simp [hf]at h1 h2;simp [hia,bA.row,bs,cE,dS,h3'];simpa [bs]using h2
theorem xK (r:aI)(hl:r.aa.length≤8)(Q:GX→bE→Prop): ∀k i:Nat,i+k=r.aa.length→
  (bH (iO (c9 r.wide r.deep) r.aa) k i=0→Q (.exit 6) ⟨[(1, .aA (H.length,1) 0),(2,aG)],[(1,bs r)]::H,106⟩)→
  (bH (iO (c9 r.wide r.deep) r.aa) k i≠0→Q .ret ⟨[(1, .aA (H.length,1) 0),(2, .pure (.int .i64 (bH (iO (c9 r.wide r.deep) r.aa) k i)))],[(1,bs r)]::H,106⟩)→
  jf KC au 40 (lp Try.f40 2) [1,69,70,71] [1,2] Q
   [(1, .aA (H.length,1) 0),(69, .pure (.slice (r.aa.map bU.row))),(70, .pure (.int .i64 r.aa.length)),(71, .pure (.int .i64 i))] ([(1,bs r)]::H) 106:=by
 intro k
 induction k with
 |zero=>
  intro i hi h1 h2;apply aw;conv=>arg 4;whnf
  have: ¬i<r.aa.length:=(by omega);simp [this];exact h1 rfl
 |succ k ih=>
  intro i hi h1 h2;have hia:i<r.aa.length:=(by omega);have hw:=dM (x:=(i:Int)+1) (by omega) (by omega);have ih':=ih (i+1) (by omega);unfold bH at h1 h2;have hf:=qM (c9 r.wide r.deep) r.aa i;have hgi:r.aa.getD i ⟨0,0,0,0,false⟩=r.aa[i]:=(by simp [List.getD_eq_getElem?_getD,hia]);rw [hgi]at hf;apply aw;conv=>arg 4;whnf
  cases h3:cF r.aa[i].cell 0 (c9 r.wide r.deep)with
  |false=>
   simp [h3]at hf;simp [hf]at h1 h2;simp [hia,bU.row,bs,cE,dS,h3];simpa [bs]using h2
  |true=>
   cases h4:cF r.aa[i].home 0 (c9 r.wide r.deep)with
   |false=>
    simp [h3,h4]at hf;simp [hf]at h1 h2;simp [hia,bU.row,bs,cE,dS,h3,h4];simpa [bs]using h2
   |true=>
    cases h5:cF r.aa[i].state 0 15 with
    |false=>
     simp [h3,h4,h5]at hf;simp [hf]at h1 h2;simp [hia,bU.row,bs,cE,dS,h3,h4,h5];simpa [bs]using h2
    |true=>
     cases h6:cF r.aa[i].want 0 15 with
     |false=>
      simp [h3,h4,h5,h6]at hf;simp [hf]at h1 h2;simp [hia,bU.row,bs,cE,dS,h3,h4,h5,h6];simpa [bs]using h2
     |true=>
      simp [h3,h4,h5,h6]at hf;simp [hf]at h1 h2;simp [hia,bU.row,bs,cE,dS,h3,h4,h5,h6,hw];simpa [bs]using ih' h1 h2
theorem iP (r:aI):r.row=[.int .i64 r.wide, .int .i64 r.deep, .slice (r.ak.map bA.row), .slice (r.aa.map bU.row), .slice (r.seen.map ba), .slice (r.bg.map ba), .slice (r.aj.map ai.row)]:=rfl
theorem Gk (r:aI){x:Int}{nm:Nm}(hg:H.get nm=some (bs r)):aK KC (aE KC) 67 [.pure (.int .i64 x), .aA nm 0] c H=some (.pure (.bool (cF x 0 (c9 r.wide r.deep))),H):=Cb hg
theorem ui (r:aI)(h1:r.seen.length≤1000000)(h2:r.bg.length≤1000000)(h3:r.ak.length≤1000000)(h4:r.aa.length≤1000000)(hH:0<H.length):
  aK KC (aE KC) 40 [.pure (.agg r.row)] c H=some (.pure (.int .i64 (kO r)),H):=by
 refine ey rfl rfl rfl rfl rfl hH fun H hH=> ?_;refine aU (aM KC au Try.func40 rfl rfl KZ (by simp) hH ?_);have hr:=td r;rw [iP]
 cases e1:cF r.wide 1 6 with
 |false=>
  simp [e1]at hr;simp [cE,e1,ah,hr]
 |true=>
 cases e2:cF r.deep 1 6 with
 |false=>
  simp [e1,e2]at hr;simp [cE,e1,e2,ah,hr]
 |true=>
 by_cases e3:r.ak.length=0
 ·have e3':r.ak=[]:=List.length_eq_zero_iff.1 e3;simp [e1,e2,e3,e3']at hr;simp [cE,e1,e2,e3,e3',ah,hr]
 have e3':((r.ak.length:Int)==0)=false:=beq_eq_false_iff_ne.2 (by omega);by_cases e4:4<r.ak.length
 ·have e4':(4:Int)<r.ak.length:=(by omega);simp [e1,e2,e3,e4]at hr;simp [cE,e1,e2,e3,e3',e4,e4',ah,hr]
 have e4': ¬(4:Int)<r.ak.length:=(by omega);simp only [e1,e2,e3,e4,Bool.true_eq_false,or_self,if_false]at hr;simp [cE,e1,e2,e3,e3',e4,e4'];have L:=fun Q=>vL (H:=H) r (by omega) Q r.ak.length 0 (by omega);simp [bs]at L;refine L _ (fun z1=> ?_) (fun z1=> ?_)
 ·by_cases e5:8<r.aa.length
  ·have e5':(8:Int)<r.aa.length:=(by omega);simp [z1,e5]at hr;simp [e5',e5,ah,hr]
  ·have e5': ¬(8:Int)<r.aa.length:=(by omega);simp only [z1,e5,ne_eq,not_true_eq_false,if_false]at hr;simp [e5',e5];have L2:=fun Q=>xK (H:=H) r (by omega) Q r.aa.length 0 (by omega);simp [bs]at L2;refine L2 _ (fun z2=> ?_) (fun z2=> ?_)
   ·simp only [z2,ne_eq,not_true_eq_false,if_false]at hr;have A:=fun c=>Ca (c:=c) (H:=[(1,bs r)]::H) r.seen (by omega) (fun x=>cF x 0 (c9 r.wide r.deep)) 7 (by decide) (.func 67 [] [.aA (H.length,1) 0]) rfl (fun _=>rfl) (fun x c f0 fr=>by
     rw [nu];exact Gk r (by simp)) (fun f0 fr=>by simp) (by simp)
    have B:=fun(H:ae) c (hH:0<H.length)=>Ca (c:=c) (H:=H) r.bg (by omega) (fun x=>cF x 1 3) 4 (by decide) (.pure (.fn 68)) rfl (fun _=>rfl) (fun x c f0 fr=>by
     rw [qN];exact Cc (by simp)) (fun f0 fr=>by simp) hH
    simp [bs]at A;by_cases z3:bH (mv (fun x=>cF x 0 (c9 r.wide r.deep)) 7 r.seen) r.seen.length 0=0
    ·simp only [z3,ne_eq,not_true_eq_false,if_false]at hr;simp [A,z3,B,ah,hr]
    ·have z3':(bH (mv (fun x=>cF x 0 (c9 r.wide r.deep)) 7 r.seen) r.seen.length 0 !=0)=true:=(by simpa using z3);simp only [z3,ne_eq,not_false_eq_true,if_true]at hr;simp [A,z3,z3',ah,hr]
   ·simp [z2]at hr;simp [ah,hr]
 ·simp [z1]at hr;simp [ah,hr]
end
section
variable {c:Nat} {H:ae}
def kP (a:ai):Bool:=
 if a.kind=1 then decide (a.hand=0∧a.bL=0∧a.other=0)
 else if a.kind=2 then decide (a.cell=0∧a.other=0)
 else if a.kind=4 then decide (a.bL=0∧a.cell=0)
 else decide (a.bL=0∧a.cell=0∧a.other=0)
noncomputable def eK:Int→Int→Int→ai→Int:=o8 fun t nt np a=>
 if cF a.kind 1 8=false then 4 else if kP a=false then 3 else if a.kind=1∧cF a.cell 0 t=false then 7 else if cF a.hand 0 1=false then 2
 else if a.kind=2∧cF a.bL 0 (nt-1)=false then 7 else if a.kind=4∧cF a.other 0 (np-1)=false then 7 else if a.kind=4∧a.other=a.aY then 3 else 0
theorem pe (t nt np:Int)(a:ai):eK t nt np a=
 if cF a.kind 1 8=false then 4 else if kP a=false then 3 else if a.kind=1∧cF a.cell 0 t=false then 7 else if cF a.hand 0 1=false then 2
 else if a.kind=2∧cF a.bL 0 (nt-1)=false then 7 else if a.kind=4∧cF a.other 0 (np-1)=false then 7 else if a.kind=4∧a.other=a.aY then 3 else 0:=by rw [eK,bR]
theorem xL (k:Int):k=1∨k=2∨k=4∨(k=3∨k=5∨k=6∨k=7∨k=8)∨(cF k 1 8=false∧k≠1∧k≠2∧k≠3∧k≠4∧k≠5∧k≠6∧k≠7∧k≠8):=by
 by_cases h:1≤k∧k≤8
 ·omega
 ·refine .inr (.inr (.inr (.inr ⟨?_,by omega,by omega,by omega,by omega,by omega,by omega,by omega,by omega⟩)));simp [cF];omega
theorem qO {r:aI}{q1 q2 kind hand bL cell other q3 q4:Int}(h1:r.ak.length≤1000000)(h2:r.aa.length≤1000000)(hH:0<H.length):
  aK KC (aE KC) 44 [.pure (.agg r.row), .pure (.agg [.int .i64 q1, .int .i64 q2, .int .i64 kind, .int .i64 hand, .int .i64 bL, .int .i64 cell, .int .i64 other, .int .i64 q3, .int .i64 q4])] c H=
   some (.pure (.int .i64 (eK (c9 r.wide r.deep) r.aa.length r.ak.length ⟨q1,q2,kind,hand,bL,cell,other,q3,q4⟩)),H):=by
 refine ey rfl rfl rfl rfl rfl hH fun H hH=> ?_;refine aU (aM KC au Try.func44 rfl rfl K5 (by simp) hH ?_);have hr:=pe (c9 r.wide r.deep) r.aa.length r.ak.length ⟨q1,q2,kind,hand,bL,cell,other,q3,q4⟩;simp only [kP]at hr;rw [iP];have w1:=dM (x:=(r.ak.length:Int)-1) (by omega) (by omega);have w2:=dM (x:=(r.aa.length:Int)-1) (by omega) (by omega);have i0:cF 0 0 1=true:=rfl;rcases xL kind with rfl|rfl|rfl|hk|⟨hk,n1,n2,n3,n4,n5,n6,n7,n8⟩
 ·have i1:cF 1 1 8=true:=rfl;by_cases a1:hand=0
  ·by_cases a2:bL=0
   ·by_cases a3:other=0
    ·subst a1;subst a2;subst a3
     cases a4:cF cell 0 (c9 r.wide r.deep)with
     |false=>
      simp [a4,i1,i0]at hr;simp [cE,dS,a4,ah,hr]
     |true=>
      simp [a4,i1,i0]at hr;simp [cE,dS,a4,i0,ah,hr]
    ·have a3':(other==0)=false:=(by simpa using a3);subst a1;subst a2;simp [a3,i1]at hr;simp [a3',bne,ah,hr]
   ·have a2':(bL==0)=false:=(by simpa using a2);subst a1;simp [a2,i1]at hr;simp [a2',bne,ah,hr]
  ·have a1':(hand==0)=false:=(by simpa using a1);simp [a1,i1]at hr;simp [a1',bne,ah,hr]
 ·have i1:cF 2 1 8=true:=rfl;by_cases a1:cell=0
  ·by_cases a2:other=0
   ·subst a1;subst a2
    cases a3:cF hand 0 1 with
    |false=>
     simp [a3,i1]at hr;simp [cE,a3,ah,hr]
    |true=>
     cases a4:cF bL 0 ((r.aa.length:Int)-1)with
     |false=>
      simp [a3,a4,i1]at hr;simp [cE,a3,a4,w2,ah,hr]
     |true=>
      simp [a3,a4,i1]at hr;simp [cE,a3,a4,w2,ah,hr]
   ·have a2':(other==0)=false:=(by simpa using a2);subst a1;simp [a2,i1]at hr;simp [a2',bne,ah,hr]
  ·have a1':(cell==0)=false:=(by simpa using a1);simp [a1,i1]at hr;simp [a1',bne,ah,hr]
 ·have i1:cF 4 1 8=true:=rfl;by_cases a1:bL=0
  ·by_cases a2:cell=0
   ·subst a1;subst a2
    cases a3:cF hand 0 1 with
    |false=>
     simp [a3,i1]at hr;simp [cE,a3,ah,hr]
    |true=>
     cases a4:cF other 0 ((r.ak.length:Int)-1)with
     |false=>
      simp [a3,a4,i1]at hr;simp [cE,a3,a4,w1,ah,hr]
     |true=>
      by_cases a5:other=q2
      ·subst a5;simp [a3,a4,i1]at hr;simp [cE,a3,a4,w1,ah,hr]
      ·have a5':(other==q2)=false:=(by simpa using a5);simp [a3,a4,a5,i1]at hr;simp [cE,a3,a4,a5',w1,ah,hr]
   ·have a2':(cell==0)=false:=(by simpa using a2);subst a1;simp [a2,i1]at hr;simp [a2',bne,ah,hr]
  ·have a1':(bL==0)=false:=(by simpa using a1);simp [a1,i1]at hr;simp [a1',bne,ah,hr]
 ·have i1:cF kind 1 8=true:=(by simp [cF];omega);have m1:kind≠1:=(by omega);have m2:kind≠2:=(by omega);have m4:kind≠4:=(by omega);by_cases a1:bL=0
  ·by_cases a2:cell=0
   ·by_cases a3:other=0
    ·subst a1;subst a2;subst a3
     cases a4:cF hand 0 1 with
     |false=>
      simp [a4,i1,m1,m2,m4]at hr;rcases hk with rfl|rfl|rfl|rfl|rfl<;>simp [cE,a4,ah,hr]
     |true=>
      simp [a4,i1,m1,m2,m4]at hr;rcases hk with rfl|rfl|rfl|rfl|rfl<;>simp [cE,a4,ah,hr]
    ·have a3':(other==0)=false:=(by simpa using a3);subst a1;subst a2;simp [a3,i1,m1,m2,m4]at hr;rcases hk with rfl|rfl|rfl|rfl|rfl<;>simp [a3',bne,ah,hr]
   ·have a2':(cell==0)=false:=(by simpa using a2);subst a1;simp [a2,i1,m1,m2,m4]at hr;rcases hk with rfl|rfl|rfl|rfl|rfl<;>simp [a2',bne,ah,hr]
  ·have a1':(bL==0)=false:=(by simpa using a1);simp [a1,i1,m1,m2,m4]at hr;rcases hk with rfl|rfl|rfl|rfl|rfl<;>simp [a1',bne,ah,hr]
 ·have e1:(kind==1)=false:=(by simpa using n1);have e2:(kind==2)=false:=(by simpa using n2);have e3:(kind==3)=false:=(by simpa using n3);have e4:(kind==4)=false:=(by simpa using n4);have e5:(kind==5)=false:=(by simpa using n5);have e6:(kind==6)=false:=(by simpa using n6);have e7:(kind==7)=false:=(by simpa using n7);have e8:(kind==8)=false:=(by simpa using n8);simp [hk]at hr;simp [e1,e2,e3,e4,e5,e6,e7,e8,ah,hr]
end
section
variable {c:Nat} {H:ae}
def lg (p:Nat→Bool):Nat→Nat→Int
 |0,_=> -1
 |k+1,i=>if p i=true then (i:Int)else lg p k (i+1)
theorem lh {p:Nat→Bool}: ∀{k i:Nat},0≤lg p k i↔ ∃j,i≤j∧j<i+k∧p j=true
 |0,i=>by simp [lg];intro j h1 h2;omega
 |k+1,i=>by
  unfold lg;by_cases h:p i=true
  ·simp only [h,if_true];exact⟨fun _=>⟨i,Nat.le_refl _,by omega,h⟩,fun _=>by omega⟩
  ·rw [if_neg h,lh];constructor
   ·rintro⟨j,h1,h2,h3⟩;exact⟨j,by omega,by omega,h3⟩
   ·rintro⟨j,h1,h2,h3⟩;rcases Nat.lt_or_ge i j with h4|h4
    ·exact⟨j,h4,by omega,h3⟩
    ·have:j=i:=(by omega);subst this;exact absurd h3 h
def ct:ai:=⟨0,0,0,0,0,0,0,0,0⟩
@[simp] theorem ai.eta (a:ai):(⟨a.aQ,a.aY,a.kind,a.hand,a.bL,a.cell,a.other,a.dE,a.lf⟩:ai)=a:=rfl
def LA (p:ai→Bool)(l:List ai)(j:Nat):Bool:=p (l.getD j ct)
theorem uj (p:ai→Bool)(l:List ai)(i:Nat)(h:i<l.length):LA p l i=p l[i]:=by simp [LA,List.getD_eq_getElem?_getD,h]
theorem Cd (l:List ai) (hn:l.length≤4611686018427387904) (p:ai→Bool) (g:GV) (hg: ∀(x:ai) (c:Nat) (fr:Fr),cV KC (aE KC) g [.pure (.agg x.row)] c (fr::H)=some (.pure (.bool (p x)),fr::H))
  (hcl: ∀fr,clean (fr::H) (H.length-1) g=g) (Q:GX→bE→Prop) (hH:0<H.length): ∀k i:Nat,i+k=l.length→
  (lg (LA p l) k i= -1→Q (.exit 0) ⟨[(4,aG)],H,19⟩)→(0≤lg (LA p l) k i→Q .ret ⟨[(4, .pure (.int .i64 (lg (LA p l) k i)))],H,19⟩)→
  jf KC au 69 (lp Try.f69 0) [0,1,7,8] [4] Q [(0, .pure (.slice (l.map ai.row))),(1,g),(7, .pure (.int .i64 l.length)),(8, .pure (.int .i64 i))] H 19:=by
 intro k
 induction k with
 |zero=>
  intro i hi h1 h2;apply aw;conv=>arg 4;whnf
  have: ¬i<l.length:=(by omega);simp [this,hH];exact h1 rfl
 |succ k ih=>
  intro i hi h1 h2;have hia:i<l.length:=(by omega);have hw:=dM (x:=(i:Int)+1) (by omega) (by omega);have ih':=ih (i+1) (by omega);unfold lg at h1 h2;rw [uj p l i hia]at h1 h2;have hg':=hg l[i];simp only [ai.row]at hg';apply aw;conv=>arg 4;whnf
  cases hp:p l[i]with
  |true=>
   simp [hp]at h1 h2;simp [hia,hH,ai.row,hg',hp];exact h2
  |false=>
   simp only [hp,Bool.false_eq_true,if_false]at h1 h2;simp [hia,hH,ai.row,hg',hp,hw,hcl];have:=ih' h1 h2;simpa [ai.row]using this
theorem Ce (l:List ai) (hn:l.length≤4611686018427387904) (p:ai→Bool) (g:GV) (hcan:canon g=g) (hfz: ∀H,cZ H g=(g,H)) (hg: ∀(x:ai) (c:Nat) (f0 fr:Fr),cV KC (aE KC) g [.pure (.agg x.row)] c (f0::fr::H)=some (.pure (.bool (p x)),f0::fr::H))
  (hcl: ∀f0 fr,clean (f0::fr::H) (H.length) g=g) (hH:0<H.length):
  aK KC (aE KC) 69 [.pure (.slice (l.map ai.row)),g] c H=some (.pure (.int .i64 (lg (LA p l) l.length 0)),H):=by
 refine aU (bw KC au Try.func69 rfl rfl Le (by simp [br,hfz]) rfl rfl (by simp) hH ?_);simp [hcan];refine Cd (H:=[]::H) l hn p g (fun x c fr=>hg x c fr []) (fun fr=>by simpa using hcl fr []) _ (by simp) l.length 0 (by omega) (fun h=> ?_) (fun h=> ?_)
 ·simp [h,ah]
 ·simp [ah]
theorem vM (l:List ai) (hn:l.length≤4611686018427387904) (p:ai→Bool) (g:GV) (hcan:canon g=g) (hfz: ∀H,cZ H g=(g,H)) (hg: ∀(x:ai) (c:Nat) (f0 f1 fr:Fr),cV KC (aE KC) g [.pure (.agg x.row)] c (f0::f1::fr::H)=some (.pure (.bool (p x)),f0::f1::fr::H))
  (hcl: ∀f0 f1 fr,clean (f0::f1::fr::H) (H.length+1) g=g) (hH:0<H.length):
  aK KC (aE KC) 42 [.pure (.slice (l.map ai.row)),g] c H=some (.pure (.bool (l.any p)),H):=by
 refine aU (bw KC au Try.func42 rfl rfl K3 (by simp [br,hfz]) rfl rfl (by simp) hH ?_);have I:=fun c (fr:Fr)=>Ce (c:=c) (H:=fr::H) l hn p g hcan hfz (fun x c f0 f1=>hg x c f0 f1 fr) (fun f0 f1=>by simpa using hcl f0 f1 fr) (by simp);have e:(decide (0≤lg (LA p l) l.length 0))=l.any p:=by
  rw [Bool.eq_iff_iff,decide_eq_true_eq,lh,List.any_eq_true];constructor
  ·rintro⟨j,_,h2,h3⟩;have hj:j<l.length:=(by omega);exact⟨l[j],List.getElem_mem hj,by rw [←uj p l j hj];exact h3⟩
  ·rintro⟨x,hx,hp⟩;obtain⟨j,hj,rfl⟩:=List.getElem_of_mem hx;exact⟨j,Nat.zero_le _,by omega,by rw [uj p l j hj];exact hp⟩
 simp [hcan,I,ah,e]
def fD (a:ai):dW:= .box [.pure (.int .i64 a.aQ), .pure (.int .i64 a.aY), .pure (.int .i64 a.kind), .pure (.int .i64 a.hand), .pure (.int .i64 a.bL), .pure (.int .i64 a.cell), .pure (.int .i64 a.other), .pure (.int .i64 a.dE), .pure (.int .i64 a.lf)]
def jB (a b:ai):Bool:=b.aQ==a.aQ && b.aY==a.aY
theorem Cf (a b:ai){nm:Nm}(hg:H.get nm=some (fD a)):aK KC (aE KC) 43 [.pure (.agg b.row), .aA nm 0] c H=some (.pure (.bool (jB a b)),H):=by
 have hl:nm.1<H.length:=ae.cj hg;have hne: ¬nm.1=H.length:=(by omega);refine aU (bw KC au Try.func43 rfl rfl K4 rfl rfl rfl (by simp) (by omega) ?_);unfold fD at hg;unfold jB
 cases h1:(b.aQ==a.aQ)with
 |true=>simp [ah,hg,hne,ai.row,h1]
 |false=>simp [ah,hg,hne,ai.row,h1]
noncomputable def uk:aI→Nat→Int:=o8 fun r i=>
 if cF (r.aj.getD i ct).aQ 0 1000=false then 2 else if 0<i∧(r.aj.getD i ct).aQ<(r.aj.getD (i-1) ct).aQ then 11
 else if cF (r.aj.getD i ct).aY 0 ((r.ak.length:Int)-1)=false then 7 else if (r.aj.take i).any (jB (r.aj.getD i ct))=true then 12
 else if eK (c9 r.wide r.deep) r.aa.length r.ak.length (r.aj.getD i ct)≠0 then eK (c9 r.wide r.deep) r.aa.length r.ak.length (r.aj.getD i ct)
 else if cF (r.aj.getD i ct).dE 0 15=false∨cF (r.aj.getD i ct).lf 0 9=false then 2 else 0
theorem vN (r:aI)(i:Nat):uk r i=
 if cF (r.aj.getD i ct).aQ 0 1000=false then 2 else if 0<i∧(r.aj.getD i ct).aQ<(r.aj.getD (i-1) ct).aQ then 11
 else if cF (r.aj.getD i ct).aY 0 ((r.ak.length:Int)-1)=false then 7 else if (r.aj.take i).any (jB (r.aj.getD i ct))=true then 12
 else if eK (c9 r.wide r.deep) r.aa.length r.ak.length (r.aj.getD i ct)≠0 then eK (c9 r.wide r.deep) r.aa.length r.ak.length (r.aj.getD i ct)
 else if cF (r.aj.getD i ct).dE 0 15=false∨cF (r.aj.getD i ct).lf 0 9=false then 2 else 0:=by rw [uk,bR]
noncomputable def c7:aI→Int:=o8 fun r=>if kO r≠0 then kO r else if 40<r.aj.length then 8 else bH (uk r) r.aj.length 0
theorem qP (r:aI):c7 r=if kO r≠0 then kO r else if 40<r.aj.length then 8 else bH (uk r) r.aj.length 0:=by rw [c7,bR]
theorem Cg (r:aI)(hl:r.aj.length≤40)(hp:r.ak.length≤1000000)(ht:r.aa.length≤1000000)(Q:GX→bE→Prop): ∀k i:Nat,i+k=r.aj.length→
  (bH (uk r) k i=0→Q (.exit 0) ⟨[(2,aG)],[(1,bs r)]::H,77⟩)→
  (bH (uk r) k i≠0→Q .ret ⟨[(2, .pure (.int .i64 (bH (uk r) k i)))],[(1,bs r)]::H,77⟩)→
  jf KC au 15 (lp Try.f15 0) [1,17,18,19] [2] Q
   [(1, .aA (H.length,1) 0),(17, .pure (.slice (r.aj.map ai.row))),(18, .pure (.int .i64 r.aj.length)),(19, .pure (.int .i64 i))] ([(1,bs r)]::H) 77:=by
 intro k
 induction k with
 |zero=>
  intro i hi h1 h2;apply aw;conv=>arg 4;whnf
  have: ¬i<r.aj.length:=(by omega);simp [this];exact h1 rfl
 |succ k ih=>
  intro i hi h1 h2;have hia:i<r.aj.length:=(by omega);have hw:=dM (x:=(i:Int)+1) (by omega) (by omega);have hw2:=dM (x:=(i:Int)-1) (by omega) (by omega);have hwp:=dM (x:=(r.ak.length:Int)-1) (by omega) (by omega);have ih':=ih (i+1) (by omega);unfold bH at h1 h2;have hf:=vN r i;have hgi:r.aj.getD i ct=r.aj[i]:=(by simp [List.getD_eq_getElem?_getD,hia]);rw [hgi]at hf;have hile:i≤r.aj.length:=(by omega);have hmin:min i r.aj.length=i:=(by omega);have C:=fun(c:Nat)=>vM (c:=c) (H:=[(5,fD r.aj[i])]::[(1,bs r)]::H) (r.aj.take i) (by simp;omega) (jB r.aj[i]) (.func 43 [] [.aA (H.length+1,5) 0]) rfl (fun _=>rfl) (fun x c f0 f1 fr=>by
   rw [nu];exact Cf r.aj[i] x (by simp)) (fun f0 f1 fr=>by simp) (by simp)
  simp [bs,fD]at C;have CF:=fun(c:Nat) (H:ae) (hH:0<H.length)=>qO (c:=c) (r:=r) (H:=H) (q1:=r.aj[i].aQ) (q2:=r.aj[i].aY) (kind:=r.aj[i].kind) (hand:=r.aj[i].hand) (bL:=r.aj[i].bL) (cell:=r.aj[i].cell) (other:=r.aj[i].other) (q3:=r.aj[i].dE) (q4:=r.aj[i].lf) hp ht hH;simp only [ai.eta,iP]at CF;apply aw;conv=>arg 4;whnf
  cases z1:cF r.aj[i].aQ 0 1000 with
  |false=>
   simp [z1]at hf;simp [hf]at h1 h2;simp [hia,ai.row,bs,cE,z1];simpa [bs]using h2
  |true=>
  have ord:(0<i∧r.aj[i].aQ<(r.aj.getD (i-1) ct).aQ)∨ ¬(0<i∧r.aj[i].aQ<(r.aj.getD (i-1) ct).aQ):=Classical.em _;have step: ∀(Q':Prop),(0<i→ ∀h:i-1<r.aj.length,¬((i:Int)-1<0)→((i:Int)-1).toNat=i-1→(0:Int)<i→r.aj.getD (i-1) ct=r.aj[i-1]→Q')→(i=0→Q')→Q':=fun Q' a b=>by
   by_cases h0:0<i
   ·have hi1:i-1<r.aj.length:=(by omega);exact a h0 hi1 (by omega) (by omega) (by omega) (by simp [List.getD_eq_getElem?_getD,hi1])
   ·exact b (by omega)
  refine step _ (fun h0 hi1 hnn htn h0' hg1=> ?_) (fun h0=> ?_)
  ·rw [hg1]at hf;by_cases z2:r.aj[i].aQ<r.aj[i-1].aQ
   ·simp [z1,z2,h0]at hf;simp [hf]at h1 h2;simp [hia,ai.row,bs,cE,z1,h0',hw2,hnn,htn,hi1,z2,h0];simpa [bs]using h2
   ·cases z3:cF r.aj[i].aY 0 ((r.ak.length:Int)-1)with
    |false=>
     simp [z1,z2,z3,h0]at hf;simp [hf]at h1 h2;simp [hia,ai.row,bs,cE,z1,h0',hw2,hnn,htn,hi1,z2,hwp,z3,h0];simpa [bs]using h2
    |true=>
    cases z4:(r.aj.take i).any (jB r.aj[i])with
    |true=>
     simp only [z1,z2,z3,z4,and_false,Bool.true_eq_false,if_false,if_true]at hf;simp [hf]at h1 h2;simp [hia,ai.row,bs,cE,z1,h0',hw2,hnn,htn,hi1,z2,hwp,z3,hile,C,z4,h0];simpa [bs]using h2
    |false=>
    by_cases z5:eK (c9 r.wide r.deep) r.aa.length r.ak.length r.aj[i]=0
    ·cases z6:cF r.aj[i].dE 0 15 with
     |false=>
      simp only [z1,z2,z3,z4,z5,z6,and_false,Bool.true_eq_false,Bool.false_eq_true,ne_eq,not_true_eq_false,true_or,if_false,if_true]at hf;simp [hf]at h1 h2;simp [hia,ai.row,bs,cE,z1,h0',hw2,hnn,htn,hi1,z2,hwp,z3,hile,C,z4,CF,z5,z6,h0];simpa [bs]using h2
     |true=>
     cases z7:cF r.aj[i].lf 0 9 with
     |false=>
      simp only [z1,z2,z3,z4,z5,z6,z7,and_false,Bool.true_eq_false,Bool.false_eq_true,ne_eq,not_true_eq_false,or_true,if_false,if_true]at hf;simp [hf]at h1 h2;simp [hia,ai.row,bs,cE,z1,h0',hw2,hnn,htn,hi1,z2,hwp,z3,hile,C,z4,CF,z5,z6,z7,h0];simpa [bs]using h2
     |true=>
      simp only [z1,z2,z3,z4,z5,z6,z7,and_false,Bool.true_eq_false,Bool.false_eq_true,ne_eq,not_true_eq_false,or_self,if_false,if_true]at hf;simp [hf]at h1 h2;simp [hia,ai.row,bs,cE,z1,h0',hw2,hnn,htn,hi1,z2,hwp,z3,hile,C,z4,CF,z5,z6,z7,hw,h0];simpa [bs,ai.row]using ih' h1 h2
    ·have z5':(eK (c9 r.wide r.deep) r.aa.length r.ak.length r.aj[i] !=0)=true:=(by simpa using z5);simp only [z1,z2,z3,z4,z5,and_false,Bool.true_eq_false,Bool.false_eq_true,ne_eq,not_false_eq_true,if_false,if_true]at hf;simp [hf,z5]at h1 h2;simp [hia,ai.row,bs,cE,z1,h0',hw2,hnn,htn,hi1,z2,hwp,z3,hile,C,z4,CF,z5,z5',h0];simpa [bs]using h2
  ·subst h0;simp at C;have z4:(r.aj.take 0).any (jB r.aj[0])=false:=by simp
   cases z3:cF r.aj[0].aY 0 ((r.ak.length:Int)-1)with
   |false=>
    simp [z1,z3]at hf;simp [hf]at h1 h2;simp [hia,ai.row,bs,cE,z1,hwp,z3];simpa [bs]using h2
   |true=>
   by_cases z5:eK (c9 r.wide r.deep) r.aa.length r.ak.length r.aj[0]=0
   ·cases z6:cF r.aj[0].dE 0 15 with
    |false=>
     simp [z1,z3,z5,z6]at hf;simp [hf]at h1 h2;simp [hia,ai.row,bs,cE,z1,hwp,z3,C,CF,z5,z6];simpa [bs]using h2
    |true=>
    cases z7:cF r.aj[0].lf 0 9 with
    |false=>
     simp [z1,z3,z5,z6,z7]at hf;simp [hf]at h1 h2;simp [hia,ai.row,bs,cE,z1,hwp,z3,C,CF,z5,z6,z7];simpa [bs]using h2
    |true=>
     simp [z1,z3,z5,z6,z7]at hf;simp [hf]at h1 h2;simp [hia,ai.row,bs,cE,z1,hwp,z3,C,CF,z5,z6,z7,hw];simpa [bs,ai.row]using ih' h1 h2
   ·have z5':(eK (c9 r.wide r.deep) r.aa.length r.ak.length r.aj[0] !=0)=true:=(by simpa using z5);simp [z1,z3,z5]at hf;simp [hf,z5]at h1 h2;simp [hia,ai.row,bs,cE,z1,hwp,z3,C,CF,z5,z5'];simpa [bs]using h2
theorem Ad (r:aI)(h1:r.seen.length≤1000000)(h2:r.bg.length≤1000000)(h3:r.ak.length≤1000000)(h4:r.aa.length≤1000000)(h5:r.aj.length≤1000000)(hH:0<H.length):
  bG KC (aE KC) 15 [.pure (.agg r.row)] c H=some (.pure (.int .i64 (c7 r)),H):=by
 refine aU (aM KC au Try.func15 rfl rfl KV (by simp) hH ?_);have hr:=qP r;have R:=fun c (H:ae) (hH:0<H.length)=>ui (c:=c) (H:=H) r h1 h2 h3 h4 hH;rw [iP]at R⊢;by_cases z1:kO r=0
 ·by_cases z2:40<r.aj.length
  ·have z2':(40:Int)<r.aj.length:=(by omega);simp [z1,z2]at hr;simp [R,z1,z2,z2',ah,hr]
  ·have z2': ¬(40:Int)<r.aj.length:=(by omega);simp only [z1,z2,ne_eq,not_true_eq_false,if_false]at hr;simp [R,z1,z2,z2'];have L:=fun Q=>Cg (H:=H) r (by omega) h3 h4 Q r.aj.length 0 (by omega);simp [bs]at L;refine L _ (fun h=> ?_) (fun h=> ?_)
   ·simp [h]at hr;simp [ah,hr]
   ·simp [ah,hr]
 ·have z1':(kO r !=0)=true:=(by simpa using z1);simp [z1]at hr;simp [R,z1,z1',ah,hr]
theorem vO (r:aI)(h1:r.seen.length≤1000000)(h2:r.bg.length≤1000000)(h3:r.ak.length≤1000000)(h4:r.aa.length≤1000000)(h5:r.aj.length≤1000000)(hH:0<H.length):
  aK KC (aE KC) 15 [.pure (.agg r.row)] c H=some (.pure (.int .i64 (c7 r)),H):=ey rfl rfl rfl rfl rfl hH fun H hH=>Ad r h1 h2 h3 h4 h5 hH
end
section
variable {c:Nat} {H:ae}
end
section
variable {c:Nat} {H:ae}
end
section
variable {c:Nat} {H:ae}
@[simp] theorem LB {l0:Nat}:clean H l0 aG=aG:= .trans rfl rfl
end
section
variable {c:Nat} {H:ae}
noncomputable def iQ:Int→Int→Int→Bool:=o8 fun w a b=>
 (IntKind.i64.wrap (a.tmod w-b.tmod w)==0 && (IntKind.i64.wrap (IntKind.i64.wrap (a.tdiv w)-IntKind.i64.wrap (b.tdiv w))==1||IntKind.i64.wrap (IntKind.i64.wrap (a.tdiv w)-IntKind.i64.wrap (b.tdiv w))== -1))||
 (IntKind.i64.wrap (IntKind.i64.wrap (a.tdiv w)-IntKind.i64.wrap (b.tdiv w))==0 && (IntKind.i64.wrap (a.tmod w-b.tmod w)==1||IntKind.i64.wrap (a.tmod w-b.tmod w)== -1))
theorem Ae (w a b:Int):iQ w a b=
 ((IntKind.i64.wrap (a.tmod w-b.tmod w)==0 && (IntKind.i64.wrap (IntKind.i64.wrap (a.tdiv w)-IntKind.i64.wrap (b.tdiv w))==1||IntKind.i64.wrap (IntKind.i64.wrap (a.tdiv w)-IntKind.i64.wrap (b.tdiv w))== -1))||
 (IntKind.i64.wrap (IntKind.i64.wrap (a.tdiv w)-IntKind.i64.wrap (b.tdiv w))==0 && (IntKind.i64.wrap (a.tmod w-b.tmod w)==1||IntKind.i64.wrap (a.tmod w-b.tmod w)== -1))):=by rw [iQ,bR]
def aJ:cg:=⟨0,0⟩
noncomputable def eY:List cg→Int→Int→Bool:=o8 fun ts t st=>decide (0≤t) && ((IntKind.i64.wrap ((ts.getD t.toNat aJ).state.tdiv st)).tmod 2==1)
theorem gf (ts:List cg)(t st:Int):eY ts t st=(decide (0≤t) && ((IntKind.i64.wrap ((ts.getD t.toNat aJ).state.tdiv st)).tmod 2==1)):=by rw [eY,bR]
def bB:bt:=⟨0,0⟩
def de (hs:List bt)(aY:Nat):Int:=if (hs.getD aY bB).l= -1 then 0 else if (hs.getD aY bB).r= -1 then 1 else-1
end
section
variable {c:Nat} {H:ae}
def bj (s:az)(w:Nat)(hand:Int):Int:=if hand=0 then (s.ao.getD w bB).l else (s.ao.getD w bB).r
def cX:bU:=⟨0,0,0,0,false⟩
noncomputable def cd:aI→az→Nat→ai→Bool:=o8 fun r s w a=>
 if a.kind=1 then !(s.ak.contains a.cell) && iQ r.wide (s.ak.getD w 0) a.cell
 else if a.kind=2 then bj s w a.hand== -1 && (s.aa.getD a.bL.toNat aJ).cell==s.ak.getD w 0
 else if a.kind=3 then decide (0≤bj s w a.hand)
 else if a.kind=4 then decide (0≤bj s w a.hand) && iQ r.wide (s.ak.getD w 0) (s.ak.getD a.other.toNat 0) && decide (0≤de s.ao a.other.toNat)
 else if a.kind=5 then decide (0≤bj s w a.hand) && (r.aa.getD (bj s w a.hand).toNat cX).sZ && decide (0≤bj s w (1-a.hand))
 else if a.kind=6 then eY s.aa (bj s w a.hand) 2 && !eY s.aa (bj s w a.hand) 4 && decide (0≤bj s w (1-a.hand)) && !eY s.aa (bj s w (1-a.hand)) 2 && !eY s.aa (bj s w (1-a.hand)) 4
 else if a.kind=7 then decide (0≤bj s w a.hand) && !eY s.aa (bj s w a.hand) 4
 else eY s.aa (bj s w a.hand) 4
theorem gP (r:aI)(s:az)(w:Nat)(a:ai):cd r s w a=
 if a.kind=1 then !(s.ak.contains a.cell) && iQ r.wide (s.ak.getD w 0) a.cell
 else if a.kind=2 then bj s w a.hand== -1 && (s.aa.getD a.bL.toNat aJ).cell==s.ak.getD w 0
 else if a.kind=3 then decide (0≤bj s w a.hand)
 else if a.kind=4 then decide (0≤bj s w a.hand) && iQ r.wide (s.ak.getD w 0) (s.ak.getD a.other.toNat 0) && decide (0≤de s.ao a.other.toNat)
 else if a.kind=5 then decide (0≤bj s w a.hand) && (r.aa.getD (bj s w a.hand).toNat cX).sZ && decide (0≤bj s w (1-a.hand))
 else if a.kind=6 then eY s.aa (bj s w a.hand) 2 && !eY s.aa (bj s w a.hand) 4 && decide (0≤bj s w (1-a.hand)) && !eY s.aa (bj s w (1-a.hand)) 2 && !eY s.aa (bj s w (1-a.hand)) 4
 else if a.kind=7 then decide (0≤bj s w a.hand) && !eY s.aa (bj s w a.hand) 4
 else eY s.aa (bj s w a.hand) 4:=by rw [cd,bR]
end
section
variable {c:Nat} {H:ae}
def cn (aY kind hand bL cell other:Int):ai:=⟨0,aY,kind,hand,bL,cell,other,0,0⟩
def lk (aY:Int)(k i:Nat):List ai:=(List.range' i k).map fun(x:Nat)=>cn aY 1 0 0 x 0
def jC (aY hand:Int)(k i:Nat):List ai:=(List.range' i k).map fun(x:Nat)=>cn aY 2 hand x 0 0
def ia (aY hand:Int)(k i:Nat):List ai:=((List.range' i k).filter fun(x:Nat)=> !((x:Int)==aY)).map fun(x:Nat)=>cn aY 4 hand 0 0 x
def lq (nt np:Nat)(aY:Int)(kind:Nat)(hand:Int):List ai:=if kind=2 then jC aY hand nt 0 else if kind=4 then ia aY hand np 0 else [cn aY kind hand 0 0 0]
def vP (nt np:Nat)(aY:Int)(kind:Nat):List ai:=lq nt np aY kind 0++lq nt np aY kind 1
def iR (nt np:Nat)(aY:Int)(k i:Nat):List ai:=(List.range' i k).flatMap (vP nt np aY)
def cL (n nt np:Nat)(aY:Int):List ai:=lk aY n 0++iR nt np aY 7 2
theorem xM (aY:Int)(k i:Nat):lk aY (k+1) i=cn aY 1 0 0 i 0::lk aY k (i+1):=by simp [lk,List.range'_succ]
theorem vQ (aY hand:Int)(k i:Nat):jC aY hand (k+1) i=cn aY 2 hand i 0 0::jC aY hand k (i+1):=by simp [jC,List.range'_succ]
theorem pf (aY hand:Int)(k i:Nat):ia aY hand (k+1) i=if (i:Int)=aY then ia aY hand k (i+1)else cn aY 4 hand 0 0 i::ia aY hand k (i+1):=by
 by_cases h:(i:Int)=aY
 ·simp [ia,List.range'_succ,h]
 ·simp [ia,List.range'_succ,h]
theorem vR (nt np:Nat)(aY:Int)(k i:Nat):iR nt np aY (k+1) i=vP nt np aY i++iR nt np aY k (i+1):=by simp [iR,List.range'_succ]
end
section
variable {c:Nat} {H:ae}
structure SU (r:aI)(s:az):Prop where
 pl:s.ak.length=r.ak.length
 hl:s.ao.length=r.ak.length
 tl:s.aa.length=r.aa.length
 hr: ∀i (h:i<s.ao.length),s.ao[i].l<s.aa.length∧s.ao[i].r<s.aa.length∧ -1≤s.ao[i].l∧ -1≤s.ao[i].r
end
section
variable {c:Nat} {H:ae}
def empty:bt:=⟨-1,-1⟩
def j9 (t:bU):cg:=⟨t.cell,t.state⟩
def aV (r:aI):az:=⟨r.ak.map (·.cell),r.ak.map fun _=>empty,r.aa.map j9⟩
end
section
variable {c:Nat} {H:ae}
structure oA (H:ae)(n1 n2 n3:Nm)(v1 v2 v3:Nat)(s:az):Prop where
 Ex:n1≠n2
 Gl:n1≠n3
 Ch:n2≠n3
 g1:H.get n1=some (.arr 1 (s.ak.map ba) v1 false)
 g2:H.get n2=some (.arr 2 (s.ao.map bt.row) v2 false)
 g3:H.get n3=some (.arr 2 (s.aa.map cg.row) v3 false)
 e1:v1≤s.ak.length
 e2:v2≤s.ao.length
 e3:v3≤s.aa.length
noncomputable def cY:List cg→Nat→Int→Bool→List cg:=o8 fun ts t bit on=>
 if eY ts t bit=on then ts else ts.set t ⟨(ts.getD t aJ).cell,if on then IntKind.i64.wrap ((ts.getD t aJ).state+bit)else IntKind.i64.wrap ((ts.getD t aJ).state-bit)⟩
theorem iS (ts:List cg)(t:Nat)(bit:Int)(on:Bool):cY ts t bit on=if eY ts t bit=on then ts else ts.set t ⟨(ts.getD t aJ).cell,if on then IntKind.i64.wrap ((ts.getD t aJ).state+bit)else IntKind.i64.wrap ((ts.getD t aJ).state-bit)⟩:=by rw [cY,bR]
theorem gQ (ts:List cg)(t:Nat)(bit:Int)(on:Bool):(cY ts t bit on).length=ts.length:=by
 rw [iS];split<;>simp
end
section
variable {c:Nat} {H:ae}
def aW (hs:List bt)(w:Nat)(hand:Int)(v:Int):List bt:=hs.set w (if hand=0 then ⟨v,(hs.getD w bB).r⟩else ⟨(hs.getD w bB).l,v⟩)
noncomputable def dt:az→Nat→ai→az:=o8 fun s w a=>
 if a.kind=1 then {s with ak:=s.ak.set w a.cell}
 else if a.kind=2 then {s with ao:=aW s.ao w a.hand a.bL,aa:=s.aa.set a.bL.toNat ⟨-1,(s.aa.getD a.bL.toNat aJ).state⟩}
 else if a.kind=3 then {s with ao:=aW s.ao w a.hand (-1),aa:=s.aa.set (bj s w a.hand).toNat ⟨s.ak.getD w 0,(s.aa.getD (bj s w a.hand).toNat aJ).state⟩}
 else if a.kind=4 then {s with ao:=aW (aW s.ao a.other.toNat (de s.ao a.other.toNat) (bj s w a.hand)) w a.hand (-1)}
 else if a.kind=5 then {s with aa:=cY s.aa (bj s w (1-a.hand)).toNat 1 true}
 else if a.kind=6 then {s with aa:=cY (cY (cY s.aa (bj s w a.hand).toNat 2 false) (bj s w a.hand).toNat 1 false) (bj s w (1-a.hand)).toNat 2 true}
 else if a.kind=7 then {s with aa:=cY s.aa (bj s w a.hand).toNat 4 true}
 else {s with aa:=cY s.aa (bj s w a.hand).toNat 4 false}
theorem jm (s:az)(w:Nat)(a:ai):dt s w a=
 if a.kind=1 then {s with ak:=s.ak.set w a.cell}
 else if a.kind=2 then {s with ao:=aW s.ao w a.hand a.bL,aa:=s.aa.set a.bL.toNat ⟨-1,(s.aa.getD a.bL.toNat aJ).state⟩}
 else if a.kind=3 then {s with ao:=aW s.ao w a.hand (-1),aa:=s.aa.set (bj s w a.hand).toNat ⟨s.ak.getD w 0,(s.aa.getD (bj s w a.hand).toNat aJ).state⟩}
 else if a.kind=4 then {s with ao:=aW (aW s.ao a.other.toNat (de s.ao a.other.toNat) (bj s w a.hand)) w a.hand (-1)}
 else if a.kind=5 then {s with aa:=cY s.aa (bj s w (1-a.hand)).toNat 1 true}
 else if a.kind=6 then {s with aa:=cY (cY (cY s.aa (bj s w a.hand).toNat 2 false) (bj s w a.hand).toNat 1 false) (bj s w (1-a.hand)).toNat 2 true}
 else if a.kind=7 then {s with aa:=cY s.aa (bj s w a.hand).toNat 4 true}
 else {s with aa:=cY s.aa (bj s w a.hand).toNat 4 false}:=by rw [dt,bR]
structure LC (s:az)(w:Nat)(a:ai):Prop where
 hp:w<s.ak.length
 hh:w<s.ao.length
 aY:a.aY=w
 hand:a.hand=0∨a.hand=1
 kind:1≤a.kind∧a.kind≤8
 take:a.kind=2→ ∃t:Nat,a.bL=t∧t<s.aa.length
 held:3≤a.kind→ ∃t:Nat,bj s w a.hand=t∧t<s.aa.length
 sI:a.kind=4→ ∃o:Nat,a.other=o∧o<s.ao.length∧o≠w∧(de s.ao o=0∨de s.ao o=1)
 vy:a.kind=5∨a.kind=6→ ∃t:Nat,bj s w (1-a.hand)=t∧t<s.aa.length
theorem ae.set_comm {n m:Nm}{x y:dW}(h:n≠m): ∀{H:ae},(H.set n x).set m y=(H.set m y).set n x
 | []=>rfl
 |fr::H=>by
  by_cases e1:n.1=H.length
  ·by_cases e2:m.1=H.length
   ·have:n.2≠m.2:=fun e=>h (Prod.ext (e1.trans e2.symm) e);simp [e1,e2,Fr.qK _ _ this.symm]
   ·simp [e1,e2]
  ·by_cases e2:m.1=H.length
   ·simp [e1,e2]
   ·simp [e1,e2,ae.length_set,ae.set_comm h (H:=H)]
structure xN (H:ae)(n1 n2 n3:Nm)(v1 v2 v3:Nat)(s:az):Prop extends oA H n1 n2 n3 v1 v2 v3 s where
 s1:H.set n1 (.arr 1 (s.ak.map ba) v1 false)=H
 s2:H.set n2 (.arr 2 (s.ao.map bt.row) v2 false)=H
 s3:H.set n3 (.arr 2 (s.aa.map cg.row) v3 false)=H
def fS (H:ae)(n1 n2 n3:Nm)(v1 v2 v3:Nat)(s:az):ae:=((H.set n1 (.arr 1 (s.ak.map ba) v1 false)).set n2 (.arr 2 (s.ao.map bt.row) v2 false)).set n3 (.arr 2 (s.aa.map cg.row) v3 false)
theorem oA.up {fr:Fr}{n1 n2 n3:Nm}{v1 v2 v3:Nat}{s:az}(h:oA H n1 n2 n3 v1 v2 v3 s):oA (fr::H) n1 n2 n3 v1 v2 v3 s:=by
 have l1:=ae.cj h.g1;have l2:=ae.cj h.g2;have l3:=ae.cj h.g3;have d1: ¬n1.1=H.length:=(by omega);have d2: ¬n2.1=H.length:=(by omega);have d3: ¬n3.1=H.length:=(by omega);exact⟨h.Ex,h.Gl,h.Ch,by simp [d1,h.g1],by simp [d2,h.g2],by simp [d3,h.g3],h.e1,h.e2,h.e3⟩
end
section
variable {c:Nat} {H:ae}
noncomputable def l7:List Int→List Int→Bool:=o8 fun l m=>l.any fun x=>m.contains x
theorem vS (l m:List Int):l7 l m=l.any fun x=>m.contains x:=by rw [l7,bR]
structure Touch where
 ak:List Int
 aa:List Int
 cells:List Int
noncomputable def cI:az→Nat→ai→Touch:=o8 fun s w a=>
 if a.kind=1 then ⟨[a.aY],[],[s.ak.getD w 0,a.cell]⟩
 else if a.kind=2 then ⟨[a.aY],[a.bL],[]⟩
 else if a.kind=4 then ⟨[a.aY,a.other],[bj s w a.hand],[]⟩
 else if a.kind=5∨a.kind=6 then ⟨[a.aY],[bj s w a.hand,bj s w (1-a.hand)],[]⟩
 else ⟨[a.aY],[bj s w a.hand],[]⟩
theorem gB (s:az)(w:Nat)(a:ai):cI s w a=
 if a.kind=1 then ⟨[a.aY],[],[s.ak.getD w 0,a.cell]⟩
 else if a.kind=2 then ⟨[a.aY],[a.bL],[]⟩
 else if a.kind=4 then ⟨[a.aY,a.other],[bj s w a.hand],[]⟩
 else if a.kind=5∨a.kind=6 then ⟨[a.aY],[bj s w a.hand,bj s w (1-a.hand)],[]⟩
 else ⟨[a.aY],[bj s w a.hand],[]⟩:=by rw [cI,bR]
end
section
variable {c:Nat} {H:ae}
@[simp] theorem Q3 (x:Int):(ba x).length=1:=rfl
@[simp] theorem Q4 (x:bt):x.row.length=2:=rfl
@[simp] theorem Q5 (x:cg):x.row.length=2:=rfl
end
section
variable {c:Nat} {H:ae}
end
section
variable {c:Nat} {H:ae}
def Q6:dW:= .box [.pure (.int .i64 0), .pure (.int .i64 0), .aO, .aO, .aO, .aO, .aO]
end
section
variable {c:Nat} {H:ae}
def UO (w d:Int)(t:bU):Prop:=0≤t.cell∧t.cell<w*d∧0≤t.state∧t.state<16∧t.home=0∧t.want=0
structure Q7 (r:aI):Prop where
 w1:1≤r.wide
 w3:r.wide≤3
 d1:1≤r.deep
 d3:r.deep≤3
 p0:r.ak≠[]
 p3:r.ak.length≤3
 pn:(r.ak.map bA.cell).Nodup
 pc: ∀x∈r.ak,(1≤x.role∧x.role≤3)∧0≤x.cell∧x.cell<r.wide*r.deep
 t0:r.aa≠[]
 t4:r.aa.length≤4
 tc: ∀t∈r.aa,UO r.wide r.deep t
 seen:r.seen=[]
 lp:r.bg.Pairwise (· < ·)
 lr: ∀x∈r.bg,1≤x∧x<4
 ll:r.bg.length≤3
 aj:r.aj=[]
end
end Go.Gh
