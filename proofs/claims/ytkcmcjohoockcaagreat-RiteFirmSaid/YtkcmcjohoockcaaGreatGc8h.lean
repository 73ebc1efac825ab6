/- Texts joined: the evaluator over ghost values, its soundness, the walks. Spaces struck and names made short by a program, for the size. -/
import Derived.Test.YtkcmcjohoockcaaGreatGc8g
namespace Go.Gh
open Go.Proofs
set_option linter.unusedVariables false
set_option linter.unusedSimpArgs false
set_option linter.unnecessarySimpa false
set_option maxRecDepth 100000
set_option maxHeartbeats 8000000
section
variable {c:Nat} {H:aj}
def EX (H:aj):GV→PV→Prop
 | .pure p,q=>p=q
 | .aW,q=>q= .slice []
 | .bc nm es top lo len,q=> ∃rows v ro,H.get nm=some (.arr es rows v ro)∧v≤top∧rows.length=top∧lo=0∧len=top∧q= .slice rows
 |_,_=>False
def MT (H:aj):List GV→List PV→Prop
 | [],[]=>True
 |g::l,q::m=>EX H g q∧MT H l m
 |_,_=>False
def pM (H:aj):GV→PV→Prop
 | .agg l, .agg m=>MT H l m
 | .pure p,q=>p=q
 |_,_=>False
@[simp] theorem rC {p q:PV}:EX H (.pure p) q=(p=q):= .trans rfl rfl
@[simp] theorem ZI {q:PV}:EX H .aW q=(q= .slice []):= .trans rfl rfl
@[simp] theorem uB:MT H [] []=True:= .trans rfl rfl
@[simp] theorem rE {g:GV}{q:PV}{l:List GV}{m:List PV}:MT H (g::l) (q::m)=(EX H g q∧MT H l m):= .trans rfl rfl
@[simp] theorem uC {l:List GV}{m:List PV}:pM H (.agg l) (.agg m)=MT H l m:= .trans rfl rfl
def j5 (H1 H2:aj):Prop:= ∀nm es rows v ro,H1.get nm=some (.arr es rows v ro)→ ∃ro',H2.get nm=some (.arr es rows v ro')
theorem j5.refl (H:aj):j5 H H:=fun _ _ _ _ ro h=>⟨ro,h⟩
theorem j5.trans {A B C:aj}(h1:j5 A B)(h2:j5 B C):j5 A C:=fun nm es rows v ro h=>by
 obtain⟨r1,a⟩:=h1 nm es rows v ro h;exact h2 nm es rows v r1 a
theorem Eg {H1 H2:aj}(h:j5 H1 H2): ∀{g:GV} {q:PV},EX H1 g q→EX H2 g q:=by
 intro g q hg
 cases g with
 |bc nm es top lo len=>
  obtain⟨rows,v,ro,a,b,d⟩:=hg;obtain⟨ro',e⟩:=h _ _ _ _ _ a;exact⟨rows,v,ro',e,b,d⟩
 |pure p=>exact hg
 |aW=>exact hg
 |_=>exact hg.elim
theorem yU {H1 H2:aj}(h:j5 H1 H2): ∀{l:List GV} {m:List PV},MT H1 l m→MT H2 l m
 | [],[],_=>trivial
 |g::l,q::m,hl=>⟨Eg h hl.1,yU h hl.2⟩
 | [],_::_,hl=>hl.elim
 |_::_,[],hl=>hl.elim
theorem rm {H1 H2:aj}(h:j5 H1 H2){g:GV}{q:PV}(hg:pM H1 g q):pM H2 g q:=by
 cases g with
 |agg l=>
  cases q with
  |agg m=>exact yU h hg
  |_=>exact hg.elim
 |pure p=>exact hg
 |_=>cases q<;>exact hg.elim
theorem qg {g:GV}{q:PV}(h:EX H g q):cn (dY H g).1= .pure q∧j5 H (dY H g).2:=by
 cases g with
 |bc nm es top lo len=>
  obtain⟨rows,v,ro,h1,h2,h3,rfl,rfl,rfl⟩:=h;subst h3;have e:dH H (.bc nm es rows.length 0 rows.length)=(.slice rows,H.set nm (.arr es rows v true)):=(by simp [h1,h2]);simp only [dY,e];refine⟨rfl,fun nm' es' rows' v' ro' hg=> ?_⟩;by_cases hn:nm'=nm
  ·subst hn;rw [h1]at hg;cases hg;exact⟨true,aj.dW _ (aj.bR h1)⟩
  ·exact⟨ro',(aj.aH _ hn).trans hg⟩
 |pure p=>cases h;exact⟨rfl,j5.refl _⟩
 |aW=>cases h;exact⟨rfl,j5.refl _⟩
 |_=>exact h.elim
theorem tx: ∀{l:List GV} {m:List PV} {H:aj},MT H l m→(gA H l).1.map cn=m.map .pure∧j5 H (gA H l).2
 | [],[],H,_=>⟨rfl,j5.refl _⟩
 |g::l,q::m,H,h=>by
  obtain⟨a,b⟩:=qg h.1;obtain⟨d,e⟩:=tx (yU b h.2);simp only [gA,List.map_cons,a,d];exact⟨trivial,b.trans e⟩
 | [],_::_,_,hl=>hl.elim
 |_::_,[],_,hl=>hl.elim
theorem rF: ∀{l:List GV} {ps:List PV},bm l=some ps→l=ps.map .pure
 | [],ps,h=>by cases h;rfl
 |g::l,ps,h=>by
  cases g with
  |pure p=>
   rw [yV]at h
   cases hl:bm l with
   |none=>rw [hl]at h;cases h
   |some qs=>rw [hl]at h;cases h;rw [rF hl];rfl
  |_=>simp [bm]at h
theorem oB {l:List GV}{m:List PV}(h:l.map cn=m.map .pure):canon (cW l)= .pure (.agg m):=by
 rw [E6]
 cases hl:bm l with
 |some ps=>
  have e:=rF hl;subst e;have:ps=m:=by
   have h':ps.map GV.pure=m.map .pure:=(by simpa [cn,Function.comp_def]using h);exact(List.map_inj_right (fun a b e=>by cases e;rfl)).1 h'
  rw [this];rfl
 |none=>
  show canon (.agg l)=_
  rw [E7,h];simp
theorem m7 {g:GV}{q:PV}(h:pM H g q):canon (dy H g).1= .pure q∧j5 H (dy H g).2:=by
 cases g with
 |agg l=>
  cases q with
  |agg m=>
   obtain⟨a,b⟩:=tx (H:=H) (l:=l) (m:=m) h;exact⟨oB a,b⟩
  |_=>exact h.elim
 |pure p=>cases h;exact⟨rfl,j5.refl _⟩
 |_=>cases q<;>exact h.elim
theorem acb {g:GV}{q:PV}(h:pM H g q):(bs H [g]).1.map canon=[.pure q]:=by
 simp only [bs,List.map_cons,List.map_nil,(m7 h).1]
theorem iw {g:GV}{r:List GV}:(bs H (g::r)).1.map canon=canon (dy H g).1::(bs (dy H g).2 r).1.map canon:=rfl
theorem ZJ {a b d:GV}{p q r:PV}(h1:pM H a p)(h2:pM H b q)(h3:pM H d r):(bs H [a,b,d]).1.map canon=[.pure p, .pure q, .pure r]:=by
 obtain⟨x1,y1⟩:=m7 h1;obtain⟨x2,y2⟩:=m7 (rm y1 h2);obtain⟨x3,y3⟩:=m7 (rm y2 (rm y1 h3));rw [iw,x1,iw,x2,iw,x3];rfl
theorem ZK {nm:Nm}{b d e:GV}{q r p:PV}(h2:pM H b q)(h3:pM H d r)(h4:pM H e p):(bs H [.ay nm 0,b,d,e]).1.map canon=[.ay nm 0, .pure q, .pure r, .pure p]:=by
 rw [iw,AM,ZJ h2 h3 h4];rfl
theorem E8 {rg sg:GV}(r:aA)(s:aw)(w n:Nat)(hR:pM H rg (.agg r.row))(hS:pM H sg (.agg s.row))(hs:E9 r s)(hw:w<r.ah.length)(hpl:r.ah.length≤1000000)(htl:r.aa.length≤1000000)(hwide:r.wide≠0)(hn:IntKind.i64.wrap (r.wide*r.deep)=n)(hn0:0<n)(hnb:n≤1000000){nm:Nm}(hB:fU H nm):
  aL KC (aE KC) 49 [.ay nm 0,rg,sg, .pure (.int .i64 w)] c H=
   some (.pure (.tuple [.agg (gd r s w (bL n r.aa.length r.ah.length w) (bD H nm)).1.1.row, .bool (gd r s w (bL n r.aa.length r.ah.length w) (bD H nm)).1.2]),H.set nm (bw (gd r s w (bL n r.aa.length r.ah.length w) (bD H nm)).2)):=by
 have hlt:=gz hB;rw [sK KC rfl rfl,ZK hR hS (show pM H (.pure (.int .i64 w)) (.int .i64 w)from rfl)]
 have hget:=xi hB;have hE:fU ((hY H).set nm (bw (bD H nm))) nm:=kU (by rw [dA];exact hlt);have hWE:bD ((hY H).set nm (bw (bD H nm))) nm=bD H nm:=kT (by rw [dA];exact hlt);have M:=HW (c:=c) (H:=(hY H).set nm (bw (bD H nm))) r s w n hs hw hpl htl hwide hn hn0 hnb hE;rw [hWE]at M;generalize gd r s w (bL n r.aa.length r.ah.length w) (bD H nm)=res at M⊢;have hgs:((hY H).set nm (bw res.2)).get nm=some (bw res.2):=aj.gV (by rw [dA];exact hlt);have hfl: ∀w,oD [.pure (.int .u64 w)]=true:=fun w=>rfl;unfold iP;simp only [mX,hget,bw];simp only [bw]at M hgs;simp [oD,AN,jc,M,hgs,lO,ve,sL,pV,oE,mb,refs,dM,c9,dedup,lQ,aj.length_set,ak.row]
theorem MU (L k1 k2 k3:Nat)(s:aw):TQ L k1 k2 k3 s=lC (L,k1) (L,k2) (L,k3) s:=rfl
theorem Fa {rg:GV} (r:aA) (hR:pM H rg (.agg r.row)) (hp0:r.ah≠[]) (ht0:r.aa≠[]) (hpl:r.ah.length≤1000000) (htl:r.aa.length≤1000000) (hH:0<H.length)
  (hf1:H.get (H.length-1,ao c 22)=none) (hf2:H.get (H.length-1,ao c 27)=none) (hf3:H.get (H.length-1,ao c 53)=none):
  aL KC (aE KC) 48 [rg] c H=some (lC (H.length-1,ao c 22) (H.length-1,ao c 27) (H.length-1,ao c 53) (aJ r),
   cA H (H.length-1,ao c 22) (H.length-1,ao c 27) (H.length-1,ao c 53) 0 0 0 (aJ r)):=by
 rw [sK KC rfl rfl,acb hR];have F:=Fb (c:=c) (H:=hY H) r hp0 ht0 hpl htl (by rw [dA];exact hH) (nb _ _) (nb _ _) (nb _ _);simp only [dA]at F;have hL:H.length-1<(hY H).length:=(by rw [dA];omega);have hL':H.length-1<H.length:=(by omega);have nV:ao c 22≠ao c 27:=(by unfold ao;omega);have m9:ao c 22≠ao c 53:=(by unfold ao;omega);have lM:ao c 27≠ao c 53:=(by unfold ao;omega);have k1:(H.length-1,ao c 27)≠((H.length-1,ao c 22):Nm):=fun e=>nV (Prod.mk.inj e).2.symm;have k2:(H.length-1,ao c 53)≠((H.length-1,ao c 22):Nm):=fun e=>m9 (Prod.mk.inj e).2.symm;have k3:(H.length-1,ao c 53)≠((H.length-1,ao c 27):Nm):=fun e=>lM (Prod.mk.inj e).2.symm;generalize hE:((((hY H).set (H.length-1,ao c 22) (.arr 1 ((aJ r).ah.map aF) 0 false)).set (H.length-1,ao c 27) (.arr 2 ((aJ r).aq.map aG.row) 0 false)).set (H.length-1,ao c 53) (.arr 2 ((aJ r).aa.map bC.row) 0 false))=E at F;have q1:E.get (H.length-1,ao c 22)=some (.arr 1 ((aJ r).ah.map aF) 0 false):=(by rw [←hE,aj.aH _ k2.symm,aj.aH _ k1.symm];exact aj.gV hL);have q2:E.get (H.length-1,ao c 27)=some (.arr 2 ((aJ r).aq.map aG.row) 0 false):=(by rw [←hE,aj.aH _ k3.symm];exact aj.gV (by rw [aj.length_set];exact hL));have q3:E.get (H.length-1,ao c 53)=some (.arr 2 ((aJ r).aa.map bC.row) 0 false):=(by rw [←hE];exact aj.gV (by rw [aj.length_set,aj.length_set];exact hL));have g2: ∀b,(H.set (H.length-1,ao c 22) b).get (H.length-1,ao c 27)=none:=fun b=>(aj.aH b k1).trans hf2;have g3: ∀b b',((H.set (H.length-1,ao c 22) b).set (H.length-1,ao c 27) b').get (H.length-1,ao c 53)=none:=fun b b'=>(aj.aH b' k3).trans ((aj.aH b k2).trans hf3);have fr1: ∀l:List Int,hZ (l.map aF)=true:=fun l=>by induction l with|nil=>rfl|cons a l ih=>simp [hZ,mb,jc,aF,ih]
 have fr2: ∀l:List aG,hZ (l.map aG.row)=true:=fun l=>by induction l with|nil=>rfl|cons a l ih=>simp [hZ,mb,jc,aG.row,ih]
 have fr3: ∀l:List bC,hZ (l.map bC.row)=true:=fun l=>by induction l with|nil=>rfl|cons a l ih=>simp [hZ,mb,jc,bC.row,ih]
 unfold iP;simp [mX,F,MU,lC,lO,ve,sL,AO,pV,oE,refs,dM,c9,dedup,lQ,nV,m9,lM,nV.symm,m9.symm,lM.symm,q1,q2,q3,hf1,g2,g3,fr1,fr2,fr3,cA]
theorem Fc {sg ag bg:GV} {s:aw} {w v:Nat} {a b:ak} (hS:pM H sg (.agg s.row)) (hA:pM H ag (.agg a.row)) (hB:pM H bg (.agg b.row)) (hp:w<s.ah.length) (hh:w<s.aq.length) (hw:a.aO=w) (ha:a.hand=0∨a.hand=1)
  (hp2:v<s.ah.length) (hh2:v<s.aq.length) (hw2:b.aO=v) (hb:b.hand=0∨b.hand=1) (hH:0<H.length):
  aL KC (aE KC) 53 [sg,ag,bg] c H=some (.pure (.bool (qm s w a v b)),H):=
 gX KC rfl rfl (ZJ hS hA hB) rfl hH (fun H hH=>HX (c:=c) hp hh hw ha hp2 hh2 hw2 hb hH) rfl
end
section
variable {c:Nat} {H:aj}
structure gL (r:aA):Prop where
 p:r.ah.length≤1000000
 t:r.aa.length≤1000000
 s:r.seen.length≤1000000
 l:r.aX.length≤1000000
 a:r.ai.length≤1000000
theorem MH {a b:GV}{p q:PV}(h1:pM H a p)(h2:pM H b q):(bs H [a,b]).1.map canon=[.pure p, .pure q]:=by
 obtain⟨x1,y1⟩:=m7 h1;obtain⟨x2,y2⟩:=m7 (rm y1 h2);rw [iw,x1,iw,x2];rfl
end
section
def aV (hs:List aG)(w:Nat)(hand:Int):Int:=if hand=0 then (hs.getD w bA).l else (hs.getD w bA).r
theorem cC (s:aw)(w:Nat)(hand:Int):bF s w hand=aV s.aq w hand:=rfl
def uk (h:aG)(t:Int):Nat:=(if h.l=t then 1 else 0)+(if h.r=t then 1 else 0)
def fN:List aG→Int→Nat
 | [],_=>0
 |h::l,t=>uk h t+fN l t
theorem AQ: ∀(l:List aG) (w:Nat) (h:aG) (t:Int),w<l.length→fN (l.set w h) t+uk (l.getD w bA) t=fN l t+uk h t
 | [],w,h,t,hw=>by simp at hw
 |x::l,0,h,t,hw=>by simp [fN];omega
 |x::l,w+1,h,t,hw=>by
  have:=AQ l w h t (by simpa using hw);simp only [List.set_cons_succ,fN,List.getD_cons_succ]at this⊢;omega
theorem rG (l:List aG)(w:Nat)(hand v t:Int)(hw:w<l.length):fN (bp l w hand v) t+(if aV l w hand=t then 1 else 0)=fN l t+(if v=t then 1 else 0):=by
 unfold bp;have:=AQ l w (if hand=0 then ⟨v,(l.getD w bA).r⟩else ⟨(l.getD w bA).l,v⟩) t hw;unfold aV;by_cases h:hand=0
 ·simp only [h,if_true,uk]at this⊢;omega
 ·simp only [h,if_false,uk]at this⊢;omega
theorem AR: ∀(l:List aG) (w:Nat) (t:Int),w<l.length→uk (l.getD w bA) t≤fN l t
 | [],w,t,hw=>by simp at hw
 |x::l,0,t,hw=>by simp [fN]
 |x::l,w+1,t,hw=>by
  have:=AR l w t (by simpa using hw);simp only [fN,List.getD_cons_succ]at this⊢;omega
theorem MV (l:List aG)(w:Nat)(hand t:Int)(hw:w<l.length)(h:aV l w hand=t):1≤fN l t:=by
 have:=AR l w t hw;unfold aV at h;unfold uk at this;split at h
 ·rw [if_pos h]at this;omega
 ·rw [if_pos h]at this;omega
theorem jV (l:List aG)(w:Nat)(hand v:Int):(bp l w hand v).length=l.length:=by simp [bp]
theorem eQ {l:List aG}{w:Nat}{hand v:Int}(p:Nat)(hw:w<l.length):(bp l w hand v).getD p bA=if p=w then (if hand=0 then ⟨v,(l.getD w bA).r⟩else ⟨(l.getD w bA).l,v⟩)else l.getD p bA:=by
 unfold bp;by_cases h:p=w
 ·subst h;simp [List.getD_eq_getElem?_getD,hw]
 ·have h': ¬w=p:=fun e=>h e.symm;simp [List.getD_eq_getElem?_getD,List.getElem?_set,h,h']
theorem Cw {l:List aG}{w:Nat}{hand v:Int}(p:Nat)(hd:Int)(hw:w<l.length)(h0:hand=0∨hand=1)(h1:hd=0∨hd=1):aV (bp l w hand v) p hd=if p=w∧hd=hand then v else aV l p hd:=by
 unfold aV;rw [eQ p hw];by_cases h:p=w
 ·subst h;rcases h0 with rfl|rfl<;>rcases h1 with rfl|rfl<;>simp
 ·simp [h]
theorem aQ {α:Type}{l:List α}{i:Nat}{d:α}(h:i<l.length):l.getD i d=l[i]:=by simp [List.getD_eq_getElem?_getD,h]
theorem vg {α:Type}(l:List α)(i:Nat)(d:α):l.set i (l.getD i d)=l:=by
 by_cases h:i<l.length
 ·rw [aQ h];simp
 ·exact List.set_eq_of_length_le (by omega)
theorem TU: ∀q:Fin 16,∀b∈[(1:Int),2,4],(if ((IntKind.i64.wrap (((q.1:Nat):Int).tdiv b)).tmod 2==1)then 0≤IntKind.i64.wrap (((q.1:Nat):Int)-b)∧IntKind.i64.wrap (((q.1:Nat):Int)-b)<16 else 0≤IntKind.i64.wrap (((q.1:Nat):Int)+b)∧IntKind.i64.wrap (((q.1:Nat):Int)+b)<16):=by decide
theorem HY {ts:List bC}{t:Nat}{bit:Int}{on:Bool}(ht:t<ts.length)(hs:0≤(ts.getD t aR).state∧(ts.getD t aR).state<16)(hb:bit=1∨bit=2∨bit=4):
  ∃st,0≤st∧st<16∧dw ts t bit on=ts.set t ⟨(ts.getD t aR).cell,st⟩:=by
 rw [jq];by_cases h:eT ts t bit=on
 ·rw [if_pos h];refine⟨_,hs.1,hs.2, ?_⟩;exact(vg ts t aR).symm
 ·rw [if_neg h];have hm:bit∈[(1:Int),2,4]:=(by simp;exact hb);have h0:decide ((0:Int)≤t)=true:=(by simp);rw [iJ,h0,Bool.true_and]at h;simp only [Int.toNat_natCast]at h;obtain⟨q,hq⟩:=Int.eq_ofNat_of_zero_le hs.1;have hq16:q<16:=(by omega);have B:=TU ⟨q,hq16⟩ bit hm;simp only [←hq]at B;cases on
  ·have h':((IntKind.i64.wrap ((ts.getD t aR).state.tdiv bit)).tmod 2==1)=true:=(by simpa using h);rw [if_pos h']at B;exact⟨_,B.1,B.2,by simp⟩
  ·have h': ¬((IntKind.i64.wrap ((ts.getD t aR).state.tdiv bit)).tmod 2==1)=true:=(by simpa using h);rw [if_neg h']at B;exact⟨_,B.1,B.2,by simp⟩
structure fT (r:aA)(s:aw):Prop extends E9 r s where
 pr: ∀x∈s.ah,0≤x∧x<r.wide*r.deep
 pn:s.ah.Nodup
 th: ∀t:Nat,t<s.aa.length→(fN s.aq t=1∧(s.aa.getD t aR).cell= -1)∨(fN s.aq t=0∧0≤(s.aa.getD t aR).cell∧(s.aa.getD t aR).cell<r.wide*r.deep)
 st: ∀t:Nat,t<s.aa.length→0≤(s.aa.getD t aR).state∧(s.aa.getD t aR).state<16
structure AB (r:aA)(w:Nat)(a:ak):Prop where
 aO:a.aO=w
 wl:w<r.ah.length
 hand:a.hand=0∨a.hand=1
 kind:1≤a.kind∧a.kind≤8
 take:a.kind=2→ ∃t:Nat,a.bf=t∧t<r.aa.length
 pO:a.kind=4→ ∃o:Nat,a.other=o∧o<r.ah.length∧o≠w
 step:a.kind=1→0≤a.cell∧a.cell<r.wide*r.deep
 form:nP a=true
theorem fZ {r:aA}{s:aw}(h:E9 r s){w:Nat}{hand:Int}(hw:w<r.ah.length):aV s.aq w hand<s.aa.length∧ -1≤aV s.aq w hand:=by
 have hl:w<s.aq.length:=(by rw [h.hl];exact hw);have:=h.hr w hl;unfold aV;rw [aQ hl];split
 ·exact⟨this.1,this.2.2.1⟩
 ·exact⟨this.2.1,this.2.2.2⟩
theorem Cx {l:List Int}(hn:l.Nodup){w:Nat}{c:Int}(hc:c∉l):(l.set w c).Nodup:=by
 induction l generalizing w with
 |nil=>simp
 |cons x l ih=>
  simp only [List.mem_cons,not_or]at hc;rw [List.nodup_cons]at hn
  cases w with
  |zero=>simp [hc.2,hn.2]
  |succ w=>
   rw [List.set_cons_succ,List.nodup_cons];refine⟨fun h=> ?_,ih hn.2 hc.2⟩;rcases List.mem_or_eq_of_mem_set h with h|h
   ·exact hn.1 h
   ·exact hc.1 h.symm
section
variable {r:aA} {s:aw} {w:Nat} {a:ak}
theorem lH (h:a.kind=1):da s w a={s with ah:=s.ah.set w a.cell}:=by rw [iv,if_pos h]
theorem oG (h:a.kind=2):da s w a={s with aq:=bp s.aq w a.hand a.bf,aa:=s.aa.set a.bf.toNat ⟨-1,(s.aa.getD a.bf.toNat aR).state⟩}:=by rw [iv,if_neg (by omega),if_pos h]
theorem mC (h:a.kind=3):da s w a={s with aq:=bp s.aq w a.hand (-1),aa:=s.aa.set (aV s.aq w a.hand).toNat ⟨s.ah.getD w 0,(s.aa.getD (aV s.aq w a.hand).toNat aR).state⟩}:=by rw [iv,if_neg (by omega),if_neg (by omega),if_pos h];rfl
theorem oH (h:a.kind=4):da s w a={s with aq:=bp (bp s.aq a.other.toNat (dR s.aq a.other.toNat) (aV s.aq w a.hand)) w a.hand (-1)}:=by rw [iv,if_neg (by omega),if_neg (by omega),if_neg (by omega),if_pos h];rfl
theorem oI (h:a.kind=5):da s w a={s with aa:=dw s.aa (aV s.aq w (1-a.hand)).toNat 1 true}:=by rw [iv,if_neg (by omega),if_neg (by omega),if_neg (by omega),if_neg (by omega),if_pos h];rfl
theorem oJ (h:a.kind=6):da s w a={s with aa:=dw (dw (dw s.aa (aV s.aq w a.hand).toNat 2 false) (aV s.aq w a.hand).toNat 1 false) (aV s.aq w (1-a.hand)).toNat 2 true}:=by rw [iv,if_neg (by omega),if_neg (by omega),if_neg (by omega),if_neg (by omega),if_neg (by omega),if_pos h];rfl
theorem oK (h:a.kind=7):da s w a={s with aa:=dw s.aa (aV s.aq w a.hand).toNat 4 true}:=by rw [iv,if_neg (by omega),if_neg (by omega),if_neg (by omega),if_neg (by omega),if_neg (by omega),if_neg (by omega),if_pos h];rfl
theorem oL (h:a.kind=8):da s w a={s with aa:=dw s.aa (aV s.aq w a.hand).toNat 4 false}:=by rw [iv,if_neg (by omega),if_neg (by omega),if_neg (by omega),if_neg (by omega),if_neg (by omega),if_neg (by omega),if_neg (by omega)];rfl
theorem yW (h:a.kind=1):b7 r s w a=(!(s.ah.contains a.cell) && ky r.wide (s.ah.getD w 0) a.cell):=by rw [du,if_pos h]
theorem Cy (h:a.kind=2):b7 r s w a=(aV s.aq w a.hand== -1 && (s.aa.getD a.bf.toNat aR).cell==s.ah.getD w 0):=by rw [du,if_neg (by omega),if_pos h];rfl
theorem yX (h:a.kind=3):b7 r s w a=decide (0≤aV s.aq w a.hand):=by rw [du,if_neg (by omega),if_neg (by omega),if_pos h];rfl
theorem yY (h:a.kind=4):b7 r s w a=(decide (0≤aV s.aq w a.hand) && ky r.wide (s.ah.getD w 0) (s.ah.getD a.other.toNat 0) && decide (0≤dR s.aq a.other.toNat)):=by rw [du,if_neg (by omega),if_neg (by omega),if_neg (by omega),if_pos h];rfl
theorem yZ (h:a.kind=5):b7 r s w a=(decide (0≤aV s.aq w a.hand) && (r.aa.getD (aV s.aq w a.hand).toNat dm).pR && decide (0≤aV s.aq w (1-a.hand))):=by rw [du,if_neg (by omega),if_neg (by omega),if_neg (by omega),if_neg (by omega),if_pos h];rfl
theorem vh (h:a.kind=6):b7 r s w a=(eT s.aa (aV s.aq w a.hand) 2 && !eT s.aa (aV s.aq w a.hand) 4 && decide (0≤aV s.aq w (1-a.hand)) && !eT s.aa (aV s.aq w (1-a.hand)) 2 && !eT s.aa (aV s.aq w (1-a.hand)) 4):=by rw [du,if_neg (by omega),if_neg (by omega),if_neg (by omega),if_neg (by omega),if_neg (by omega),if_pos h];rfl
theorem y6 (h:a.kind=7):b7 r s w a=(decide (0≤aV s.aq w a.hand) && !eT s.aa (aV s.aq w a.hand) 4):=by rw [du,if_neg (by omega),if_neg (by omega),if_neg (by omega),if_neg (by omega),if_neg (by omega),if_neg (by omega),if_pos h];rfl
theorem y7 (h:a.kind=8):b7 r s w a=eT s.aa (aV s.aq w a.hand) 4:=by rw [du,if_neg (by omega),if_neg (by omega),if_neg (by omega),if_neg (by omega),if_neg (by omega),if_neg (by omega),if_neg (by omega)];rfl
theorem nd (h:1≤a.kind∧a.kind≤8):a.kind=1∨a.kind=2∨a.kind=3∨a.kind=4∨a.kind=5∨a.kind=6∨a.kind=7∨a.kind=8:=by omega
theorem AS {ts:List bC}{x b:Int}(h:eT ts x b=true):0≤x:=by
 rw [iJ]at h;simp at h;exact h.1
end
theorem oM {r:aA}{s:aw}{w:Nat}{a:ak}(hS:fT r s)(hA:AB r w a)(hp:b7 r s w a=true):Fe s w a:=by
 have e1:=hS.pl;have e2:=hS.hl;have e3:=hS.tl;have wl:=hA.wl;have R0:=fun(hd:Int)=>fZ hS.toE9 (w:=w) (hand:=hd) wl;have nat: ∀x:Int,0≤x→x<s.aa.length→ ∃t:Nat,x=t∧t<s.aa.length:=fun x h1 h2=>⟨x.toNat,by omega,by omega⟩;have held:3≤a.kind→0≤aV s.aq w a.hand:=fun h3=>by
  rcases nd hA.kind with k|k|k|k|k|k|k|k
  ·omega
  ·omega
  ·rw [yX k]at hp;simpa using hp
  ·rw [yY k]at hp;simp at hp;exact hp.1.1
  ·rw [yZ k]at hp;simp at hp;exact hp.1.1
  ·rw [vh k]at hp;simp at hp;exact AS hp.1.1.1.1
  ·rw [y6 k]at hp;simp at hp;exact hp.1
  ·rw [y7 k]at hp;exact AS hp
 refine⟨by omega,by omega,hA.aO,hA.hand,hA.kind,fun h=> ?_,fun h=>nat _ (held h) (R0 _).1,fun h=> ?_,fun h=>nat _ ?_ (R0 _).1⟩
 ·obtain⟨t,h1,h2⟩:=hA.take h;exact⟨t,h1,by omega⟩
 ·obtain⟨o,h1,h2,h3⟩:=hA.pO h;rw [yY h,h1]at hp;simp at hp;refine⟨o,h1,by omega,h3, ?_⟩;have:=hp.2;unfold dR at this⊢;split
  ·exact .inl rfl
  ·rename_i hh;rw [if_neg hh]at this;split
   ·exact .inr rfl
   ·rename_i hh2;rw [if_neg hh2]at this;omega
 ·show 0≤aV s.aq w (1-a.hand)
  rcases h with h|h
  ·rw [yZ h]at hp;simp at hp;exact hp.2
  ·rw [vh h]at hp;simp at hp;exact hp.1.1.2
theorem cell_of {r:aA}{s:aw}(hS:fT r s){w:Nat}(hw:w<r.ah.length):0≤s.ah.getD w 0∧s.ah.getD w 0<r.wide*r.deep:=by
 have hl:w<s.ah.length:=(by rw [hS.pl];exact hw);rw [aQ hl];exact hS.pr _ (List.getElem_mem hl)
theorem fT.TV {r:aA}{s:aw}(hS:fT r s)(ts:List bC)(hl:ts.length=s.aa.length)(hc: ∀t:Nat,t<s.aa.length→(ts.getD t aR).cell=(s.aa.getD t aR).cell∧0≤(ts.getD t aR).state∧(ts.getD t aR).state<16):fT r {s with aa:=ts} where
 pl:=hS.pl
 hl:=hS.hl
 tl:=hl.trans hS.tl
 hr:=fun i h=>by have:=hS.hr i h;rw [←hl]at this;exact this
 pr:=hS.pr
 pn:=hS.pn
 th:=fun t h=>by
  have h':t<s.aa.length:=(by rw [←hl];exact h);rw [(hc t h').1];exact hS.th t h'
 st:=fun t h=>(hc t (by rw [←hl];exact h)).2
theorem tw {α:Type}{l:List α}{i j:Nat}{x d:α}(hj:j<l.length):(l.set i x).getD j d=if i=j then x else l.getD j d:=by
 simp only [List.getD_eq_getElem?_getD,List.getElem?_set];split
 ·rename_i h;subst h;simp [hj]
 ·rfl
theorem qn {ts:List bC}{t:Nat}{bit:Int}{on:Bool}(hst: ∀t:Nat,t<ts.length→0≤(ts.getD t aR).state∧(ts.getD t aR).state<16)(ht:t<ts.length)(hb:bit=1∨bit=2∨bit=4):
  (dw ts t bit on).length=ts.length∧ ∀u:Nat,u<ts.length→((dw ts t bit on).getD u aR).cell=(ts.getD u aR).cell∧0≤((dw ts t bit on).getD u aR).state∧((dw ts t bit on).getD u aR).state<16:=by
 obtain⟨st,h1,h2,h3⟩:=HY (on:=on) ht (hst t ht) hb;rw [h3];refine⟨by simp,fun u hu=> ?_⟩;rw [tw hu];split
 ·rename_i e;subst e;exact⟨rfl,h1,h2⟩
 ·exact⟨rfl,hst u hu⟩
theorem fT.set {r:aA}{s:aw}(hS:fT r s){t:Nat}{bit:Int}{on:Bool}(ht:t<s.aa.length)(hb:bit=1∨bit=2∨bit=4):fT r {s with aa:=dw s.aa t bit on}:=by
 obtain⟨a,b⟩:=qn (on:=on) hS.st ht hb;exact hS.TV _ a b
theorem fT.TA {r : aA} {s : aw} {w : Nat} {a : ak} (hS : fT r s) (hA : AB r w a) (hp : b7 r s w a = true) : fT r (da s w a) := by
  have D := oM hS hA hp
  have e1 := hS.pl
  have e2 := hS.hl
  have e3 := hS.tl
  have wl := hA.wl
  have hh := hA.hand
  have hk := hA.kind
  have hwh : w < s.aq.length := by omega
  have hrp : ∀ v : Int, -1 ≤ v → v < s.aa.length → ∀ i (h : i < (bp s.aq w a.hand v).length), (bp s.aq w a.hand v)[i].l < s.aa.length ∧ (bp s.aq w a.hand v)[i].r < s.aa.length ∧ -1 ≤ (bp s.aq w a.hand v)[i].l ∧ -1 ≤ (bp s.aq w a.hand v)[i].r := fun v h1 h2 i hi => by
    rw [← aQ (d := bA) hi, eQ i hwh]
    have hi' : i < s.aq.length := by simpa [bp] using hi
    have q := hS.hr i hi'
    split
    · rename_i e; subst e
      rw [aQ hi']
      split
      · exact ⟨h2, q.2.1, h1, q.2.2.2⟩
      · exact ⟨q.1, h2, q.2.2.1, h1⟩
    · rw [aQ hi']; exact q
  rcases nd hA.kind with k1 | k2 | k3 | k4 | k5 | k6 | k7 | k8
  · rw [lH k1]
    rw [yW k1] at hp
    obtain ⟨c1, c2⟩ := hA.step k1
    simp only [Bool.and_eq_true, Bool.not_eq_true', List.contains_eq_mem] at hp
    have hnc : a.cell ∉ s.ah := by simpa using hp.1
    exact { pl := by simpa using hS.pl, hl := hS.hl, tl := hS.tl, hr := hS.hr, pr := fun x hx => by
              rcases List.mem_or_eq_of_mem_set hx with h | h
              · exact hS.pr x h
              · subst h; exact ⟨c1, c2⟩
            pn := Cx hS.pn hnc, th := hS.th, st := hS.st }
  · obtain ⟨t, ht1, ht2⟩ := D.take k2
    have C := cell_of hS wl
    rw [Cy k2] at hp
    rw [oG k2]
    simp only [ht1, Int.toNat_natCast, Bool.and_eq_true, beq_iff_eq] at hp ⊢
    obtain ⟨p1, p2⟩ := hp
    have cnt := fun u => rG s.aq w a.hand t u hwh
    have tt := hS.th t ht2
    have hrt := hrp t (by omega) (by omega)
    refine { pl := hS.pl, hl := by simpa [jV] using hS.hl, tl := by simpa using hS.tl, hr := fun i h => by rw [List.length_set]; exact hrt i h, pr := hS.pr, pn := hS.pn, th := fun u hu => ?_, st := fun u hu => ?_ }
    · have hu' : u < s.aa.length := by simpa using hu
      have q := hS.th u hu'
      have := cnt u
      rw [p1] at this
      rw [tw hu']
      by_cases e : t = u
      · subst e
        have e1 : ¬ ((-1 : Int) = (t : Int)) := by omega
        simp only [e1, if_true, if_false, eq_self] at this ⊢
        exact .inl ⟨by omega, trivial⟩
      · have e1 : ¬ ((-1 : Int) = (u : Int)) := by omega
        have e2 : ¬ ((t : Int) = (u : Int)) := by omega
        simp only [e, e1, e2, if_false] at this ⊢
        rw [show fN (bp s.aq w a.hand t) u = fN s.aq u by omega]
        exact q
    · have hu' : u < s.aa.length := by simpa using hu
      rw [tw hu']
      split
      · exact hS.st t ht2
      · exact hS.st u hu'
  · obtain ⟨t, ht1', ht2⟩ := D.held (by omega)
    rw [cC] at ht1'
    have C := cell_of hS wl
    rw [mC k3]
    simp only [ht1', Int.toNat_natCast]
    have cnt := fun u => rG s.aq w a.hand (-1) u hwh
    have tt := hS.th t ht2
    have hrt := hrp (-1) (by omega) (by omega)
    have ca := MV s.aq w a.hand t hwh ht1'
    refine { pl := hS.pl, hl := by simpa [jV] using hS.hl, tl := by simpa using hS.tl, hr := fun i h => by rw [List.length_set]; exact hrt i h, pr := hS.pr, pn := hS.pn, th := fun u hu => ?_, st := fun u hu => ?_ }
    · have hu' : u < s.aa.length := by simpa using hu
      have q := hS.th u hu'
      have := cnt u
      rw [ht1'] at this
      have e1 : ¬ ((-1 : Int) = (u : Int)) := by omega
      rw [tw hu']
      by_cases e : t = u
      · subst e
        simp only [e1, if_true, if_false] at this ⊢
        omega
      · have e2 : ¬ ((t : Int) = (u : Int)) := by omega
        simp only [e, e1, e2, if_false] at this ⊢
        rw [show fN (bp s.aq w a.hand (-1)) u = fN s.aq u by omega]
        exact q
    · have hu' : u < s.aa.length := by simpa using hu
      rw [tw hu']
      split
      · exact hS.st t ht2
      · exact hS.st u hu'
  · obtain ⟨t, ht1', ht2⟩ := D.held (by omega)
    rw [cC] at ht1'
    obtain ⟨o, o1, o2, o3, o4⟩ := D.pO k4
    rw [oH k4]
    simp only [ht1', o1, Int.toNat_natCast]
    obtain ⟨tk, etk⟩ : ∃ tk, dR s.aq o = tk := ⟨_, rfl⟩
    rw [etk] at o4 ⊢
    have tkf : aV s.aq o tk = -1 := by
      unfold dR at etk
      unfold aV
      split at etk
      · subst etk; simpa using ‹_›
      · split at etk
        · subst etk; simpa using ‹_›
        · omega
    have hl1 : w < (bp s.aq o tk t).length := by rw [jV]; exact hwh
    have c1 := fun u => rG s.aq o tk t u o2
    have c2 := fun u => rG (bp s.aq o tk t) w a.hand (-1) u hl1
    have hw2 : aV (bp s.aq o tk t) w a.hand = t := by
      rw [Cw w a.hand o2 o4 hh, if_neg (fun e => o3 e.1.symm)]; exact ht1'
    refine { pl := hS.pl, hl := by simpa [jV] using hS.hl, tl := hS.tl, hr := fun i h => ?_, pr := hS.pr, pn := hS.pn, th := fun u hu => ?_, st := hS.st }
    · rw [← aQ (d := bA) h, eQ i hl1]
      have hi' : i < s.aq.length := by simpa [bp] using h
      have q := hS.hr i hi'
      have qw := hS.hr w hwh
      have ne : ¬ w = o := fun e => o3 e.symm
      have two : ((bp s.aq o tk t).getD i bA).l < s.aa.length ∧ ((bp s.aq o tk t).getD i bA).r < s.aa.length ∧ -1 ≤ ((bp s.aq o tk t).getD i bA).l ∧ -1 ≤ ((bp s.aq o tk t).getD i bA).r := by
        rw [eQ i o2]
        split
        · rename_i e; subst e
          rw [aQ hi']
          split
          · exact ⟨by show (t : Int) < _; omega, q.2.1, by show (-1 : Int) ≤ t; omega, q.2.2.2⟩
          · exact ⟨q.1, by show (t : Int) < _; omega, q.2.2.1, by show (-1 : Int) ≤ t; omega⟩
        · rw [aQ hi']; exact q
      split
      · rename_i e; subst e
        split
        · exact ⟨by show (-1 : Int) < _; omega, two.2.1, by show (-1 : Int) ≤ -1; omega, two.2.2.2⟩
        · exact ⟨two.1, by show (-1 : Int) < _; omega, two.2.2.1, by show (-1 : Int) ≤ -1; omega⟩
      · exact two
    · have q := hS.th u hu
      have d1 := c1 u
      have d2 := c2 u
      rw [hw2] at d2
      rw [tkf] at d1
      have e1 : ¬ ((-1 : Int) = (u : Int)) := by omega
      simp only [e1, if_false] at d1 d2
      show (fN (bp (bp s.aq o tk t) w a.hand (-1)) u = 1 ∧ _) ∨ (fN (bp (bp s.aq o tk t) w a.hand (-1)) u = 0 ∧ _)
      rw [show fN (bp (bp s.aq o tk t) w a.hand (-1)) u = fN s.aq u by omega]
      exact q
  · obtain ⟨q, q1, q2⟩ := D.xE (.inl k5)
    rw [cC] at q1
    rw [oI k5]
    simp only [q1, Int.toNat_natCast]
    exact hS.set q2 (.inl rfl)
  · obtain ⟨t, ht1', ht2⟩ := D.held (by omega)
    rw [cC] at ht1'
    obtain ⟨q, q1, q2⟩ := D.xE (.inr k6)
    rw [cC] at q1
    rw [oJ k6]
    simp only [q1, ht1', Int.toNat_natCast]
    have S1 := hS.set (on := false) ht2 (.inr (.inl rfl) : (2 : Int) = 1 ∨ (2 : Int) = 2 ∨ (2 : Int) = 4)
    have S2 := S1.set (t := t) (on := false) (by simpa [dJ] using ht2) (.inl rfl : (1 : Int) = 1 ∨ (1 : Int) = 2 ∨ (1 : Int) = 4)
    exact S2.set (t := q) (on := true) (by simpa [dJ] using q2) (.inr (.inl rfl))
  · obtain ⟨t, ht1', ht2⟩ := D.held (by omega)
    rw [cC] at ht1'
    rw [oK k7]
    simp only [ht1', Int.toNat_natCast]
    exact hS.set ht2 (.inr (.inr rfl))
  · obtain ⟨t, ht1', ht2⟩ := D.held (by omega)
    rw [cC] at ht1'
    rw [oL k8]
    simp only [ht1', Int.toNat_natCast]
    exact hS.set ht2 (.inr (.inr rfl))
end
section
variable {c:Nat} {H:aj}
def lR (a b:Int):Int:=IntKind.i64.wrap (BitVec.ofInt 64 a &&& ~~~(BitVec.ofInt 64 b)).toNat
@[simp] theorem Qi {K:Ctx}{t:TypeId}{a b:Int}:fG K .andNot t (.pure (.int .i64 a)) (.pure (.int .i64 b))=some (.int .i64 (lR a b)):=by
 simp only [fG,oN,lR];rfl
theorem HZ: ∀q:Fin 16,∀b∈[(2:Int),4],(TW .i64 ((q.1:Nat):Int) b==b)=((IntKind.i64.wrap (((q.1:Nat):Int).tdiv b)).tmod 2==1):=by decide+kernel
def aP (r:aA)(s:aw):List PV:=[.int .i64 r.wide, .int .i64 r.deep, .slice (r.ah.map aS.row), .slice (r.aa.map aZ.row), .slice (r.seen.map aF), .slice (r.aX.map aF), .slice (r.ai.map ak.row), .slice (s.ah.map aF), .slice (s.aq.map aG.row), .slice (s.aa.map bC.row)]
theorem bE (a:ak):a.row=[.int .i64 a.ba, .int .i64 a.aO, .int .i64 a.kind, .int .i64 a.hand, .int .i64 a.bf, .int .i64 a.cell, .int .i64 a.other, .int .i64 a.cd, .int .i64 a.gR]:=rfl
theorem AU {r:aA}{s:aw}{w:Nat}{a:ak}(hw:w<s.aq.length)(h1:a.aO=w)(h2:a.hand=0∨a.hand=1)(hH:0<H.length):
  bI KC (aE KC) 154 [.pure (.agg (aP r s)), .pure (.agg a.row)] c H=some (.pure (.int .i64 (aV s.aq w a.hand)),H):=by
 refine aM (aK KC au Tryz.func154 rfl rfl Ml (by simp) hH ?_);rw [bE];unfold aP aV;rw [aQ hw];rcases h2 with h2|h2
 ·simp [h1,h2,hw,aG.row,ae]
 ·simp [h1,h2,hw,aG.row,ae]
theorem vl {r:aA}{s:aw}{w:Nat}{a:ak}(hw:w<s.aq.length)(h1:a.aO=w)(h2:a.hand=0∨a.hand=1)(hH:0<H.length):
  bI KC (aE KC) 153 [.pure (.agg (aP r s)), .pure (.agg a.row)] c H=some (.pure (.int .i64 (aV s.aq w (1-a.hand))),H):=by
 refine aM (aK KC au Tryz.func153 rfl rfl Mk (by simp) hH ?_);rw [bE];unfold aP aV;rw [aQ hw];have w0:IntKind.i64.wrap (1-0)=1:=rfl;have w1:IntKind.i64.wrap (1-1)=0:=rfl;rcases h2 with h2|h2
 ·simp [h1,h2,hw,aG.row,ae,w0]
 ·simp [h1,h2,hw,aG.row,ae,w1]
theorem H4 {r:aA}{s:aw}{t:Nat}{b:Int}(ht:t<s.aa.length)(hs:0≤(s.aa.getD t aR).state∧(s.aa.getD t aR).state<16)(hb:b=2∨b=4)(hH:0<H.length):
  bI KC (aE KC) 157 [.pure (.agg (aP r s)), .pure (.int .i64 t), .pure (.int .i64 b)] c H=some (.pure (.bool (eT s.aa t b)),H):=by
 refine aM (aK KC au Tryz.func157 rfl rfl Mo (by simp) hH ?_);have hd:=iJ s.aa t b;simp only [Int.toNat_natCast,aQ ht]at hd hs;obtain⟨q,hq⟩:=Int.eq_ofNat_of_zero_le hs.1;have e:=HZ ⟨q,by omega⟩ b (by simp;exact hb);simp only [←hq]at e;have h0:decide ((0:Int)≤t)=true:=(by simp);rw [h0,Bool.true_and,←e]at hd;unfold aP;simp [ht,bC.row,ae,hd]
theorem AV (x:Int):(x=0∧x*x=0)∨(x=1∧x*x=1)∨(x= -1∧x*x=1)∨((x≠0∧x≠1∧x≠ -1)∧4≤x*x):=by
 by_cases h0:x=0
 ·subst h0;exact .inl ⟨rfl,rfl⟩
 by_cases h1:x=1
 ·subst h1;exact .inr (.inl ⟨rfl,rfl⟩)
 by_cases h2:x= -1
 ·subst h2;exact .inr (.inr (.inl ⟨rfl,rfl⟩))
 refine .inr (.inr (.inr ⟨⟨h0,h1,h2⟩, ?_⟩));rw [←Int.natAbs_mul_self];have:2≤x.natAbs:=(by omega);have:=Nat.mul_le_mul this this;omega
theorem Qj {x:Int}{n:Nat}(h1: -(n:Int)≤x)(h2:x≤n):0≤x*x∧x*x≤((n*n:Nat):Int):=by
 rw [←Int.natAbs_mul_self];have:x.natAbs≤n:=(by omega);have:=Nat.mul_le_mul this this;omega
theorem MW {w a b:Int}(hw:1≤w)(hw6:w≤1000)(ha:0≤a)(ha2:a<1000000)(hb:0≤b)(hb2:b<1000000):
  (IntKind.i64.wrap (IntKind.i64.wrap (IntKind.i64.wrap (a.tmod w-b.tmod w)*IntKind.i64.wrap (a.tmod w-b.tmod w))+IntKind.i64.wrap (IntKind.i64.wrap (IntKind.i64.wrap (a.tdiv w)-IntKind.i64.wrap (b.tdiv w))*IntKind.i64.wrap (IntKind.i64.wrap (a.tdiv w)-IntKind.i64.wrap (b.tdiv w))))==1)=ky w a b:=by
 rw [xF];have h1:0≤a.tmod w:=Int.tmod_nonneg _ ha;have h2:a.tmod w<w:=Int.tmod_lt_of_pos _ (by omega);have h3:0≤b.tmod w:=Int.tmod_nonneg _ hb;have h4:b.tmod w<w:=Int.tmod_lt_of_pos _ (by omega);have h5:0≤a.tdiv w:=Int.tdiv_nonneg ha (by omega);have h6:a.tdiv w≤a:=Int.tdiv_le_self _ ha;have h7:0≤b.tdiv w:=Int.tdiv_nonneg hb (by omega);have h8:b.tdiv w≤b:=Int.tdiv_le_self _ hb;rw [dp (x:=a.tmod w-b.tmod w) (by omega) (by omega),dp (x:=a.tdiv w) (by omega) (by omega),dp (x:=b.tdiv w) (by omega) (by omega),dp (x:=a.tdiv w-b.tdiv w) (by omega) (by omega)];have hx1: -(1000:Int)≤a.tmod w-b.tmod w:=(by omega);have hx2:a.tmod w-b.tmod w≤1000:=(by omega);have hy1: -(1000000:Int)≤a.tdiv w-b.tdiv w:=(by omega);have hy2:a.tdiv w-b.tdiv w≤1000000:=(by omega);generalize a.tmod w-b.tmod w=x at hx1 hx2⊢;generalize a.tdiv w-b.tdiv w=y at hy1 hy2⊢;have qx:=Qj (n:=1000) hx1 hx2;have qy:=Qj (n:=1000000) hy1 hy2;rw [dp (x:=x*x) (by omega) (by omega),dp (x:=y*y) (by omega) (by omega),dp (x:=x*x+y*y) (by omega) (by omega)];have cx:=AV x;have cy:=AV y;rw [Bool.eq_iff_iff];simp only [Bool.or_eq_true,Bool.and_eq_true,beq_iff_eq];omega
theorem Ff {w d a b:Int}{x1 x2 x3 x4 x5:PV}(hw:1≤w)(hw6:w≤1000)(ha:0≤a)(ha2:a<1000000)(hb:0≤b)(hb2:b<1000000)(hH:0<H.length):
  bI KC (aE KC) 155 [.pure (.agg [.int .i64 w, .int .i64 d,x1,x2,x3,x4,x5]), .pure (.int .i64 a), .pure (.int .i64 b)] c H=some (.pure (.bool (ky w a b)),H):=by
 refine aM (aK KC au Tryz.func155 rfl rfl Mm (by simp) hH ?_);have e:=MW hw hw6 ha ha2 hb hb2;have w0: ¬w=0:=(by omega);simp [w0,ae];exact e
theorem AW {w d a b:Int}{x1 x2 x3 x4 x5:PV}(hw:1≤w)(hw6:w≤1000)(ha:0≤a)(ha2:a<1000000)(hb:0≤b)(hb2:b<1000000)(hH:0<H.length):
  aL KC (aE KC) 155 [.pure (.agg [.int .i64 w, .int .i64 d,x1,x2,x3,x4,x5]), .pure (.int .i64 a), .pure (.int .i64 b)] c H=some (.pure (.bool (ky w a b)),H):=
 eJ rfl rfl rfl rfl rfl hH fun H hH=>Ff hw hw6 ha ha2 hb hb2 hH
noncomputable def H5:List Int→Int→Int:=nO fun l x=>oO (fun j=>l.getD j 0==x) l.length 0
theorem vn (l:List Int)(x:Int):H5 l x=oO (fun j=>l.getD j 0==x) l.length 0:=by rw [H5,cP]
theorem Cz (l:List Int)(x:Int)(hn:l.length≤1000000)(Q:GX→bO→Prop)(hH:0<H.length): ∀k i:Nat,i+k=l.length→
  (oO (fun j=>l.getD j 0==x) k i= -1→Q (.exit 0) ⟨[(4,aN)],H,19⟩)→(0≤oO (fun j=>l.getD j 0==x) k i→Q .ret ⟨[(4, .pure (.int .i64 (oO (fun j=>l.getD j 0==x) k i)))],H,19⟩)→
  iB KC au 131 (lp Tryz.f131 0) [0,1,7,8] [4] Q [(0, .pure (.slice (l.map aF))),(1, .pure (.int .i64 x)),(7, .pure (.int .i64 l.length)),(8, .pure (.int .i64 i))] H 19:=by
 intro k
 induction k with
 |zero=>
  intro i hi h1 h2;apply ax;conv=>arg 4;whnf
  have: ¬i<l.length:=(by omega);simp [this,hH];exact h1 rfl
 |succ k ih=>
  intro i hi h1 h2;have hia:i<l.length:=(by omega);have hw:=dp (x:=(i:Int)+1) (by omega) (by omega);have ih':=ih (i+1) (by omega);have hg:l.getD i 0=l[i]:=aQ hia;unfold oO at h1 h2;simp only [hg]at h1 h2;apply ax;conv=>arg 4;whnf
  by_cases he:x=l[i]
  ·have he2:(l[i]==x)=true:=(by simp [he]);simp only [he2,if_true]at h1 h2;simp [hia,hH,aF,he];exact h2 (by omega)
  ·have he':(x==l[i])=false:=(by simpa using he);have he2: ¬(l[i]==x)=true:=(by simp;exact fun e=>he e.symm);rw [if_neg he2]at h1 h2;simp [hia,hH,aF,he',hw];simpa [aF]using ih' h1 h2
theorem rH (l:List Int)(x:Int)(hn:l.length≤1000000)(hH:0<H.length):aL KC (aE KC) 131 [.pure (.slice (l.map aF)), .pure (.int .i64 x)] c H=some (.pure (.int .i64 (H5 l x)),H):=by
 refine eJ rfl rfl rfl rfl rfl hH fun H hH=> ?_;refine aM (aK KC au Tryz.func131 rfl rfl LY (by simp) hH ?_);have hd:=vn l x;simp;refine Cz (H:=[]::H) l x hn _ (by simp) l.length 0 (by omega) (fun h=> ?_) (fun h=> ?_)
 ·rw [←hd]at h;simp [h,ae]
 ·rw [←hd];simp [ae]
theorem nQ (l:List Int)(x:Int)(hn:l.length≤1000000)(hH:0<H.length):aL KC (aE KC) 115 [.pure (.slice (l.map aF)), .pure (.int .i64 x)] c H=some (.pure (.bool (l.contains x)),H):=by
 refine eJ rfl rfl rfl rfl rfl hH fun H hH=> ?_;refine aM (aK KC au Tryz.func115 rfl rfl LG (by simp) hH ?_);have I:=fun c (H:aj) (hH:0<H.length)=>rH (c:=c) (H:=H) l x hn hH;have e:decide (0≤H5 l x)=l.contains x:=by
  rw [vn,Bool.eq_iff_iff,decide_eq_true_eq,oP,List.contains_iff_mem];constructor
  ·rintro⟨j,_,h2,h3⟩;have hj:j<l.length:=(by omega);rw [aQ hj]at h3;have:l[j]=x:=(by simpa using h3);exact this▸List.getElem_mem hj
  ·intro h;obtain⟨j,hj,rfl⟩:=List.getElem_of_mem h;exact⟨j,by omega,by omega,by rw [aQ hj];simp⟩
 simp only [List.contains_eq_mem]at e;simp [I,ae];simpa using e
theorem AX {r:aA}{s:aw}{w:Nat}(hw:w<s.aq.length)(hH:0<H.length):
  bI KC (aE KC) 156 [.pure (.agg (aP r s)), .pure (.int .i64 w)] c H=some (.pure (.int .i64 (dR s.aq w)),H):=by
 refine aM (aK KC au Tryz.func156 rfl rfl Mn (by simp) hH ?_);have I:=fun c (H:aj) (hH:0<H.length)=>rH (c:=c) (H:=H) [s.aq[w].l,s.aq[w].r] (-1) (by simp) hH;have e:H5 [s.aq[w].l,s.aq[w].r] (-1)=dR s.aq w:=by
  rw [vn];unfold dR;rw [aQ hw];simp [oO]
 rw [e]at I;simp [aF]at I;have gs: ∀a b:PV,km KC 84 (.bX [a,b]) none none none=some (.pure (.slice [[a],[b]])):=fun a b=>by
  have t53:um Tryz.prog 84=some (2,3):=(by kernel_rfl);unfold km;simp [chunks,t53]
 unfold aP;simp [hw,aG.row,gs,I,ae]
end
section
variable {c:Nat} {H:aj}
structure WB (r:aA):Prop where
 w1:1≤r.wide
 w6:r.wide≤1000
 n6:r.wide*r.deep<1000000
 pl:r.ah.length≤1000000
 tl:r.aa.length≤1000000
section
variable {r:aA} {s:aw} {w:Nat} {a:ak}
theorem lS (hS:E9 r s)(hA:AB r w a)(hH:0<H.length):aL KC (aE KC) 154 [.pure (.agg (aP r s)), .pure (.agg a.row)] c H=some (.pure (.int .i64 (aV s.aq w a.hand)),H):=
 eJ rfl rfl rfl rfl rfl hH fun H hH=>AU (by rw [hS.hl];exact hA.wl) hA.aO hA.hand hH
theorem sM (hS:E9 r s)(hA:AB r w a)(hH:0<H.length):aL KC (aE KC) 153 [.pure (.agg (aP r s)), .pure (.agg a.row)] c H=some (.pure (.int .i64 (aV s.aq w (1-a.hand))),H):=
 eJ rfl rfl rfl rfl rfl hH fun H hH=>vl (by rw [hS.hl];exact hA.wl) hA.aO hA.hand hH
theorem vo (hS:fT r s){t:Nat}{b:Int}(ht:t<s.aa.length)(hb:b=2∨b=4)(hH:0<H.length):aL KC (aE KC) 157 [.pure (.agg (aP r s)), .pure (.int .i64 t), .pure (.int .i64 b)] c H=some (.pure (.bool (eT s.aa t b)),H):=
 eJ rfl rfl rfl rfl rfl hH fun H hH=>H4 ht (hS.st t ht) hb hH
theorem MY {o:Nat}(ho:o<s.aq.length)(hH:0<H.length):aL KC (aE KC) 156 [.pure (.agg (aP r s)), .pure (.int .i64 o)] c H=some (.pure (.int .i64 (dR s.aq o)),H):=
 eJ rfl rfl rfl rfl rfl hH fun H hH=>AX ho hH
theorem CA (hS:fT r s)(hW:WB r)(hA:AB r w a)(hk:a.kind=1)(hH:0<H.length):
  aL KC (aE KC) 135 [.pure (.agg (aP r s)), .pure (.agg a.row)] c H=some (.pure (.bool (b7 r s w a)),H):=by
 refine eJ rfl rfl rfl rfl rfl hH fun H hH=> ?_;refine aM (aK KC au Tryz.func135 rfl rfl L5 (by simp) hH ?_);have hwp:w<s.ah.length:=(by rw [hS.pl];exact hA.wl);have C1:=cell_of hS hA.wl;have C2:=hA.step hk;have n6:=hW.n6;have hd:=yW (r:=r) (s:=s) (w:=w) hk;rw [aQ hwp]at hd C1;have N:=fun c (H:aj) (hH:0<H.length)=>AW (c:=c) (H:=H) (w:=r.wide) (d:=r.deep) (a:=s.ah[w]) (b:=a.cell) (x1:= .slice (r.ah.map aS.row)) (x2:= .slice (r.aa.map aZ.row)) (x3:= .slice (r.seen.map aF)) (x4:= .slice (r.aX.map aF)) (x5:= .slice (r.ai.map ak.row)) hW.w1 hW.w6 C1.1 (by omega) C2.1 (by omega) hH;have CT:=fun c (H:aj) (hH:0<H.length)=>nQ (c:=c) (H:=H) s.ah a.cell (by rw [hS.pl];exact hW.pl) hH;rw [bE];unfold aP
 cases hn:ky r.wide s.ah[w] a.cell with
 |false=>
  simp [hn]at hd;simp [hA.aO,hwp,aF,N,hn,ae,hd]
 |true=>
  rw [hn,Bool.and_true]at hd
  cases hc:s.ah.contains a.cell with
  |false=>
   rw [hc]at hd CT;simp [hA.aO,hwp,aF,N,hn,CT,ae,hd]
  |true=>
   rw [hc]at hd CT;simp [hA.aO,hwp,aF,N,hn,CT,ae,hd]
theorem CB (hS:fT r s)(hA:AB r w a)(hk:a.kind=2)(hH:0<H.length):
  aL KC (aE KC) 137 [.pure (.agg (aP r s)), .pure (.agg a.row)] c H=some (.pure (.bool (b7 r s w a)),H):=by
 refine eJ rfl rfl rfl rfl rfl hH fun H hH=> ?_;refine aM (aK KC au Tryz.func137 rfl rfl L6 (by simp) hH ?_);have hwp:w<s.ah.length:=(by rw [hS.pl];exact hA.wl);obtain⟨t,ht,htl⟩:=hA.take hk;have htl':t<s.aa.length:=(by rw [hS.tl];exact htl);have R:=fZ hS.toE9 (w:=w) (hand:=a.hand) hA.wl;have hd:=Cy (r:=r) (s:=s) (w:=w) hk;rw [aQ hwp,ht,Int.toNat_natCast,aQ htl']at hd;have E:=fun c (H:aj) (hH:0<H.length)=>lS (c:=c) (H:=H) hS.toE9 hA hH;rw [bE]at E⊢;unfold aP at E⊢;by_cases h0:aV s.aq w a.hand<0
 ·have h1:aV s.aq w a.hand= -1:=(by omega);rw [h1]at hd E;simp at hd;simp [hA.aO,ht]at E;simp [hA.aO,hwp,aF,E,bC.row,ht,htl',ae,hd]
 ·have h1: ¬aV s.aq w a.hand= -1:=(by omega);have h1':(aV s.aq w a.hand== -1)=false:=(by simpa using h1);rw [h1',Bool.false_and]at hd;simp [hA.aO,ht]at E;simp [hA.aO,ht,E,h0,ae,hd]
theorem Fg (hS:fT r s)(hA:AB r w a)(hk:a.kind=3)(hH:0<H.length):
  aL KC (aE KC) 139 [.pure (.agg (aP r s)), .pure (.agg a.row)] c H=some (.pure (.bool (b7 r s w a)),H):=by
 refine eJ rfl rfl rfl rfl rfl hH fun H hH=> ?_;refine aM (aK KC au Tryz.func139 rfl rfl L8 (by simp) hH ?_);have hd:=yX (r:=r) (s:=s) (w:=w) hk;have E:=fun c (H:aj) (hH:0<H.length)=>lS (c:=c) (H:=H) hS.toE9 hA hH;rw [bE]at E⊢;unfold aP at E⊢;simp [E,ae,hd]
theorem CC (hS:fT r s)(hW:WB r)(hA:AB r w a)(hk:a.kind=4)(hH:0<H.length):
  aL KC (aE KC) 141 [.pure (.agg (aP r s)), .pure (.agg a.row)] c H=some (.pure (.bool (b7 r s w a)),H):=by
 refine eJ rfl rfl rfl rfl rfl hH fun H hH=> ?_;refine aM (aK KC au Tryz.func141 rfl rfl Ma (by simp) hH ?_);have hwp:w<s.ah.length:=(by rw [hS.pl];exact hA.wl);obtain⟨o,ho,hol,_⟩:=hA.pO hk;have hop:o<s.ah.length:=(by rw [hS.pl];exact hol);have hoh:o<s.aq.length:=(by rw [hS.hl];exact hol);have C1:=cell_of hS hA.wl;have C2:=cell_of hS hol;have n6:=hW.n6;have hd:=yY (r:=r) (s:=s) (w:=w) hk;rw [aQ hwp,ho,Int.toNat_natCast,aQ hop]at hd;rw [aQ hwp]at C1;rw [aQ hop]at C2;have N:=fun c (H:aj) (hH:0<H.length)=>AW (c:=c) (H:=H) (w:=r.wide) (d:=r.deep) (a:=s.ah[w]) (b:=s.ah[o]) (x1:= .slice (r.ah.map aS.row)) (x2:= .slice (r.aa.map aZ.row)) (x3:= .slice (r.seen.map aF)) (x4:= .slice (r.aX.map aF)) (x5:= .slice (r.ai.map ak.row)) hW.w1 hW.w6 C1.1 (by omega) C2.1 (by omega) hH;have E:=fun c (H:aj) (hH:0<H.length)=>lS (c:=c) (H:=H) hS.toE9 hA hH;have G:=fun c (H:aj) (hH:0<H.length)=>MY (c:=c) (H:=H) (r:=r) hoh hH;rw [bE]at E⊢;unfold aP at E G⊢;by_cases h0:0≤aV s.aq w a.hand
 ·cases hn:ky r.wide s.ah[w] s.ah[o]with
  |false=>
   simp [hn]at hd;simp [hA.aO,ho]at E;simp [hA.aO,hwp,aF,E,h0,N,hn,ho,hop,ae,hd]
  |true=>
   simp [hn,h0]at hd;simp [hA.aO,ho]at E;simp [hA.aO,hwp,aF,E,h0,N,hn,ho,hop,G,ae,hd]
 ·simp [h0]at hd;simp [hA.aO,ho]at E;simp [hA.aO,ho,E,h0,ae,hd]
theorem CD (hS:fT r s)(hA:AB r w a)(hk:a.kind=5)(hH:0<H.length):
  aL KC (aE KC) 143 [.pure (.agg (aP r s)), .pure (.agg a.row)] c H=some (.pure (.bool (b7 r s w a)),H):=by
 refine eJ rfl rfl rfl rfl rfl hH fun H hH=> ?_;refine aM (aK KC au Tryz.func143 rfl rfl Mb (by simp) hH ?_);have R:=fZ hS.toE9 (w:=w) (hand:=a.hand) hA.wl;have hd:=yZ (r:=r) (s:=s) (w:=w) hk;have E:=fun c (H:aj) (hH:0<H.length)=>lS (c:=c) (H:=H) hS.toE9 hA hH;have G:=fun c (H:aj) (hH:0<H.length)=>sM (c:=c) (H:=H) hS.toE9 hA hH;rw [bE]at E G⊢;unfold aP at E G⊢;by_cases h0:0≤aV s.aq w a.hand
 ·obtain⟨t,ht⟩:=Int.eq_ofNat_of_zero_le h0;have htl:t<r.aa.length:=(by have:=hS.tl;omega);rw [ht,Int.toNat_natCast,aQ htl]at hd;rw [ht]at E;have ht0:(0:Int)≤t:=by omega
  cases hc:r.aa[t].pR with
  |false=>
   simp [hc]at hd;simp [E,ht0,htl,aZ.row,hc,ae,hd]
  |true=>
   simp [hc]at hd;simp [E,G,ht0,htl,aZ.row,hc,ae,hd]
 ·simp [h0]at hd;simp [E,h0,ae,hd]
theorem CG (hS:fT r s)(hA:AB r w a)(hk:a.kind=6)(hH:0<H.length):
  aL KC (aE KC) 145 [.pure (.agg (aP r s)), .pure (.agg a.row)] c H=some (.pure (.bool (b7 r s w a)),H):=by
 refine eJ rfl rfl rfl rfl rfl hH fun H hH=> ?_;refine aM (aK KC au Tryz.func145 rfl rfl Md (by simp) hH ?_);have R:=fZ hS.toE9 (w:=w) (hand:=a.hand) hA.wl;have R2:=fZ hS.toE9 (w:=w) (hand:=1-a.hand) hA.wl;have hd:=vh (r:=r) (s:=s) (w:=w) hk;have E:=fun c (H:aj) (hH:0<H.length)=>lS (c:=c) (H:=H) hS.toE9 hA hH;have G:=fun c (H:aj) (hH:0<H.length)=>sM (c:=c) (H:=H) hS.toE9 hA hH;have V:=fun(t:Nat) (ht:t<s.aa.length) (b:Int) (hb:b=2∨b=4) c (H:aj) (hH:0<H.length)=>vo (c:=c) (H:=H) hS ht hb hH;rw [bE]at E G⊢;unfold aP at E G V⊢;have neg: ∀x b:Int,¬0≤x→eT s.aa x b=false:=fun x b h=>(by rw [iJ,decide_eq_false h];rfl);by_cases h0:0≤aV s.aq w a.hand
 ·obtain⟨t,ht⟩:=Int.eq_ofNat_of_zero_le h0;have htl:t<s.aa.length:=(by omega);rw [ht]at hd E;have ht0:(0:Int)≤t:=(by omega);have V1:=V t htl 2 (.inl rfl);have V2:=V t htl 4 (.inr rfl);by_cases k0:0≤aV s.aq w (1-a.hand)
  ·obtain⟨u,hu⟩:=Int.eq_ofNat_of_zero_le k0;have hul:u<s.aa.length:=(by omega);rw [hu]at hd G;have hu0:(0:Int)≤u:=(by omega);have V3:=V u hul 2 (.inl rfl);have V4:=V u hul 4 (.inr rfl)
   cases x1:eT s.aa t 2 with
   |false=>
    rw [x1]at hd V1;simp at hd;simp [E,G,ht0,hu0,V1,ae,hd]
   |true=>
    cases x2:eT s.aa t 4 with
    |true=>
     rw [x1,x2]at hd;rw [x1]at V1;rw [x2]at V2;simp at hd;simp [E,G,ht0,hu0,V1,V2,ae,hd]
    |false=>
     cases x3:eT s.aa u 2 with
     |true=>
      rw [x1,x2,x3]at hd;rw [x1]at V1;rw [x2]at V2;rw [x3]at V3;simp at hd;simp [E,G,ht0,hu0,V1,V2,V3,ae,hd]
     |false=>
      rw [x1,x2,x3]at hd;rw [x1]at V1;rw [x2]at V2;rw [x3]at V3;simp at hd;simp [E,G,ht0,hu0,V1,V2,V3,V4,ae,hd]
  ·simp [k0]at hd;simp [E,G,ht0,k0,ae,hd]
 ·rw [neg _ _ h0]at hd;simp at hd;simp [E,h0,ae,hd]
theorem AY (hS:fT r s)(hA:AB r w a)(hk:a.kind=7)(hH:0<H.length):
  aL KC (aE KC) 147 [.pure (.agg (aP r s)), .pure (.agg a.row)] c H=some (.pure (.bool (b7 r s w a)),H):=by
 refine eJ rfl rfl rfl rfl rfl hH fun H hH=> ?_;refine aM (aK KC au Tryz.func147 rfl rfl Mf (by simp) hH ?_);have R:=fZ hS.toE9 (w:=w) (hand:=a.hand) hA.wl;have hd:=y6 (r:=r) (s:=s) (w:=w) hk;have E:=fun c (H:aj) (hH:0<H.length)=>lS (c:=c) (H:=H) hS.toE9 hA hH;have V:=fun(t:Nat) (ht:t<s.aa.length) c (H:aj) (hH:0<H.length)=>vo (c:=c) (H:=H) hS ht (b:=4) (.inr rfl) hH;rw [bE]at E⊢;unfold aP at E V⊢;by_cases h0:0≤aV s.aq w a.hand
 ·obtain⟨t,ht⟩:=Int.eq_ofNat_of_zero_le h0;have htl:t<s.aa.length:=(by omega);rw [ht]at hd E;have ht0:(0:Int)≤t:=(by omega);have V1:=V t htl;simp at hd;simp [E,ht0,V1,ae,hd]
 ·simp [h0]at hd;simp [E,h0,ae,hd]
theorem CH (hS:fT r s)(hA:AB r w a)(hk:a.kind=8)(hH:0<H.length):
  aL KC (aE KC) 149 [.pure (.agg (aP r s)), .pure (.agg a.row)] c H=some (.pure (.bool (b7 r s w a)),H):=by
 refine eJ rfl rfl rfl rfl rfl hH fun H hH=> ?_;refine aM (aK KC au Tryz.func149 rfl rfl Mh (by simp) hH ?_);have R:=fZ hS.toE9 (w:=w) (hand:=a.hand) hA.wl;have hd:=y7 (r:=r) (s:=s) (w:=w) hk;have E:=fun c (H:aj) (hH:0<H.length)=>lS (c:=c) (H:=H) hS.toE9 hA hH;have V:=fun(t:Nat) (ht:t<s.aa.length) c (H:aj) (hH:0<H.length)=>vo (c:=c) (H:=H) hS ht (b:=4) (.inr rfl) hH;rw [bE]at E⊢;unfold aP at E V⊢;by_cases h0:0≤aV s.aq w a.hand
 ·obtain⟨t,ht⟩:=Int.eq_ofNat_of_zero_le h0;have htl:t<s.aa.length:=(by omega);rw [ht]at hd E;have ht0:(0:Int)≤t:=(by omega);have V1:=V t htl;simp [E,ht0,V1,ae,hd]
 ·rw [iJ,decide_eq_false h0]at hd;simp at hd;simp [E,h0,ae,hd]
theorem CI {k:Nat}(hk:1≤k∧k≤8)(hH:0<H.length):aL KC (aE KC) 127 [.pure (.int .i64 k)] c H=some (.pure (.agg [.fn (135+2*(k-1)), .fn (136+2*(k-1))]),H):=by
 refine aM (bd KC au Tryz.func127 rfl rfl LS rfl rfl rfl (by simp) hH ?_);obtain⟨k1,k8⟩:=hk
 match k,k1,k8 with
 |1,_,_=>simp [ae]
 |2,_,_=>simp [ae]
 |3,_,_=>simp [ae]
 |4,_,_=>simp [ae]
 |5,_,_=>simp [ae]
 |6,_,_=>simp [ae]
 |7,_,_=>simp [ae]
 |8,_,_=>simp [ae]
end
end
theorem AZ {l m:List Int}:gf l m=true↔ ∃x,x∈l∧x∈m:=by
 rw [lI];simp
theorem wV {l m:List Int}:gf l m=false↔ ∀x,x∈l→x∉m:=by
 rw [←Bool.not_eq_true,AZ];constructor
 ·intro h x h1 h2;exact h ⟨x,h1,h2⟩
 ·rintro h ⟨x,h1,h2⟩;exact h x h1 h2
structure JF (t u:Touch):Prop where
 ap: ∀x,x∈t.ah→x∉u.ah
 ba: ∀x,x∈t.aa→x∉u.aa
 ac: ∀x,x∈t.cells→x∉u.cells
theorem JF.symm {t u:Touch}(h:JF t u):JF u t:=⟨fun x a b=>h.ap x b a,fun x a b=>h.ba x b a,fun x a b=>h.ac x b a⟩
theorem Fh {t u:Touch}:xG t u=false↔JF t u:=by
 rw [xH];simp only [Bool.or_eq_false_iff,wV];exact⟨fun h=>⟨h.1,h.2.1,h.2.2⟩,fun h=>⟨h.ap,h.ba,h.ac⟩⟩
theorem Fi {s:aw}{w v:Nat}{a b:ak}:qm s w a v b=true↔JF (b9 s w a) (b9 s v b):=by
 rw [vp,←Fh];simp
theorem oQ {s:aw}{w:Nat}{a:ak}(h:a.kind=1):b9 s w a=⟨[a.aO],[],[s.ah.getD w 0,a.cell]⟩:=by rw [dS,if_pos h]
theorem vq {s:aw}{w:Nat}{a:ak}(h:a.kind=2):b9 s w a=⟨[a.aO],[a.bf],[]⟩:=by rw [dS,if_neg (by omega),if_pos h]
theorem vr {s:aw}{w:Nat}{a:ak}(h:a.kind=4):b9 s w a=⟨[a.aO,a.other],[aV s.aq w a.hand],[]⟩:=by rw [dS,if_neg (by omega),if_neg (by omega),if_pos h];rfl
theorem kJ {s:aw}{w:Nat}{a:ak}(h:a.kind=5∨a.kind=6):b9 s w a=⟨[a.aO],[aV s.aq w a.hand,aV s.aq w (1-a.hand)],[]⟩:=by rw [dS,if_neg (by omega),if_neg (by omega),if_neg (by omega),if_pos h];rfl
theorem gj {s:aw}{w:Nat}{a:ak}(h:a.kind=3∨a.kind=7∨a.kind=8):b9 s w a=⟨[a.aO],[aV s.aq w a.hand],[]⟩:=by rw [dS,if_neg (by omega),if_neg (by omega),if_neg (by omega),if_neg (by omega)];rfl
theorem iy {α:Type}{l:List α}{i j:Nat}{x d:α}:(l.set i x).getD j d=if i=j∧j<l.length then x else l.getD j d:=by
 simp only [List.getD_eq_getElem?_getD,List.getElem?_set];by_cases h:i=j
 ·subst h;by_cases h2:i<l.length
  ·simp [h2]
  ·simp [h2]
 ·simp [h]
theorem gN {ts:List bC}{t u:Nat}{bit:Int}{on:Bool}:(dw ts t bit on).getD u aR=if u=t∧u<ts.length then (dw ts t bit on).getD t aR else ts.getD u aR:=by
 rw [jq];by_cases h:eT ts t bit=on
 ·rw [if_pos h];split
  ·rename_i e;rw [e.1]
  ·rfl
 ·rw [if_neg h,iy,iy];by_cases e:u=t
  ·subst e;by_cases h2:u<ts.length<;>simp [h2]
  ·have: ¬t=u:=fun x=>e x.symm;simp [e,this]
theorem iX {ts us:List bC}{t:Nat}{b:Int}(h:us.getD t aR=ts.getD t aR):eT us t b=eT ts t b:=by
 rw [iJ,iJ];simp only [Int.toNat_natCast,h]
theorem nf {ts us:List bC}{t:Nat}{b:Int}{on:Bool}(hl:us.length=ts.length)(h:us.getD t aR=ts.getD t aR):(dw us t b on).getD t aR=(dw ts t b on).getD t aR:=by
 rw [jq,jq,iX h];split
 ·exact h
 ·rw [iy,iy,h,hl]
structure Ag (s s':aw)(P T:List Int):Prop where
 pl:s'.ah.length=s.ah.length
 hl:s'.aq.length=s.aq.length
 tl:s'.aa.length=s.aa.length
 pp: ∀i:Nat,(i:Int)∈P→s'.ah.getD i 0=s.ah.getD i 0
 ph: ∀i:Nat,(i:Int)∈P→s'.aq.getD i bA=s.aq.getD i bA
 tt: ∀i:Nat,(i:Int)∈T→s'.aa.getD i aR=s.aa.getD i aR
theorem kC {s:aw}{w:Nat}{a:ak}(hk:1≤a.kind∧a.kind≤8):(da s w a).ah.length=s.ah.length∧(da s w a).aq.length=s.aq.length∧(da s w a).aa.length=s.aa.length:=by
 rcases nd hk with k|k|k|k|k|k|k|k
 ·rw [lH k];simp
 ·rw [oG k];simp [jV]
 ·rw [mC k];simp [jV]
 ·rw [oH k];simp [jV]
 ·rw [oI k];simp [dJ]
 ·rw [oJ k];simp [dJ]
 ·rw [oK k];simp [dJ]
 ·rw [oL k];simp [dJ]
theorem Fj {s:aw}{w:Nat}{a:ak}(D:Fe s w a):
  (∀i:Nat,(i:Int)∉(b9 s w a).ah→(da s w a).ah.getD i 0=s.ah.getD i 0∧(da s w a).aq.getD i bA=s.aq.getD i bA)∧
  (∀i:Nat,(i:Int)∉(b9 s w a).aa→(da s w a).aa.getD i aR=s.aa.getD i aR):=by
 have hw:=D.aO;have hh:=D.hh;have ne: ∀i:Nat,¬(i:Int)=a.aO→ ¬i=w:=fun i h e=>h (by rw [hw,e]);have ne': ∀i:Nat,¬(i:Int)=a.aO→ ¬w=i:=fun i h e=>h (by rw [hw,e]);rcases nd D.kind with k|k|k|k|k|k|k|k
 ·rw [lH k,oQ k];refine⟨fun i hi=> ?_,fun i hi=>rfl⟩;simp only [List.mem_singleton]at hi;exact⟨by show (s.ah.set w a.cell).getD i 0=_;rw [iy,if_neg (fun h=>ne' i hi h.1)],rfl⟩
 ·obtain⟨t,e,_⟩:=D.take k;rw [oG k,vq k];refine⟨fun i hi=> ?_,fun i hi=> ?_⟩
  ·simp only [List.mem_singleton]at hi;exact⟨rfl,by show (bp s.aq w a.hand a.bf).getD i bA=_;rw [eQ i hh,if_neg (ne i hi)]⟩
  ·simp only [List.mem_singleton,e]at hi;show (s.aa.set a.bf.toNat _).getD i aR=_
   rw [iy,e,if_neg (fun h=>hi (by have:=h.1;omega))]
 ·obtain⟨t,e,_⟩:=D.held (by omega);rw [cC]at e;rw [mC k,gj (.inl k)];refine⟨fun i hi=> ?_,fun i hi=> ?_⟩
  ·simp only [List.mem_singleton]at hi;exact⟨rfl,by show (bp s.aq w a.hand (-1)).getD i bA=_;rw [eQ i hh,if_neg (ne i hi)]⟩
  ·simp only [List.mem_singleton,e]at hi;show (s.aa.set (aV s.aq w a.hand).toNat _).getD i aR=_
   rw [iy,e,if_neg (fun h=>hi (by have:=h.1;omega))]
 ·obtain⟨o,e,o2,o3,o4⟩:=D.pO k;rw [oH k,vr k];refine⟨fun i hi=> ?_,fun i hi=>rfl⟩;simp only [List.mem_cons,List.not_mem_nil,or_false,not_or]at hi;refine⟨rfl, ?_⟩;show (bp (bp s.aq a.other.toNat _ _) w a.hand (-1)).getD i bA=_
  have: ¬i=a.other.toNat:=fun h=>hi.2 (by rw [h,e];simp);rw [eQ i (by rw [jV];exact hh),if_neg (ne i hi.1),eQ i (by rw [e];simpa using o2),if_neg this]
 ·obtain⟨t,e,_⟩:=D.xE (.inl k);rw [cC]at e;rw [oI k,kJ (.inl k)];refine⟨fun i hi=>⟨rfl,rfl⟩,fun i hi=> ?_⟩;simp only [List.mem_cons,List.not_mem_nil,or_false,not_or,e]at hi;show (dw s.aa (aV s.aq w (1-a.hand)).toNat 1 true).getD i aR=_
  rw [gN,e,if_neg (fun h=>hi.2 (by rw [h.1];simp))]
 ·obtain⟨t,e,_⟩:=D.held (by omega);obtain⟨q,f,_⟩:=D.xE (.inr k);rw [cC]at e f;rw [oJ k,kJ (.inr k)];refine⟨fun i hi=>⟨rfl,rfl⟩,fun i hi=> ?_⟩;simp only [List.mem_cons,List.not_mem_nil,or_false,not_or,e,f]at hi;have h1: ¬i=t:=fun h=>hi.1 (by rw [h]);have h2: ¬i=q:=fun h=>hi.2 (by rw [h]);simp only [e,f,Int.toNat_natCast];rw [gN,if_neg (fun h=>h2 h.1),gN,if_neg (fun h=>h1 h.1),gN,if_neg (fun h=>h1 h.1)]
 ·obtain⟨t,e,_⟩:=D.held (by omega);rw [cC]at e;rw [oK k,gj (.inr (.inl k))];refine⟨fun i hi=>⟨rfl,rfl⟩,fun i hi=> ?_⟩;simp only [List.mem_singleton,e]at hi;have h1: ¬i=t:=fun h=>hi (by rw [h]);simp only [e,Int.toNat_natCast];rw [gN,if_neg (fun h=>h1 h.1)]
 ·obtain⟨t,e,_⟩:=D.held (by omega);rw [cC]at e;rw [oL k,gj (.inr (.inr k))];refine⟨fun i hi=>⟨rfl,rfl⟩,fun i hi=> ?_⟩;simp only [List.mem_singleton,e]at hi;have h1: ¬i=t:=fun h=>hi (by rw [h]);simp only [e,Int.toNat_natCast];rw [gN,if_neg (fun h=>h1 h.1)]
theorem cD {hs hs':List aG}{w:Nat}{hand:Int}(h:hs'.getD w bA=hs.getD w bA):aV hs' w hand=aV hs w hand:=by
 unfold aV;rw [h]
theorem rI {hs hs':List aG}{w:Nat}(h:hs'.getD w bA=hs.getD w bA):dR hs' w=dR hs w:=by
 unfold dR;rw [h]
theorem Fk {r:aA}{s s':aw}{w:Nat}{a:ak}(D:Fe s w a)(h:Ag s s' (b9 s w a).ah (b9 s w a).aa)(hw:w<r.ah.length):
  b9 s' w a=b9 s w a∧((a.kind=1→a.cell∉s'.ah)→b7 r s w a=true→b7 r s' w a=true)∧
  Ag (da s w a) (da s' w a) (b9 s w a).ah (b9 s w a).aa:=by
 have hwho:=D.aO;have hh:=D.hh;have hh':w<s'.aq.length:=(by rw [h.hl];exact hh);have wp:(w:Int)∈(b9 s w a).ah→s'.ah.getD w 0=s.ah.getD w 0∧s'.aq.getD w bA=s.aq.getD w bA:=fun x=>⟨h.pp w x,h.ph w x⟩;have L:=kC (s:=s) (w:=w) D.kind;have L':=kC (s:=s') (w:=w) D.kind;have e1:=L'.1.trans (h.pl.trans L.1.symm);have e2:=L'.2.1.trans (h.hl.trans L.2.1.symm);have e3:=L'.2.2.trans (h.tl.trans L.2.2.symm);rcases nd D.kind with k|k|k|k|k|k|k|k
 ·rw [oQ (s:=s) k]at wp h⊢;obtain⟨wp,wh⟩:=wp (by simp [hwho]);refine⟨by rw [oQ k,wp],fun hc hp=> ?_,⟨e1,e2,e3,fun i hi=> ?_,fun i hi=> ?_,fun i hi=> ?_⟩⟩
  ·rw [yW k]at hp⊢;rw [wp];simp only [Bool.and_eq_true]at hp⊢;exact⟨by simpa using hc k,hp.2⟩
  ·rw [lH k,lH k];show (s'.ah.set w a.cell).getD i 0=(s.ah.set w a.cell).getD i 0
   rw [iy,iy,h.pl,h.pp i hi]
  ·rw [lH k,lH k];exact h.ph i hi
  ·rw [lH k,lH k];exact h.tt i hi
 ·obtain⟨t,e,_⟩:=D.take k;rw [vq (s:=s) k]at wp h⊢;obtain⟨wp,wh⟩:=wp (by simp [hwho]);have ht:s'.aa.getD t aR=s.aa.getD t aR:=h.tt t (by simp [e]);refine⟨by rw [vq k],fun hc hp=> ?_,⟨e1,e2,e3,fun i hi=> ?_,fun i hi=> ?_,fun i hi=> ?_⟩⟩
  ·rw [Cy k,e,Int.toNat_natCast]at hp⊢;rw [wp,cD wh,ht];exact hp
  ·rw [oG k,oG k];exact h.pp i hi
  ·rw [oG k,oG k];show (bp s'.aq w a.hand a.bf).getD i bA=(bp s.aq w a.hand a.bf).getD i bA
   rw [eQ i hh',eQ i hh,wh,h.ph i hi]
  ·rw [oG k,oG k];show (s'.aa.set a.bf.toNat _).getD i aR=(s.aa.set a.bf.toNat _).getD i aR
   rw [iy,iy,h.tl,h.tt i hi,e,Int.toNat_natCast,ht]
 ·obtain⟨t,e,_⟩:=D.held (by omega);rw [cC]at e;rw [gj (s:=s) (.inl k)]at wp h⊢;obtain⟨wp,wh⟩:=wp (by simp [hwho]);have ht:s'.aa.getD t aR=s.aa.getD t aR:=h.tt t (by simp [e]);have e':aV s'.aq w a.hand=t:=(cD wh).trans e;refine⟨by rw [gj (.inl k),e,e'],fun hc hp=> ?_,⟨e1,e2,e3,fun i hi=> ?_,fun i hi=> ?_,fun i hi=> ?_⟩⟩
  ·rw [yX k]at hp⊢;rw [cD wh];exact hp
  ·rw [mC k,mC k];exact h.pp i hi
  ·rw [mC k,mC k];show (bp s'.aq w a.hand (-1)).getD i bA=(bp s.aq w a.hand (-1)).getD i bA
   rw [eQ i hh',eQ i hh,wh,h.ph i hi]
  ·rw [mC k,mC k];show (s'.aa.set (aV s'.aq w a.hand).toNat _).getD i aR=(s.aa.set (aV s.aq w a.hand).toNat _).getD i aR
   rw [iy,iy,h.tl,h.tt i hi,e,e',Int.toNat_natCast,ht,wp]
 ·obtain⟨o,e,o2,o3,o4⟩:=D.pO k;rw [vr (s:=s) k]at wp h⊢;obtain⟨wp,wh⟩:=wp (by simp [hwho]);have op:s'.ah.getD o 0=s.ah.getD o 0:=h.pp o (by simp [e]);have oh:s'.aq.getD o bA=s.aq.getD o bA:=h.ph o (by simp [e]);refine⟨by rw [vr k,cD wh],fun hc hp=> ?_,⟨e1,e2,e3,fun i hi=> ?_,fun i hi=> ?_,fun i hi=> ?_⟩⟩
  ·rw [yY k,e,Int.toNat_natCast]at hp⊢;rw [cD wh,wp,op,rI oh];exact hp
  ·rw [oH k,oH k];exact h.pp i hi
  ·rw [oH k,oH k];simp only [e,Int.toNat_natCast];have o2':o<s'.aq.length:=(by rw [h.hl];exact o2);have a1:w<(bp s'.aq o (dR s'.aq o) (aV s'.aq w a.hand)).length:=(by rw [jV];exact hh');have a2:w<(bp s.aq o (dR s.aq o) (aV s.aq w a.hand)).length:=(by rw [jV];exact hh);rw [eQ i a1,eQ i a2,eQ i o2',eQ i o2,eQ w o2',eQ w o2,wh,oh,rI oh,cD wh,h.ph i hi]
  ·rw [oH k,oH k];exact h.tt i hi
 ·obtain⟨t,e,_⟩:=D.xE (.inl k);rw [cC]at e;rw [kJ (s:=s) (.inl k)]at wp h⊢;obtain⟨wp,wh⟩:=wp (by simp [hwho]);have ht:s'.aa.getD t aR=s.aa.getD t aR:=h.tt t (by simp [e]);have e':aV s'.aq w (1-a.hand)=t:=(cD wh).trans e;refine⟨by rw [kJ (.inl k),cD wh,e',e],fun hc hp=> ?_,⟨e1,e2,e3,fun i hi=> ?_,fun i hi=> ?_,fun i hi=> ?_⟩⟩
  ·rw [yZ k]at hp⊢;rw [cD wh,cD wh];exact hp
  ·rw [oI k,oI k];exact h.pp i hi
  ·rw [oI k,oI k];exact h.ph i hi
  ·rw [oI k,oI k];simp only [e,e',Int.toNat_natCast];rw [gN,gN (ts:=s.aa),h.tl,nf h.tl ht,h.tt i hi]
 ·obtain⟨t,e,_⟩:=D.held (by omega);obtain⟨q,f,_⟩:=D.xE (.inr k);rw [cC]at e f;rw [kJ (s:=s) (.inr k)]at wp h⊢;obtain⟨wp,wh⟩:=wp (by simp [hwho]);have ht:s'.aa.getD t aR=s.aa.getD t aR:=h.tt t (by simp [e]);have hq:s'.aa.getD q aR=s.aa.getD q aR:=h.tt q (by simp [f]);have e':aV s'.aq w a.hand=t:=(cD wh).trans e;have f':aV s'.aq w (1-a.hand)=q:=(cD wh).trans f;refine⟨by rw [kJ (.inr k),e,e',f,f'],fun hc hp=> ?_,⟨e1,e2,e3,fun i hi=> ?_,fun i hi=> ?_,fun i hi=> ?_⟩⟩
  ·rw [vh k,e,f]at hp;rw [vh k,e',f',iX ht,iX ht,iX hq,iX hq];exact hp
  ·rw [oJ k,oJ k];exact h.pp i hi
  ·rw [oJ k,oJ k];exact h.ph i hi
  ·rw [oJ k,oJ k];simp only [e,e',f,f',Int.toNat_natCast];have one: ∀(us ts:List bC),us.length=ts.length→ ∀(p:Nat) (b:Int) (on:Bool) (j:Nat),us.getD p aR=ts.getD p aR→us.getD j aR=ts.getD j aR→(dw us p b on).getD j aR=(dw ts p b on).getD j aR:=fun us ts hl p b on j hp hj=>by
    rw [gN,gN (ts:=ts),hl,nf hl hp,hj]
   have l1:(dw s'.aa t 2 false).length=(dw s.aa t 2 false).length:=(by simp only [dJ,h.tl]);have l2:(dw (dw s'.aa t 2 false) t 1 false).length=(dw (dw s.aa t 2 false) t 1 false).length:=by simp only [dJ,h.tl]
   have all: ∀j,s'.aa.getD j aR=s.aa.getD j aR→(dw (dw s'.aa t 2 false) t 1 false).getD j aR=(dw (dw s.aa t 2 false) t 1 false).getD j aR:=fun j hj=>
    one _ _ l1 t 1 false j (one _ _ h.tl t 2 false t ht ht) (one _ _ h.tl t 2 false j ht hj)
   exact one _ _ l2 q 2 true i (all q hq) (all i (h.tt i hi))
 ·obtain⟨t,e,_⟩:=D.held (by omega);rw [cC]at e;rw [gj (s:=s) (.inr (.inl k))]at wp h⊢;obtain⟨wp,wh⟩:=wp (by simp [hwho]);have ht:s'.aa.getD t aR=s.aa.getD t aR:=h.tt t (by simp [e]);have e':aV s'.aq w a.hand=t:=(cD wh).trans e;refine⟨by rw [gj (.inr (.inl k)),e',e],fun hc hp=> ?_,⟨e1,e2,e3,fun i hi=> ?_,fun i hi=> ?_,fun i hi=> ?_⟩⟩
  ·rw [y6 k,e]at hp;rw [y6 k,e',iX ht];exact hp
  ·rw [oK k,oK k];exact h.pp i hi
  ·rw [oK k,oK k];exact h.ph i hi
  ·rw [oK k,oK k];simp only [e,e',Int.toNat_natCast];rw [gN,gN (ts:=s.aa),h.tl,nf h.tl ht,h.tt i hi]
 ·obtain⟨t,e,_⟩:=D.held (by omega);rw [cC]at e;rw [gj (s:=s) (.inr (.inr k))]at wp h⊢;obtain⟨wp,wh⟩:=wp (by simp [hwho]);have ht:s'.aa.getD t aR=s.aa.getD t aR:=h.tt t (by simp [e]);have e':aV s'.aq w a.hand=t:=(cD wh).trans e;refine⟨by rw [gj (.inr (.inr k)),e',e],fun hc hp=> ?_,⟨e1,e2,e3,fun i hi=> ?_,fun i hi=> ?_,fun i hi=> ?_⟩⟩
  ·rw [y7 k,e]at hp;rw [y7 k,e',iX ht];exact hp
  ·rw [oL k,oL k];exact h.pp i hi
  ·rw [oL k,oL k];exact h.ph i hi
  ·rw [oL k,oL k];simp only [e,e',Int.toNat_natCast];rw [gN,gN (ts:=s.aa),h.tl,nf h.tl ht,h.tt i hi]
section
theorem uU {s:aw}{w:Nat}{a:ak}(hk:1≤a.kind∧a.kind≤8)(h1:a.kind≠1):(da s w a).ah=s.ah:=by
 rcases nd hk with k|k|k|k|k|k|k|k
 ·exact absurd k h1
 ·rw [oG k]
 ·rw [mC k]
 ·rw [oH k]
 ·rw [oI k]
 ·rw [oJ k]
 ·rw [oK k]
 ·rw [oL k]
theorem ZL {s:aw}{v:Nat}{b:ak}{t:Touch}(D:Fe s v b)(h:JF t (b9 s v b)):Ag s (da s v b) t.ah t.aa:=by
 have L:=kC (s:=s) (w:=v) D.kind;have F:=Fj D;exact⟨L.1,L.2.1,L.2.2,fun i hi=>(F.1 i (h.ap _ hi)).1,fun i hi=>(F.1 i (h.ap _ hi)).2,fun i hi=>F.2 i (h.ba _ hi)⟩
section
variable {r:aA} {s:aw} {w v:Nat} {a b:ak}
theorem xI (hS:fT r s)(hA:AB r w a)(hB:AB r v b)(pa:b7 r s w a=true)(pb:b7 r s v b=true)(h:JF (b9 s w a) (b9 s v b)):
  b9 (da s w a) v b=b9 s v b∧b7 r (da s w a) v b=true∧Ag (da s v b) (da (da s w a) v b) (b9 s v b).ah (b9 s v b).aa:=by
 have DA:=oM hS hA pa;have DB:=oM hS hB pb;obtain⟨l1,l2,l3⟩:=Fk (r:=r) DB (ZL DA h.symm) hB.wl;refine⟨l1,l2 (fun k hin=> ?_) pb,l3⟩;rw [yW k]at pb;simp at pb;by_cases k1:a.kind=1
 ·rw [lH k1]at hin;rcases List.mem_or_eq_of_mem_set hin with x|x
  ·exact pb.1 x
  ·rw [oQ k1,oQ k]at h;exact h.ac a.cell (by simp) (by simp [x])
 ·rw [uU hA.kind k1]at hin;exact pb.1 hin
end
noncomputable def kY (s:aw)(g:List ak):aw:=g.foldl (fun s a=>da s a.aO.toNat a) s
theorem y8 (s:aw):kY s []=s:=rfl
theorem rJ (s:aw)(a:ak)(g:List ak):kY s (a::g)=kY (da s a.aO.toNat a) g:=rfl
theorem iY (s:aw)(g h:List ak):kY s (g++h)=kY (kY s g) h:=List.foldl_append ..
noncomputable def tch (s:aw)(a:ak):Touch:=b9 s a.aO.toNat a
structure qW (r:aA)(s:aw)(g:List ak):Prop where
 ab: ∀a∈g,AB r a.aO.toNat a∧b7 r s a.aO.toNat a=true
 ap:g.Pairwise fun a b=>JF (tch s a) (tch s b)
theorem qW.tail {r:aA}{s:aw}{a:ak}{g:List ak}(hS:fT r s)(h:qW r s (a::g)):fT r (da s a.aO.toNat a)∧qW r (da s a.aO.toNat a) g:=by
 obtain⟨hA,pa⟩:=h.ab a (List.mem_cons_self ..);have hp:=List.pairwise_cons.1 h.ap;have one:=fun b (hb:b∈g)=>xI hS hA (h.ab b (List.mem_cons_of_mem _ hb)).1 pa (h.ab b (List.mem_cons_of_mem _ hb)).2 (hp.1 b hb);refine⟨hS.TA hA pa,⟨fun b hb=>⟨(h.ab b (List.mem_cons_of_mem _ hb)).1,(one b hb).2.1⟩, ?_⟩⟩;refine hp.2.imp_of_mem fun {x y} hx hy q=> ?_;unfold tch at q⊢;rw [(one x hx).1,(one y hy).1];exact q
theorem qW.snd {r:aA}: ∀{g:List ak} {s:aw},fT r s→qW r s g→fT r (kY s g)
 | [],s,hS,_=>hS
 |a::g,s,hS,h=>by
  obtain⟨h1,h2⟩:=h.tail hS;show fT r (kY (da s a.aO.toNat a) g)
  exact qW.snd h1 h2
end
section
variable {c:Nat} {H:aj}
section
variable {r:aA} {s:aw} {w:Nat} {a:ak}
theorem y9 (hS:fT r s)(hW:WB r)(hA:AB r w a)(hH:0<H.length):
  aL KC (aE KC) 105 [.pure (.agg (aP r s)), .pure (.agg a.row)] c H=some (.pure (.bool (b7 r s w a)),H):=by
 refine eJ rfl rfl rfl rfl rfl hH fun H hH=> ?_;refine aM (aK KC au Tryz.func105 rfl rfl Lx (by simp) hH ?_);have W:=fun(k:Nat) (hk:1≤k∧k≤8) c (H:aj) (hH:0<H.length)=>CI (c:=c) (H:=H) hk hH;have W1:=W 1 (by omega);have W2:=W 2 (by omega);have W3:=W 3 (by omega);have W4:=W 4 (by omega);have W5:=W 5 (by omega);have W6:=W 6 (by omega);have W7:=W 7 (by omega);have W8:=W 8 (by omega);simp at W1 W2 W3 W4 W5 W6 W7 W8;rcases nd hA.kind with k|k|k|k|k|k|k|k
 ·have M:=fun c (H:aj) (hH:0<H.length)=>CA (c:=c) (H:=H) hS hW hA k hH;rw [bE,k]at M⊢;unfold aP at M⊢;simp [W1,M,ae]
 ·have M:=fun c (H:aj) (hH:0<H.length)=>CB (c:=c) (H:=H) hS hA k hH;rw [bE,k]at M⊢;unfold aP at M⊢;simp [W2,M,ae]
 ·have M:=fun c (H:aj) (hH:0<H.length)=>Fg (c:=c) (H:=H) hS hA k hH;rw [bE,k]at M⊢;unfold aP at M⊢;simp [W3,M,ae]
 ·have M:=fun c (H:aj) (hH:0<H.length)=>CC (c:=c) (H:=H) hS hW hA k hH;rw [bE,k]at M⊢;unfold aP at M⊢;simp [W4,M,ae]
 ·have M:=fun c (H:aj) (hH:0<H.length)=>CD (c:=c) (H:=H) hS hA k hH;rw [bE,k]at M⊢;unfold aP at M⊢;simp [W5,M,ae]
 ·have M:=fun c (H:aj) (hH:0<H.length)=>CG (c:=c) (H:=H) hS hA k hH;rw [bE,k]at M⊢;unfold aP at M⊢;simp [W6,M,ae]
 ·have M:=fun c (H:aj) (hH:0<H.length)=>AY (c:=c) (H:=H) hS hA k hH;rw [bE,k]at M⊢;unfold aP at M⊢;simp [W7,M,ae]
 ·have M:=fun c (H:aj) (hH:0<H.length)=>CH (c:=c) (H:=H) hS hA k hH;rw [bE,k]at M⊢;unfold aP at M⊢;simp [W8,M,ae]
def gn (s:aw)(w:Nat)(a:ak):List (Int×Int):=
 if a.kind=1 then [(0,a.aO),(2,s.ah.getD w 0),(2,a.cell)]
 else if a.kind=2 then [(0,a.aO),(1,a.bf)]
 else if a.kind=4 then [(0,a.aO),(0,a.other),(1,aV s.aq w a.hand)]
 else if a.kind=5∨a.kind=6 then [(0,a.aO),(1,aV s.aq w (1-a.hand)),(1,aV s.aq w a.hand)]
 else [(0,a.aO),(1,aV s.aq w a.hand)]
def dB (x:Int×Int):List PV:=[.int .i64 x.1, .int .i64 x.2]
theorem tz (hS:fT r s)(hA:AB r w a)(hH:0<H.length):
  aL KC (aE KC) 134 [.pure (.agg (aP r s)), .pure (.agg a.row)] c H=some (.pure (.slice ((gn s w a).map dB)),H):=by
 refine aM (bd KC au Tryz.func134 rfl rfl L4 rfl rfl rfl (by simp) hH ?_);have hwp:w<s.ah.length:=(by rw [hS.pl];exact hA.wl);have E:=fun c (H:aj) (hH:0<H.length)=>lS (c:=c) (H:=H) hS.toE9 hA hH;have G:=fun c (H:aj) (hH:0<H.length)=>sM (c:=c) (H:=H) hS.toE9 hA hH;have hnl: ¬H.length≤H.length-1:=(by omega);have hp:=aQ (d:=0) hwp;unfold gn;rcases nd hA.kind with k|k|k|k|k|k|k|k
 ·rw [bE,k]at E G⊢;unfold aP at E G⊢;simp [hA.aO]at E G;simp [hA.aO,hwp,aF,E,G,dB,hp,ae,hnl]
 ·rw [bE,k]at E G⊢;unfold aP at E G⊢;simp [hA.aO]at E G;simp [hA.aO,hwp,aF,E,G,dB,hp,ae,hnl]
 ·rw [bE,k]at E G⊢;unfold aP at E G⊢;simp [hA.aO]at E G;simp [hA.aO,hwp,aF,E,G,dB,hp,ae,hnl]
 ·rw [bE,k]at E G⊢;unfold aP at E G⊢;simp [hA.aO]at E G;simp [hA.aO,hwp,aF,E,G,dB,hp,ae,hnl]
 ·rw [bE,k]at E G⊢;unfold aP at E G⊢;simp [hA.aO]at E G;simp [hA.aO,hwp,aF,E,G,dB,hp,ae,hnl]
 ·rw [bE,k]at E G⊢;unfold aP at E G⊢;simp [hA.aO]at E G;simp [hA.aO,hwp,aF,E,G,dB,hp,ae,hnl]
 ·rw [bE,k]at E G⊢;unfold aP at E G⊢;simp [hA.aO]at E G;simp [hA.aO,hwp,aF,E,G,dB,hp,ae,hnl]
 ·rw [bE,k]at E G⊢;unfold aP at E G⊢;simp [hA.aO]at E G;simp [hA.aO,hwp,aF,E,G,dB,hp,ae,hnl]
theorem vu {s:aw}{w v:Nat}{a b:ak}:JF (b9 s w a) (b9 s v b)↔ ∀x∈gn s w a,x∉gn s v b:=by
 have mem: ∀(w:Nat) (a:ak) (x:Int×Int),x∈gn s w a↔(x.1=0∧x.2∈(b9 s w a).ah)∨(x.1=1∧x.2∈(b9 s w a).aa)∨(x.1=2∧x.2∈(b9 s w a).cells):=fun w a x=>by
  obtain⟨p,q⟩:=x;unfold gn;rw [dS];simp only [cC]
  repeat' split
  all_goals simp only [List.mem_cons,List.not_mem_nil,or_false,Prod.mk.injEq]
  all_goals grind
 constructor
 ·intro h x hx hy;rw [mem]at hx hy;rcases hx with ⟨e,hx⟩|⟨e,hx⟩|⟨e,hx⟩
  ·rcases hy with ⟨_,hy⟩|⟨e',hy⟩|⟨e',hy⟩
   ·exact h.ap _ hx hy
   ·omega
   ·omega
  ·rcases hy with ⟨e',hy⟩|⟨_,hy⟩|⟨e',hy⟩
   ·omega
   ·exact h.ba _ hx hy
   ·omega
  ·rcases hy with ⟨e',hy⟩|⟨e',hy⟩|⟨_,hy⟩
   ·omega
   ·omega
   ·exact h.ac _ hx hy
 ·intro h;refine⟨fun x h1 h2=>h (0,x) ((mem _ _ _).2 (.inl ⟨rfl,h1⟩)) ((mem _ _ _).2 (.inl ⟨rfl,h2⟩)),fun x h1 h2=>h (1,x) ((mem _ _ _).2 (.inr (.inl ⟨rfl,h1⟩))) ((mem _ _ _).2 (.inr (.inl ⟨rfl,h2⟩))),fun x h1 h2=>h (2,x) ((mem _ _ _).2 (.inr (.inr ⟨rfl,h1⟩))) ((mem _ _ _).2 (.inr (.inr ⟨rfl,h2⟩)))⟩
end
end
section
variable {c:Nat} {H:aj}
theorem MZ: ∀q:Fin 16,∀b∈[(1:Int),2,4],Af .i64 ((q.1:Nat):Int) b=if ((IntKind.i64.wrap (((q.1:Nat):Int).tdiv b)).tmod 2==1)then ((q.1:Nat):Int)else IntKind.i64.wrap (((q.1:Nat):Int)+b):=by decide+kernel
theorem Fl: ∀q:Fin 16,∀b∈[(1:Int),2,4],lR ((q.1:Nat):Int) b=if ((IntKind.i64.wrap (((q.1:Nat):Int).tdiv b)).tmod 2==1)then IntKind.i64.wrap (((q.1:Nat):Int)-b)else ((q.1:Nat):Int):=by decide+kernel
theorem TX: ∀q:Fin 16,lR ((q.1:Nat):Int) 3=lR (lR ((q.1:Nat):Int) 2) 1∧0≤lR ((q.1:Nat):Int) 2∧lR ((q.1:Nat):Int) 2<16:=by decide+kernel
section
variable {ts:List bC} {t:Nat} {b:Int}
theorem zb (ht:t<ts.length)(hs:0≤(ts.getD t aR).state∧(ts.getD t aR).state<16)(hb:b=1∨b=2∨b=4):
  dw ts t b true=ts.set t ⟨(ts.getD t aR).cell,Af .i64 (ts.getD t aR).state b⟩:=by
 obtain⟨q,hq⟩:=Int.eq_ofNat_of_zero_le hs.1;have B:=MZ ⟨q,by omega⟩ b (by simp;exact hb);simp only [←hq]at B;have h0:decide ((0:Int)≤t)=true:=(by simp);rw [jq,iJ,h0,Bool.true_and];simp only [Int.toNat_natCast];rw [B];by_cases h:((IntKind.i64.wrap ((ts.getD t aR).state.tdiv b)).tmod 2==1)=true
 ·rw [if_pos h,if_pos h];exact(vg ts t aR).symm
 ·rw [if_neg h,if_neg h];simp
theorem vw (ht:t<ts.length)(hs:0≤(ts.getD t aR).state∧(ts.getD t aR).state<16)(hb:b=1∨b=2∨b=4):
  dw ts t b false=ts.set t ⟨(ts.getD t aR).cell,lR (ts.getD t aR).state b⟩:=by
 obtain⟨q,hq⟩:=Int.eq_ofNat_of_zero_le hs.1;have B:=Fl ⟨q,by omega⟩ b (by simp;exact hb);simp only [←hq]at B;have h0:decide ((0:Int)≤t)=true:=(by simp);rw [jq,iJ,h0,Bool.true_and];simp only [Int.toNat_natCast];rw [B];split
 ·rename_i h;have h': ¬((IntKind.i64.wrap ((ts.getD t aR).state.tdiv b)).tmod 2==1)=true:=(by rw [h];simp);rw [if_neg h'];exact(vg ts t aR).symm
 ·rename_i h;have h':((IntKind.i64.wrap ((ts.getD t aR).state.tdiv b)).tmod 2==1)=true:=(by simpa using h);rw [if_pos h'];rfl
theorem Fm (ht:t<ts.length)(hs:0≤(ts.getD t aR).state∧(ts.getD t aR).state<16):
  dw (dw ts t 2 false) t 1 false=ts.set t ⟨(ts.getD t aR).cell,lR (ts.getD t aR).state 3⟩:=by
 obtain⟨q,hq⟩:=Int.eq_ofNat_of_zero_le hs.1;obtain⟨b1,b2,b3⟩:=TX ⟨q,by omega⟩;simp only [←hq]at b1 b2 b3;rw [vw ht hs (.inr (.inl rfl))];have e:(ts.set t ⟨(ts.getD t aR).cell,lR (ts.getD t aR).state 2⟩).getD t aR=⟨(ts.getD t aR).cell,lR (ts.getD t aR).state 2⟩:=(by rw [tw ht,if_pos rfl]);rw [vw (by simpa using ht) (by rw [e];exact⟨b2,b3⟩) (.inl rfl),e,b1];simp
end
def tB (r:aA)(n1 n2 n3:Nm)(s:aw):GV:= .agg [.pure (.int .i64 r.wide), .pure (.int .i64 r.deep), .pure (.slice (r.ah.map aS.row)), .pure (.slice (r.aa.map aZ.row)), .pure (.slice (r.seen.map aF)), .pure (.slice (r.aX.map aF)), .pure (.slice (r.ai.map ak.row)), .bc n1 1 s.ah.length 0 s.ah.length, .bc n2 2 s.aq.length 0 s.aq.length, .bc n3 2 s.aa.length 0 s.aa.length]
section
variable {r:aA} {s:aw} {w:Nat} {a:ak} {n1 n2 n3:Nm} {v1 v2 v3:Nat}
theorem CJ (h:mD H n1 n2 n3 v1 v2 v3 s):pM H (tB r n1 n2 n3 s) (.agg (aP r s)):=by
 unfold tB aP;rw [uC];simp only [rE,uB,rC,and_true,true_and];exact⟨⟨_,v1,false,h.g1,h.e1,by simp,rfl,rfl,rfl⟩,⟨_,v2,false,h.g2,h.e2,by simp,rfl,rfl,rfl⟩,⟨_,v3,false,h.g3,h.e3,by simp,rfl,rfl,rfl⟩⟩
theorem H6 (h:mD H n1 n2 n3 v1 v2 v3 s)(hw:w<s.aq.length)(h1:a.aO=w)(h2:a.hand=0∨a.hand=1)(hH:0<H.length):
  aL KC (aE KC) 154 [tB r n1 n2 n3 s, .pure (.agg a.row)] c H=some (.pure (.int .i64 (aV s.aq w a.hand)),H):=
 gX KC rfl rfl (MH (CJ h) (show pM H (.pure (.agg a.row)) (.agg a.row)from rfl)) rfl hH (fun H hH=>AU (c:=c) hw h1 h2 hH) rfl
theorem vy (h:mD H n1 n2 n3 v1 v2 v3 s)(hw:w<s.aq.length)(h1:a.aO=w)(h2:a.hand=0∨a.hand=1)(hH:0<H.length):
  aL KC (aE KC) 153 [tB r n1 n2 n3 s, .pure (.agg a.row)] c H=some (.pure (.int .i64 (aV s.aq w (1-a.hand))),H):=
 gX KC rfl rfl (MH (CJ h) (show pM H (.pure (.agg a.row)) (.agg a.row)from rfl)) rfl hH (fun H hH=>vl (c:=c) hw h1 h2 hH) rfl
theorem H7 (h:mD H n1 n2 n3 v1 v2 v3 s){o:Nat}(ho:o<s.aq.length)(hH:0<H.length):
  aL KC (aE KC) 156 [tB r n1 n2 n3 s, .pure (.int .i64 o)] c H=some (.pure (.int .i64 (dR s.aq o)),H):=
 gX KC rfl rfl (MH (CJ h) (show pM H (.pure (.int .i64 o)) (.int .i64 o)from rfl)) rfl hH (fun H hH=>AX (c:=c) ho hH) rfl
def M1 (H:aj)(f:Nat)(r:aA)(n1 n2 n3:Nm)(s:aw)(w:Nat)(a:ak)(c:Nat):Prop:=
 ∃v1' v2' v3',v1'≤s.ah.length∧v2'≤s.aq.length∧v3'≤s.aa.length∧
  aL KC (aE KC) f [tB r n1 n2 n3 s, .pure (.agg a.row)] c H=some (.pure (.tuple []),cA H n1 n2 n3 v1' v2' v3' (da s w a))
theorem TY (h:mc H n1 n2 n3 v1 v2 v3 s)(hb:Fe s w a)(hst: ∀t:Nat,t<s.aa.length→0≤(s.aa.getD t aR).state∧(s.aa.getD t aR).state<16)(hH:0<H.length):
  (a.kind=1→M1 H 136 r n1 n2 n3 s w a c)∧(a.kind=2→M1 H 138 r n1 n2 n3 s w a c)∧(a.kind=3→M1 H 140 r n1 n2 n3 s w a c)∧(a.kind=4→M1 H 142 r n1 n2 n3 s w a c)∧
  (a.kind=5→M1 H 144 r n1 n2 n3 s w a c)∧(a.kind=6→M1 H 146 r n1 n2 n3 s w a c)∧(a.kind=7→M1 H 148 r n1 n2 n3 s w a c)∧(a.kind=8→M1 H 150 r n1 n2 n3 s w a c):=by
 have l1:=aj.bR h.g1;have l2:=aj.bR h.g2;have l3:=aj.bR h.g3;have d1: ¬n1.1=H.length:=(by omega);have d2: ¬n2.1=H.length:=(by omega);have d3: ¬n3.1=H.length:=(by omega);have hp:=hb.hp;have hh:=hb.hh;have hwho:=hb.aO;have hg:s.aq.getD w bA=s.aq[w]:=aQ hh;have hgp:s.ah.getD w 0=s.ah[w]:=aQ hp;have G23: ∀b,(H.set n2 b).get n3=H.get n3:=fun b=>aj.aH b h.lM.symm;have G32: ∀b,(H.set n3 b).get n2=H.get n2:=fun b=>aj.aH b h.lM;have C32: ∀x y,(H.set n3 x).set n2 y=(H.set n2 y).set n3 x:=fun x y=>aj.set_comm h.lM.symm;have G31: ∀b,(H.set n3 b).get n1=H.get n1:=fun b=>aj.aH b h.m9;have S2: ∀x,(H.set n1 x).set n2 (.arr 2 (s.aq.map aG.row) v2 false)=H.set n1 x:=fun x=>(by rw [aj.set_comm h.nV,h.s2]);have S3: ∀x,(H.set n1 x).set n3 (.arr 2 (s.aa.map bC.row) v3 false)=H.set n1 x:=fun x=>(by rw [aj.set_comm h.m9,h.s3]);have S4: ∀x,(H.set n2 x).set n3 (.arr 2 (s.aa.map bC.row) v3 false)=H.set n2 x:=fun x=>(by rw [aj.set_comm h.lM,h.s3]);have s1:=h.s1;have s2:=h.s2;have s3:=h.s3;have G22: ∀b,(H.set n2 b).get n2=some b:=fun b=>aj.gV l2;have G33: ∀b,(H.set n3 b).get n3=some b:=fun b=>aj.gV l3;have E:=fun c (f:Fr)=>H6 (r:=r) (c:=c) (a:=a) (mD.up (fr:=f) h.tomD) hh hwho hb.hand (by simp);have G:=fun c (f:Fr)=>vy (r:=r) (c:=c) (a:=a) (mD.up (fr:=f) h.tomD) hh hwho hb.hand (by simp);have heq:aV s.aq w 0=s.aq[w].l∧aV s.aq w 1=s.aq[w].r:=(by unfold aV;rw [hg];simp);refine⟨fun k=> ?_,fun k=> ?_,fun k=> ?_,fun k=> ?_,fun k=> ?_,fun k=> ?_,fun k=> ?_,fun k=> ?_⟩
 ·have hd:=lH (s:=s) (w:=w) k;refine⟨s.ah.length,v2,v3,Nat.le_refl _,h.e2,h.e3,aM (bh KC au Tryz.func136 rfl rfl D8 rfl rfl rfl (by simp) hH ?_)⟩;rw [bE];unfold tB;simp [d1,d2,d3,h.g1,h.g2,h.g3,h.e1,h.e2,h.e3,hp,hh,hwho,aF,aD,ae,hd,cA,S2,S3]
 ·obtain⟨t,et,ht⟩:=hb.take k;have hd:=oG (s:=s) (w:=w) k;have hgt:=aQ (d:=aR) ht;rw [et,Int.toNat_natCast,hgt]at hd;simp only [bp,hg]at hd;refine⟨v1,s.aq.length,s.aa.length,h.e1,Nat.le_refl _,Nat.le_refl _,aM (bh KC au Tryz.func138 rfl rfl L7 rfl rfl rfl (by simp) hH ?_)⟩;rw [bE];unfold tB;rcases hb.hand with z|z
  ·rw [z]at hd;simp at hd;simp [d1,d2,d3,h.g1,h.g2,h.g3,h.e1,h.e2,h.e3,hp,hh,hwho,et,z,ht,aG.row,bC.row,aD,ae,hd,cA,G23,s1]
  ·rw [z]at hd;simp at hd;simp [d1,d2,d3,h.g1,h.g2,h.g3,h.e1,h.e2,h.e3,hp,hh,hwho,et,z,ht,aG.row,bC.row,aD,ae,hd,cA,G23,s1]
 ·obtain⟨t,et,ht⟩:=hb.held (by omega);rw [cC]at et;have hd:=mC (s:=s) (w:=w) k;have hgt:=aQ (d:=aR) ht;rw [et,Int.toNat_natCast,hgt,hgp]at hd;simp only [bp,hg]at hd;refine⟨v1,s.aq.length,s.aa.length,h.e1,Nat.le_refl _,Nat.le_refl _,aM (bh KC au Tryz.func140 rfl rfl L9 rfl rfl rfl (by simp) hH ?_)⟩;rw [et,bE]at E;rw [bE];unfold tB at E⊢;simp [hwho]at E;rcases hb.hand with z|z
  ·rw [z]at hd E;simp at hd;simp [d1,d2,d3,h.g1,h.g2,h.g3,h.e1,h.e2,h.e3,hp,hh,hwho,E,z,ht,aF,aG.row,bC.row,aD,ae,hd,cA,G32,C32,s1]
  ·rw [z]at hd E;simp at hd;simp [d1,d2,d3,h.g1,h.g2,h.g3,h.e1,h.e2,h.e3,hp,hh,hwho,E,z,ht,aF,aG.row,bC.row,aD,ae,hd,cA,G32,C32,s1]
 ·obtain⟨t,et,ht⟩:=hb.held (by omega);rw [cC]at et;obtain⟨o,eo,ho,how,htk⟩:=hb.pO k;have hgo:=aQ (d:=bA) ho;have hsw: ∀x,(s.aq.set o x).getD w bA=s.aq[w]:=fun x=>(by rw [tw hh,if_neg how,hg]);have hd:=oH (s:=s) (w:=w) k;rw [et,eo,Int.toNat_natCast]at hd;have T:=fun c (f:Fr)=>H7 (r:=r) (c:=c) (mD.up (fr:=f) h.tomD) ho (by simp);rw [et,bE]at E;unfold tB at E T;simp [hwho,eo]at E;simp only [bp,hgo,hsw]at hd;rcases htk with y|y
  ·rw [y]at hd T;refine⟨v1,s.aq.length,v3,h.e1,Nat.le_refl _,h.e3,aM (bh KC au Tryz.func142 rfl rfl D9 rfl rfl rfl (by simp) hH ?_)⟩;rw [bE];unfold tB;rcases hb.hand with z|z
   ·rw [z]at hd E;simp at hd;simp [d1,d2,d3,h.g1,h.g2,h.g3,h.e1,h.e2,h.e3,hp,hh,hwho,eo,E,T,z,ht,ho,aF,aG.row,bC.row,aD,ae,hd,cA,G22,G23,s1,S4,how,List.getElem_set_ne]
   ·rw [z]at hd E;simp at hd;simp [d1,d2,d3,h.g1,h.g2,h.g3,h.e1,h.e2,h.e3,hp,hh,hwho,eo,E,T,z,ht,ho,aF,aG.row,bC.row,aD,ae,hd,cA,G22,G23,s1,S4,how,List.getElem_set_ne]
  ·rw [y]at hd T;refine⟨v1,s.aq.length,v3,h.e1,Nat.le_refl _,h.e3,aM (bh KC au Tryz.func142 rfl rfl D9 rfl rfl rfl (by simp) hH ?_)⟩;rw [bE];unfold tB;rcases hb.hand with z|z
   ·rw [z]at hd E;simp at hd;simp [d1,d2,d3,h.g1,h.g2,h.g3,h.e1,h.e2,h.e3,hp,hh,hwho,eo,E,T,z,ht,ho,aF,aG.row,bC.row,aD,ae,hd,cA,G22,G23,s1,S4,how,List.getElem_set_ne]
   ·rw [z]at hd E;simp at hd;simp [d1,d2,d3,h.g1,h.g2,h.g3,h.e1,h.e2,h.e3,hp,hh,hwho,eo,E,T,z,ht,ho,aF,aG.row,bC.row,aD,ae,hd,cA,G22,G23,s1,S4,how,List.getElem_set_ne]
 ·obtain⟨u,eu,hu⟩:=hb.xE (.inl k);rw [cC]at eu;have hd:=oI (s:=s) (w:=w) k;have hgt:=aQ (d:=aR) hu;rw [eu,Int.toNat_natCast,zb hu (hst u hu) (.inl rfl),hgt]at hd;rw [eu,bE]at G;unfold tB at G;refine⟨v1,v2,s.aa.length,h.e1,h.e2,Nat.le_refl _,aM (bh KC au Tryz.func144 rfl rfl Mc rfl rfl rfl (by simp) hH ?_)⟩;rw [bE];unfold tB;simp [d1,d2,d3,h.g1,h.g2,h.g3,h.e1,h.e2,h.e3,hp,hh,G,hu,bC.row,aD,ae,hd,cA,s1,s2]
 ·obtain⟨t,et,ht⟩:=hb.held (by omega);rw [cC]at et;obtain⟨u,eu,hu⟩:=hb.xE (.inr k);rw [cC]at eu;have hd:=oJ (s:=s) (w:=w) k;have hgt:=aQ (d:=aR) ht;have hst2:=hst;have S:=qn (t:=t) (bit:=2) (on:=false) hst ht (.inr (.inl rfl));have S':=qn (ts:=dw s.aa t 2 false) (t:=t) (bit:=1) (on:=false) (fun j hj=>(S.2 j (by rw [S.1]at hj;exact hj)).2) (by rw [S.1];exact ht) (.inl rfl);rw [et,eu,Int.toNat_natCast,Int.toNat_natCast,zb (by rw [S'.1,S.1];exact hu) (S'.2 u (by rw [S.1];exact hu)).2 (.inr (.inl rfl)),Fm ht (hst t ht),hgt]at hd;rw [et,bE]at E;unfold tB at E;obtain⟨X,hX⟩: ∃X,s.aa.set t ⟨s.aa[t].cell,lR s.aa[t].state 3⟩=X:=⟨_,rfl⟩;have hXl:X.length=s.aa.length:=(by rw [←hX];simp);have huX:u<X.length:=(by omega);rw [hX,aQ huX]at hd;have hXr:(s.aa.map bC.row).set t [.int .i64 s.aa[t].cell, .int .i64 (lR s.aa[t].state 3)]=X.map bC.row:=by
   rw [←hX,List.map_set];rfl
  have SX:mD (H.set n3 (.arr 2 (X.map bC.row) s.aa.length false)) n1 n2 n3 v1 v2 s.aa.length {s with aa:=X}:=
   ⟨h.nV,h.m9,h.lM,(G31 _).trans h.g1,(G32 _).trans h.g2,G33 _,h.e1,h.e2,by show s.aa.length≤X.length;omega⟩
  have G':=fun c (f:Fr)=>vy (r:=r) (c:=c) (a:=a) (mD.up (fr:=f) SX) hh hwho hb.hand (by simp);simp only [eu]at G';rw [bE]at G';unfold tB at G';simp only [hXl]at G';refine⟨v1,v2,s.aa.length,h.e1,h.e2,Nat.le_refl _,aM (bh KC au Tryz.func146 rfl rfl Me rfl rfl rfl (by simp) hH ?_)⟩;rw [bE];unfold tB;simp [d1,d2,d3,h.g1,h.g2,h.g3,h.e1,h.e2,h.e3,hp,hh,E,ht,hXr,G',G33,hu,huX,hXl,bC.row,aD,ae,hd,cA,s1,s2]
 ·obtain⟨t,et,ht⟩:=hb.held (by omega);rw [cC]at et;have hd:=oK (s:=s) (w:=w) k;have hgt:=aQ (d:=aR) ht;rw [et,Int.toNat_natCast,zb ht (hst t ht) (.inr (.inr rfl)),hgt]at hd;rw [et,bE]at E;unfold tB at E;refine⟨v1,v2,s.aa.length,h.e1,h.e2,Nat.le_refl _,aM (bh KC au Tryz.func148 rfl rfl Mg rfl rfl rfl (by simp) hH ?_)⟩;rw [bE];unfold tB;simp [d1,d2,d3,h.g1,h.g2,h.g3,h.e1,h.e2,h.e3,hp,hh,E,ht,bC.row,aD,ae,hd,cA,s1,s2]
 ·obtain⟨t,et,ht⟩:=hb.held (by omega);rw [cC]at et;have hd:=oL (s:=s) (w:=w) k;have hgt:=aQ (d:=aR) ht;rw [et,Int.toNat_natCast,vw ht (hst t ht) (.inr (.inr rfl)),hgt]at hd;rw [et,bE]at E;unfold tB at E;refine⟨v1,v2,s.aa.length,h.e1,h.e2,Nat.le_refl _,aM (bh KC au Tryz.func150 rfl rfl Mi rfl rfl rfl (by simp) hH ?_)⟩;rw [bE];unfold tB;simp [d1,d2,d3,h.g1,h.g2,h.g3,h.e1,h.e2,h.e3,hp,hh,E,ht,bC.row,aD,ae,hd,cA,s1,s2]
end
end
def Fr.jr (f:Fr):Prop:=(f.map (·.1)).Pairwise (· < ·)
theorem Fr.pC {q : Nat} {b : dE} {x : Nat × dE} : ∀ {f : Fr}, f.jr → x ∈ f.ins q b → x = (q, b) ∨ (x ∈ f ∧ x.1 ≠ q)
  | [], _, h => by simp at h; exact .inl h
  | (k, c) :: r, hs, h => by
    unfold Fr.jr at hs
    rw [List.map_cons, List.pairwise_cons] at hs
    simp only [Fr.rK] at h
    have hlt : ∀ y ∈ r, k < y.1 := fun y hy => hs.1 y.1 (List.mem_map_of_mem hy)
    split at h
    · rename_i e; subst e
      rcases List.mem_cons.1 h with h | h
      · exact .inl h
      · exact .inr ⟨List.mem_cons_of_mem _ h, fun e => by have := hlt x h; omega⟩
    · rename_i ne
      split at h
      · rename_i lt
        rcases List.mem_cons.1 h with h | h
        · exact .inl h
        · refine .inr ⟨h, fun e => ?_⟩
          rcases List.mem_cons.1 h with h | h
          · subst h; exact ne e.symm
          · have := hlt x h; omega
      · rcases List.mem_cons.1 h with h | h
        · subst h; exact .inr ⟨List.mem_cons_self .., fun e => ne e.symm⟩
        · rcases Fr.pC (f := r) hs.2 h with h | h
          · exact .inl h
          · exact .inr ⟨List.mem_cons_of_mem _ h.1, h.2⟩
theorem Fr.A0 {q : Nat} {b : dE} : ∀ {f : Fr} {k : Nat}, k ∈ (f.ins q b).map (·.1) → k = q ∨ k ∈ f.map (·.1)
  | [], k, h => by simp at h; exact .inl h
  | (k0, c) :: r, k, h => by
    simp only [Fr.rK] at h
    split at h
    · rename_i e; subst e
      simp only [List.map_cons, List.mem_cons] at h ⊢
      exact .inr h
    · split at h
      · simp only [List.map_cons, List.mem_cons] at h ⊢
        exact h
      · simp only [List.map_cons, List.mem_cons] at h ⊢
        rcases h with h | h
        · exact .inr (.inl h)
        · rcases Fr.A0 h with h | h
          · exact .inl h
          · exact .inr (.inr h)
theorem Fr.dZ {q : Nat} {b : dE} : ∀ {f : Fr}, f.jr → (f.ins q b).jr
  | [], _ => by simp [Fr.jr]
  | (k, c) :: r, hs => by
    unfold Fr.jr at hs ⊢
    rw [List.map_cons, List.pairwise_cons] at hs
    simp only [Fr.rK]
    split
    · rename_i e; subst e
      rw [List.map_cons, List.pairwise_cons]; exact hs
    · rename_i ne
      split
      · rename_i lt
        rw [List.map_cons, List.pairwise_cons, List.map_cons, List.pairwise_cons]
        refine ⟨fun y hy => ?_, hs⟩
        rcases List.mem_cons.1 hy with h | h
        · subst h; exact lt
        · have := hs.1 y h; simp only at *; omega
      · rw [List.map_cons, List.pairwise_cons]
        refine ⟨fun y hy => ?_, Fr.dZ (f := r) hs.2⟩
        rcases Fr.A0 hy with h | h
        · subst h; simp only at *; omega
        · exact hs.1 y h
theorem Fr.get_mem {q : Nat} {b : dE} : ∀ {f : Fr}, f.get q = some b → (q, b) ∈ f
  | [], h => by simp at h
  | (k, c) :: r, h => by
    simp only [Fr.cO] at h
    split at h
    · rename_i e; subst e; cases h; exact List.mem_cons_self ..
    · exact List.mem_cons_of_mem _ (Fr.get_mem h)
theorem Fr.Em {q : Nat} {b : dE} : ∀ {f : Fr}, f.jr → (q, b) ∈ f → f.get q = some b
  | [], _, h => by simp at h
  | (k, c) :: r, hs, h => by
    unfold Fr.jr at hs
    rw [List.map_cons, List.pairwise_cons] at hs
    simp only [Fr.cO]
    rcases List.mem_cons.1 h with h | h
    · cases h; simp
    · have := hs.1 q (List.mem_map_of_mem (f := (·.1)) h)
      rw [if_neg (by simp only at this; omega)]
      exact Fr.Em hs.2 h
theorem Fr.zc {q : Nat} : ∀ {f : Fr}, (f.del q).Sublist f
  | [] => .slnil
  | (k, c) :: r => by
    unfold Fr.del
    split
    · exact Fr.zc.cons _
    · exact Fr.zc.cons_cons _
theorem qo: ∀{l:List Nat} {f:Fr},(fO l f).Sublist f
 | [],f=>List.Sublist.refl f
 |q::l,f=>(qo (l:=l)).trans Fr.zc
theorem CK {l:List Nat}{f:Fr}(h:f.jr):(fO l f).jr:=h.sublist ((qo (l:=l) (f:=f)).map _)
theorem ng {p:Nat}: ∀{l:List Nat} {f:Fr},(fO l f).get p=if p∈l then none else f.get p
 | [],f=>by simp [fO]
 |q::l,f=>by
  unfold fO;rw [ng,Fr.uD];by_cases h1:p∈l
  ·simp [h1]
  ·by_cases h2:p=q
   ·simp [h1,h2]
   ·simp [h1,h2]
theorem qp {nm:Nm}: ∀{f:Fr},iE nm f=true↔ ∀x∈f,gq nm x.2=true
 | []=>by simp [iE]
 |x::r=>by simp [iE,qp (f:=r)]
theorem js {L:Nat}{s:a7}{fr:Fr}{p:Nat}: ∀{g:Fr},p∈gC L s fr g↔(∃b,(p,b)∈g)∧gv p=true∧ju (L,p) s=true∧iE (L,p) fr=true
 | []=>by simp [gC]
 |x::r=>by
  obtain⟨k,b⟩:=x;simp only [gC];by_cases h:(gv k && ju (L,k) s && iE (L,k) fr)=true
  ·rw [if_pos h,List.mem_cons,js];simp only [Bool.and_eq_true]at h;constructor
   ·rintro(rfl|⟨⟨b',hb⟩,h2⟩)
    ·exact⟨⟨b,List.mem_cons_self ..⟩,h.1.1,h.1.2,h.2⟩
    ·exact⟨⟨b',List.mem_cons_of_mem _ hb⟩,h2⟩
   ·rintro⟨⟨b',hb⟩,h2⟩;rcases List.mem_cons.1 hb with e|e
    ·cases e;exact .inl rfl
    ·exact .inr ⟨⟨b',e⟩,h2⟩
  ·rw [if_neg h,js];constructor
   ·rintro⟨⟨b',hb⟩,h2⟩;exact⟨⟨b',List.mem_cons_of_mem _ hb⟩,h2⟩
   ·rintro⟨⟨b',hb⟩,h2⟩;rcases List.mem_cons.1 hb with e|e
    ·cases e;exact absurd (by simp [h2]) h
    ·exact⟨⟨b',e⟩,h2⟩
theorem TZ {s:a7}{F:Fr}{H:aj}{nt:Nat}(hH:0<H.length): ∃F',qq ⟨s,F::H,nt⟩=some ⟨s,F'::H,nt⟩∧(F.jr→F'.jr)∧(∀x∈F',x∈F)∧
  (∀k,gv k=false→F'.get k=F.get k)∧(∀k x,x∈F→gq (H.length,k) x.2=false→F'.get k=F.get k)∧
  (∀k,gv k=true→ju (H.length,k) s=true→(∀x∈F,gq (H.length,k) x.2=true)→F'.get k=none):=by
 refine⟨fO (gC H.length s F F) F, ?_,CK,fun x hx=>qo.subset hx,fun k hk=> ?_,fun k x hx hr=> ?_,fun k hk hs hr=> ?_⟩
 ·unfold qq;simp only;rw [if_neg (by omega)]
 ·rw [ng,if_neg];rw [js];rintro⟨_,h,_⟩;rw [hk]at h;cases h
 ·rw [ng,if_neg];rw [js];rintro⟨_,_,_,h⟩;rw [qp]at h;rw [h x hx]at hr;cases hr
 ·rw [ng];by_cases h:k∈gC H.length s F F
  ·rw [if_pos h]
  ·rw [if_neg h]
   cases hg:F.get k with
   |none=>rfl
   |some b=>exact absurd (js.2 ⟨⟨b,Fr.get_mem hg⟩,hk,hs,qp.2 hr⟩) h
def fo:Nat→Nat|0=>90139|1=>1000000024631|_=>2000000024631
def cZ:Nat→Nat|0=>110619|1=>1000000041015|_=>2000000041015
def eV:Nat→Nat|0=>217115|1=>1000000057399|_=>2000000057399
def kq:Nat→Nat|1=>2|_=>1
def gD (L:Nat)(r0:aA)(ai:List ak):dE:= .box [.pure (.int .i64 r0.wide), .pure (.int .i64 r0.deep), .bc (L,188441) 2 r0.ah.length 0 r0.ah.length, .bc (L,339993) 5 r0.aa.length 0 r0.aa.length, .aW,cY (L,393241) 1 (r0.aX.map aF),cY (L,62) 9 (ai.map ak.row)]
def dK (L q:Nat)(s:aw):dE:= .box [.bc (L,fo q) 1 s.ah.length 0 s.ah.length, .bc (L,cZ q) 2 s.aq.length 0 s.aq.length, .bc (L,eV q) 2 s.aa.length 0 s.aa.length]
structure SF (F:Fr)(k1 k2 k3:Nat)(s:aw):Prop where
 h1: ∃v,v≤s.ah.length∧F.get k1=some (.arr 1 (s.ah.map aF) v false)
 h2: ∃v,v≤s.aq.length∧F.get k2=some (.arr 2 (s.aq.map aG.row) v false)
 h3: ∃v,v≤s.aa.length∧F.get k3=some (.arr 2 (s.aa.map bC.row) v false)
structure FB (L:Nat)(F:Fr)(r0:aA)(ai:List ak)(sb:dE):Prop where
 jr:F.jr
 g6:F.get 6=some iI
 g7:F.get 7=some (gD L r0 ai)
 g8:F.get 8=some sb
 gp:F.get 188441=some (.arr 2 (r0.ah.map aS.row) 0 false)
 gt:F.get 339993=some (.arr 5 (r0.aa.map aZ.row) 0 false)
 gl:r0.aX≠[]→F.get 393241=some (.arr 1 (r0.aX.map aF) 0 false)
 M3:ai=[]→F.get 62=none
 ga:ai≠[]→F.get 62=some (.arr 9 (ai.map ak.row) 0 false)
 ref: ∀x∈F,x.1≠8→ ∀k,gv k=true→gq (L,k) x.2=true
structure FI (L:Nat)(F:Fr)(r0:aA)(ai:List ak)(s:aw)(q:Nat):Prop extends FB L F r0 ai (dK L q s) where
 sc:SF F (fo q) (cZ q) (eV q) s
 CM: ∀k,gv k=true→F.get k≠none→k=fo q∨k=cZ q∨k=eV q
structure FM (L:Nat)(F:Fr)(r0:aA)(ai:List ak)(s:aw)(q:Nat)(t:aw):Prop extends FB L F r0 ai (dK L q s) where
 sc:SF F (fo q) (cZ q) (eV q) s
 nx:SF F (fo (kq q)) (cZ (kq q)) (eV (kq q)) t
 CM: ∀k,gv k=true→F.get k≠none→(k=fo q∨k=cZ q∨k=eV q)∨(k=fo (kq q)∨k=cZ (kq q)∨k=eV (kq q))
theorem pD (q:Nat)(hq:q≤2):fo q≠cZ q∧fo q≠eV q∧cZ q≠eV q∧fo q≠fo (kq q)∧fo q≠cZ (kq q)∧fo q≠eV (kq q)∧cZ q≠fo (kq q)∧cZ q≠cZ (kq q)∧cZ q≠eV (kq q)∧eV q≠fo (kq q)∧eV q≠cZ (kq q)∧eV q≠eV (kq q):=by
 match q,hq with
 |0,_=>decide
 |1,_=>decide
 |2,_=>decide
theorem sN (q:Nat):1≤kq q∧kq q≤2:=by
 unfold kq;split<;>omega
def fixed:List Nat:=[6,7,8,62,188441,339993,393241]
theorem kZ (q:Nat)(hq:q≤2):(∀k∈fixed,k≠fo q)∧(∀k∈fixed,k≠cZ q)∧(∀k∈fixed,k≠eV q):=by
 match q,hq with
 |0,_=>decide
 |1,_=>decide
 |2,_=>decide
theorem Fo: ∀k∈fixed,gv k=false:=by decide
theorem FB.ins {L:Nat}{F:Fr}{r0:aA}{ai:List ak}{sb:dE}(h:FB L F r0 ai sb){k:Nat}{b:dE}(hk: ∀j∈fixed,j≠k)(hb: ∀nm,gq nm b=true):FB L (F.ins k b) r0 ai sb where
 jr:=Fr.dZ h.jr
 g6:=(Fr.az _ (hk 6 (by decide)) _).trans h.g6
 g7:=(Fr.az _ (hk 7 (by decide)) _).trans h.g7
 g8:=(Fr.az _ (hk 8 (by decide)) _).trans h.g8
 gp:=(Fr.az _ (hk 188441 (by decide)) _).trans h.gp
 gt:=(Fr.az _ (hk 339993 (by decide)) _).trans h.gt
 gl:=fun hl=>(Fr.az _ (hk 393241 (by decide)) _).trans (h.gl hl)
 M3:=fun ha=>(Fr.az _ (hk 62 (by decide)) _).trans (h.M3 ha)
 ga:=fun ha=>(Fr.az _ (hk 62 (by decide)) _).trans (h.ga ha)
 ref:=fun x hx hne k' hk'=>by
  rcases Fr.pC h.jr hx with e|⟨e,_⟩
  ·subst e;exact hb _
  ·exact h.ref x e hne k' hk'
def qt (F:Fr)(q v1 v2 v3:Nat)(t:aw):Fr:=((F.ins (fo q) (.arr 1 (t.ah.map aF) v1 false)).ins (cZ q) (.arr 2 (t.aq.map aG.row) v2 false)).ins (eV q) (.arr 2 (t.aa.map bC.row) v3 false)
theorem jv (F:Fr)(q v1 v2 v3:Nat)(t:aw){k:Nat}(h1:k≠fo q)(h2:k≠cZ q)(h3:k≠eV q):(qt F q v1 v2 v3 t).get k=F.get k:=by
 unfold qt;rw [Fr.az _ h3,Fr.az _ h2,Fr.az _ h1]
theorem zd (F:Fr)(q:Nat)(hq:q≤2){v1 v2 v3:Nat}(t:aw)(h1:v1≤t.ah.length)(h2:v2≤t.aq.length)(h3:v3≤t.aa.length):SF (qt F q v1 v2 v3 t) (fo q) (cZ q) (eV q) t:=by
 obtain⟨n1,n2,n3,_⟩:=pD q hq;refine⟨⟨v1,h1, ?_⟩,⟨v2,h2, ?_⟩,⟨v3,h3, ?_⟩⟩
 ·unfold qt;rw [Fr.az _ n2,Fr.az _ n1,Fr.bJ]
 ·unfold qt;rw [Fr.az _ n3,Fr.bJ]
 ·unfold qt;rw [Fr.bJ]
theorem ze {L:Nat}{F:Fr}{r0:aA}{ai:List ak}{sb:dE}(h:FB L F r0 ai sb)(q:Nat)(hq:q≤2)(v1 v2 v3:Nat)(t:aw):FB L (qt F q v1 v2 v3 t) r0 ai sb:=by
 obtain⟨a,b,c⟩:=kZ q hq;exact((h.ins a fun _=>rfl).ins b fun _=>rfl).ins c fun _=>rfl
theorem SF.other {F F':Fr}{k1 k2 k3:Nat}{s:aw}(h:SF F k1 k2 k3 s)(e1:F'.get k1=F.get k1)(e2:F'.get k2=F.get k2)(e3:F'.get k3=F.get k3):SF F' k1 k2 k3 s:=by
 obtain⟨a,b,c⟩:=h;exact⟨by rw [e1];exact a,by rw [e2];exact b,by rw [e3];exact c⟩
theorem FI.own {L:Nat}{F:Fr}{r0:aA}{ai:List ak}{s:aw}{q:Nat}(hq:q≤2)(h:FI L F r0 ai s q):FM L (qt F (kq q) 0 0 0 s) r0 ai s q s:=by
 obtain⟨n1,n2,n3,m11,m12,m13,m21,m22,m23,m31,m32,m33⟩:=pD q hq;have hp:=sN q
 exact {ze h.toFB (kq q) hp.2 0 0 0 s with
  sc:=h.sc.other (jv _ _ _ _ _ _ m11 m12 m13) (jv _ _ _ _ _ _ m21 m22 m23) (jv _ _ _ _ _ _ m31 m32 m33)
  nx:=zd F (kq q) hp.2 s (Nat.zero_le _) (Nat.zero_le _) (Nat.zero_le _)
  CM:=fun k hk hg=>by
   by_cases h1:k=fo (kq q)
   ·exact .inr (.inl h1)
   by_cases h2:k=cZ (kq q)
   ·exact .inr (.inr (.inl h2))
   by_cases h3:k=eV (kq q)
   ·exact .inr (.inr (.inr h3))
   rw [jv _ _ _ _ _ _ h1 h2 h3]at hg;exact .inl (h.CM k hk hg)}
theorem FM.TA {L:Nat}{F:Fr}{r0:aA}{ai:List ak}{s t t':aw}{q:Nat}(hq:q≤2)(h:FM L F r0 ai s q t){v1 v2 v3:Nat}(h1:v1≤t'.ah.length)(h2:v2≤t'.aq.length)(h3:v3≤t'.aa.length):FM L (qt F (kq q) v1 v2 v3 t') r0 ai s q t':=by
 obtain⟨n1,n2,n3,m11,m12,m13,m21,m22,m23,m31,m32,m33⟩:=pD q hq;have hp:=sN q
 exact {ze h.toFB (kq q) hp.2 v1 v2 v3 t' with
  sc:=h.sc.other (jv _ _ _ _ _ _ m11 m12 m13) (jv _ _ _ _ _ _ m21 m22 m23) (jv _ _ _ _ _ _ m31 m32 m33)
  nx:=zd F (kq q) hp.2 t' h1 h2 h3
  CM:=fun k hk hg=>by
   by_cases h1:k=fo (kq q)
   ·exact .inr (.inl h1)
   by_cases h2:k=cZ (kq q)
   ·exact .inr (.inr (.inl h2))
   by_cases h3:k=eV (kq q)
   ·exact .inr (.inr (.inr h3))
   rw [jv _ _ _ _ _ _ h1 h2 h3]at hg;exact h.CM k hk hg}
def zf (L:Nat)(F:Fr)(r0:aA)(ai:List ak):Fr:=(F.ins 62 (.arr 9 (ai.map ak.row) 0 false)).ins 7 (gD L r0 ai)
theorem jw (L:Nat)(F:Fr)(r0:aA)(ai:List ak){k:Nat}(h1:k≠62)(h2:k≠7):(zf L F r0 ai).get k=F.get k:=by
 unfold zf;rw [Fr.az _ h2,Fr.az _ h1]
theorem xJ {L:Nat}{r0:aA}{ai:List ak}{k:Nat}(hk:gv k=true):gq (L,k) (gD L r0 ai)=true:=by
 have ne: ∀j,gv j=false→((L,j):Nm)≠(L,k):=fun j hj e=>by
  have:=(Prod.mk.inj e).2;subst this;rw [hj]at hk;cases hk
 have one: ∀j es rows,gv j=false→eL (L,k) (cY (L,j) es rows)=true:=fun j es rows hj=>by
  unfold cY;split
  ·rfl
  ·simpa [eL]using ne j hj
 have a:=ne 188441 (by decide);have b:=ne 339993 (by decide);have c:=one 393241 1 (r0.aX.map aF) (by decide);have d:=one 62 9 (ai.map ak.row) (by decide);simp only [gD,gq,gw,eL,decide_eq_true_eq,Bool.and_eq_true,true_and,and_true,c,d,ne_eq];exact⟨a,b⟩
theorem En {L:Nat}{F:Fr}{r0:aA}{ai acts':List ak}{sb:dE}(h:FB L F r0 ai sb)(hne:acts'≠[]):FB L (zf L F r0 acts') r0 acts' sb where
 jr:=Fr.dZ (Fr.dZ h.jr)
 g6:=(jw _ _ _ _ (by decide) (by decide)).trans h.g6
 g7:=by unfold zf;rw [Fr.bJ]
 g8:=(jw _ _ _ _ (by decide) (by decide)).trans h.g8
 gp:=(jw _ _ _ _ (by decide) (by decide)).trans h.gp
 gt:=(jw _ _ _ _ (by decide) (by decide)).trans h.gt
 gl:=fun hl=>(jw _ _ _ _ (by decide) (by decide)).trans (h.gl hl)
 M3:=fun e=>absurd e hne
 ga:=fun _=>by unfold zf;rw [Fr.az _ (by decide),Fr.bJ]
 ref:=fun x hx hne k' hk'=>by
  rcases Fr.pC (Fr.dZ h.jr) hx with e|⟨e,_⟩
  ·subst e;exact xJ hk'
  ·rcases Fr.pC h.jr e with e|⟨e,_⟩
   ·subst e;rfl
   ·exact h.ref x e hne k' hk'
theorem FM.app {L:Nat}{F:Fr}{r0:aA}{ai acts':List ak}{s t:aw}{q:Nat}(hq:q≤2)(h:FM L F r0 ai s q t)(hne:acts'≠[]):FM L (zf L F r0 acts') r0 acts' s q t:=by
 have hp:=sN q;obtain⟨a,b,c⟩:=kZ q hq;obtain⟨a',b',c'⟩:=kZ (kq q) hp.2;have one: ∀k,(∀j∈fixed,j≠k)→(zf L F r0 acts').get k=F.get k:=fun k hk=>jw _ _ _ _ (hk 62 (by decide)).symm (hk 7 (by decide)).symm
 exact {En h.toFB hne with
  sc:=h.sc.other (one _ a) (one _ b) (one _ c)
  nx:=h.nx.other (one _ a') (one _ b') (one _ c')
  CM:=fun k hk hg=>by
   have h1:k≠62:=fun e=>(by subst e;cases hk);have h2:k≠7:=fun e=>(by subst e;cases hk);rw [jw _ _ _ _ h1 h2]at hg;exact h.CM k hk hg}
theorem CN {L q:Nat}{s:aw}{k:Nat}(h1:k≠fo q)(h2:k≠cZ q)(h3:k≠eV q):gq (L,k) (dK L q s)=true:=by
 simp only [dK,gq,gw,eL,Bool.and_true,Bool.and_eq_true,decide_eq_true_eq,ne_eq,Prod.mk.injEq,true_and];exact⟨fun e=>h1 e.symm,fun e=>h2 e.symm,fun e=>h3 e.symm⟩
theorem A4 {L q:Nat}{s:aw}:gq (L,fo q) (dK L q s)=false∧gq (L,cZ q) (dK L q s)=false∧gq (L,eV q) (dK L q s)=false:=by
 refine⟨?_, ?_, ?_⟩<;>simp [dK,gq,gw,eL]
theorem FB.qq {F:Fr}{H:aj}{r0:aA}{ai:List ak}{t:aw}{p nt:Nat}{s:a7}(hp:p≤2)(hH:0<H.length)(h:FB H.length F r0 ai (dK H.length p t))(sc:SF F (fo p) (cZ p) (eV p) t)(hs: ∀k,gv k=true→ju (H.length,k) s=true):
  ∃F',Go.Gh.qq ⟨s,F::H,nt⟩=some ⟨s,F'::H,nt⟩∧FI H.length F' r0 ai t p:=by
 obtain⟨F',e,hsrt,hmem,hnf,hrf,hdead⟩:=TZ (s:=s) (F:=F) (nt:=nt) hH;refine⟨F',e, ?_⟩;have fx: ∀k∈fixed,F'.get k=F.get k:=fun k hk=>hnf k (Fo k hk);have m8:(8,dK H.length p t)∈F:=Fr.get_mem h.g8;have R:=A4 (L:=H.length) (q:=p) (s:=t)
 exact {
  jr:=hsrt h.jr
  g6:=(fx 6 (by decide)).trans h.g6
  g7:=(fx 7 (by decide)).trans h.g7
  g8:=(fx 8 (by decide)).trans h.g8
  gp:=(fx 188441 (by decide)).trans h.gp
  gt:=(fx 339993 (by decide)).trans h.gt
  gl:=fun hl=>(fx 393241 (by decide)).trans (h.gl hl)
  M3:=fun ha=>(fx 62 (by decide)).trans (h.M3 ha)
  ga:=fun ha=>(fx 62 (by decide)).trans (h.ga ha)
  ref:=fun x hx=>h.ref x (hmem x hx)
  sc:=sc.other (hrf _ _ m8 R.1) (hrf _ _ m8 R.2.1) (hrf _ _ m8 R.2.2)
  CM:=fun k hk hg=>by
   by_cases h1:k=fo p
   ·exact .inl h1
   by_cases h2:k=cZ p
   ·exact .inr (.inl h2)
   by_cases h3:k=eV p
   ·exact .inr (.inr h3)
   refine absurd (hdead k hk (hs k hk) fun x hx=> ?_) hg;by_cases e8:x.1=8
   ·have:x.2=dK H.length p t:=by
     have:=Fr.Em h.jr (show (x.1,x.2)∈F from hx)
     rw [e8,h.g8]at this;exact(Option.some.inj this).symm
    rw [this];exact CN h1 h2 h3
   ·exact h.ref x hx e8 k hk}
theorem FM.fin {F:Fr}{H:aj}{r0:aA}{ai:List ak}{s t:aw}{q nt:Nat}{sl:a7}(hH:0<H.length)(h:FM H.length F r0 ai s q t)(hs: ∀k,gv k=true→ju (H.length,k) sl=true):
  ∃F',Go.Gh.qq ⟨sl,F.ins 8 (dK H.length (kq q) t)::H,nt⟩=some ⟨sl,F'::H,nt⟩∧FI H.length F' r0 ai t (kq q):=by
 have hp:=sN q;obtain⟨a',b',c'⟩:=kZ (kq q) hp.2;refine FB.qq hp.2 hH ?_ ?_ hs
 ·exact {
   jr:=Fr.dZ h.jr
   g6:=(Fr.az _ (by decide) _).trans h.g6
   g7:=(Fr.az _ (by decide) _).trans h.g7
   g8:=Fr.bJ ..
   gp:=(Fr.az _ (by decide) _).trans h.gp
   gt:=(Fr.az _ (by decide) _).trans h.gt
   gl:=fun hl=>(Fr.az _ (by decide) _).trans (h.gl hl)
   M3:=fun ha=>(Fr.az _ (by decide) _).trans (h.M3 ha)
   ga:=fun ha=>(Fr.az _ (by decide) _).trans (h.ga ha)
   ref:=fun x hx hne k' hk'=>by
    rcases Fr.pC h.jr hx with e|⟨e,_⟩
    ·exact absurd (by rw [e]) hne
    ·exact h.ref x e hne k' hk'}
 ·exact h.nx.other (Fr.az _ (a' 8 (by decide)).symm _) (Fr.az _ (b' 8 (by decide)).symm _) (Fr.az _ (c' 8 (by decide)).symm _)
theorem FI.same {F:Fr}{H:aj}{r0:aA}{ai:List ak}{s:aw}{q nt:Nat}{sl:a7}(hq:q≤2)(hH:0<H.length)(h:FI H.length F r0 ai s q)(hs: ∀k,gv k=true→ju (H.length,k) sl=true):
  ∃F',Go.Gh.qq ⟨sl,F::H,nt⟩=some ⟨sl,F'::H,nt⟩∧FI H.length F' r0 ai s q:=FB.qq hq hH h.toFB h.sc hs
section
theorem Fr.rL {k : Nat} {b : dE} : ∀ {f : Fr}, f.jr → f.get k = some b → f.ins k b = f
  | [], _, h => by simp at h
  | (j, c) :: r, hs, h => by
    unfold Fr.jr at hs
    rw [List.map_cons, List.pairwise_cons] at hs
    simp only [Fr.cO] at h
    simp only [Fr.rK]
    by_cases e : k = j
    · subst e
      rw [if_pos rfl] at h
      cases h
      rw [if_pos rfl]
    · rw [if_neg e] at h
      rw [if_neg e]
      have := hs.1 k (List.mem_map_of_mem (f := (·.1)) (Fr.get_mem h))
      simp only at this
      rw [if_neg (by omega), Fr.rL hs.2 h]
def rM (L:Nat)(r0:aA)(ai:List ak):GV:= .agg [.pure (.int .i64 r0.wide), .pure (.int .i64 r0.deep), .bc (L,188441) 2 r0.ah.length 0 r0.ah.length, .bc (L,339993) 5 r0.aa.length 0 r0.aa.length, .aW,cY (L,393241) 1 (r0.aX.map aF),cY (L,62) 9 (ai.map ak.row)]
def H8 (L q:Nat)(s:aw):GV:=lC (L,fo q) (L,cZ q) (L,eV q) s
def jD (r0:aA)(ai:List ak):aA:={r0 with ai:=ai}
section
variable {F f0:Fr} {H:aj} {r0:aA} {ai:List ak} {sb:dE} {c:Nat}
theorem uE {nm:Nm}{es:Nat}{rows:List (List PV)}(h:rows≠[]→H.get nm=some (.arr es rows 0 false)):EX H (cY nm es rows) (.slice rows):=by
 unfold cY;by_cases hr:rows=[]
 ·subst hr;rw [if_pos rfl];simp
 ·rw [if_neg hr];exact⟨rows,0,false,h hr,Nat.zero_le _,rfl,rfl,rfl,rfl⟩
theorem FB.rd (h:FB H.length F r0 ai sb)(hs:r0.seen=[]):pM (f0::F::H) (rM H.length r0 ai) (.agg (jD r0 ai).row):=by
 have ne: ¬H.length=H.length+1:=(by omega);have g: ∀k,aj.get (f0::F::H) (H.length,k)=F.get k:=fun k=>(by simp [ne]);rw [eE];unfold rM;rw [uC];simp only [jD,rE,uB,rC,and_true,true_and];refine⟨⟨_,0,false,(g _).trans h.gp,Nat.zero_le _,by simp,rfl,rfl,rfl⟩,⟨_,0,false,(g _).trans h.gt,Nat.zero_le _,by simp,rfl,rfl,rfl⟩, ?_,uE fun hr=>(g _).trans (h.gl ?_),uE fun hr=>(g _).trans (h.ga ?_)⟩
 ·rw [hs];rfl
 ·intro e;rw [e]at hr;exact hr rfl
 ·intro e;rw [e]at hr;exact hr rfl
theorem SF.rd {k1 k2 k3:Nat}{s:aw}(h:SF F k1 k2 k3 s):pM (f0::F::H) (lC (H.length,k1) (H.length,k2) (H.length,k3) s) (.agg s.row):=by
 have ne: ¬H.length=H.length+1:=(by omega);have g: ∀k,aj.get (f0::F::H) (H.length,k)=F.get k:=fun k=>(by simp [ne]);obtain⟨⟨v1,a1,b1⟩,⟨v2,a2,b2⟩,⟨v3,a3,b3⟩⟩:=h;unfold lC aw.row;rw [uC];simp only [rE,uB,rC,and_true,true_and];exact⟨⟨_,v1,false,(g _).trans b1,a1,by simp,rfl,rfl,rfl⟩,⟨_,v2,false,(g _).trans b2,a2,by simp,rfl,rfl,rfl⟩,⟨_,v3,false,(g _).trans b3,a3,by simp,rfl,rfl,rfl⟩⟩
theorem SF.self {k1 k2 k3:Nat}{s:aw}(hF:F.jr)(h:SF F k1 k2 k3 s)(nV:k1≠k2)(m9:k1≠k3)(lM:k2≠k3): ∃v1 v2 v3,mc (f0::F::H) (H.length,k1) (H.length,k2) (H.length,k3) v1 v2 v3 s:=by
 have ne: ¬H.length=H.length+1:=(by omega);have g: ∀k,aj.get (f0::F::H) (H.length,k)=F.get k:=fun k=>(by simp [ne]);have st: ∀k b,F.get k=some b→aj.set (f0::F::H) (H.length,k) b=f0::F::H:=fun k b hb=>(by simp [ne,Fr.rL hF hb]);have nn: ∀a b:Nat,a≠b→((H.length,a):Nm)≠(H.length,b):=fun a b h e=>h (Prod.mk.inj e).2;obtain⟨⟨v1,a1,b1⟩,⟨v2,a2,b2⟩,⟨v3,a3,b3⟩⟩:=h;exact⟨v1,v2,v3,{nV:=nn _ _ nV,m9:=nn _ _ m9,lM:=nn _ _ lM,g1:=(g _).trans b1,g2:=(g _).trans b2,g3:=(g _).trans b3,e1:=a1,e2:=a2,e3:=a3,s1:=st _ _ b1,s2:=st _ _ b2,s3:=st _ _ b3}⟩
structure RB (r0:aA)(n:Nat):Prop where
 hn:IntKind.i64.wrap (r0.wide*r0.deep)=n
 n0:0<n
 n9:n≤9
 wide:r0.wide≠0
 pl:r0.ah.length≤3
 tl:r0.aa.length≤4
 p0:r0.ah≠[]
 t0:r0.aa≠[]
 seen:r0.seen=[]
theorem vz {nm:Nm}(hlt:nm.1<H.length){n:Nat}(hb:RB r0 n)(h:FB H.length F r0 ai sb){k1 k2 k3:Nat}{s:aw}(hs:SF F k1 k2 k3 s)(hS:E9 r0 s)(w:Nat)(hw:w<r0.ah.length)(wd:Int):
  aL KC (aE KC) 49 [.ay nm 0,rM H.length r0 ai,lC (H.length,k1) (H.length,k2) (H.length,k3) s, .pure (.int .i64 w)] c (f0::F::H.set nm (bw wd))=
   some (.pure (.tuple [.agg (gd (jD r0 ai) s w (bL n r0.aa.length r0.ah.length w) wd).1.1.row, .bool (gd (jD r0 ai) s w (bL n r0.aa.length r0.ah.length w) wd).1.2]),f0::F::H.set nm (bw (gd (jD r0 ai) s w (bL n r0.aa.length r0.ah.length w) wd).2)):=by
 have hl:(H.set nm (bw wd)).length=H.length:=aj.length_set _ _ _;have h':FB (H.set nm (bw wd)).length F r0 ai sb:=(by rw [hl];exact h);have hne: ¬nm.1=H.length:=(by omega);have hne2: ¬nm.1=H.length+1:=(by omega);have B:fU (f0::F::H.set nm (bw wd)) nm:=dU (dU (kU hlt));have W:bD (f0::F::H.set nm (bw wd)) nm=wd:=(by rw [dx (by simp [hl];omega),dx (by rw [hl];exact hlt),kT hlt]);have M:=E8 (c:=c) (rg:=rM (H.set nm (bw wd)).length r0 ai) (sg:=lC ((H.set nm (bw wd)).length,k1) ((H.set nm (bw wd)).length,k2) ((H.set nm (bw wd)).length,k3) s) (jD r0 ai) s w n (h'.rd (f0:=f0) hb.seen) hs.rd ⟨hS.pl,hS.hl,hS.tl,hS.hr⟩ hw (by show r0.ah.length≤_;have:=hb.pl;omega) (by show r0.aa.length≤_;have:=hb.tl;omega) hb.wide hb.hn hb.n0 (by have:=hb.n9;omega) B
 rw [W,hl]at M;refine M.trans ?_;simp [hne,hne2,aj.length_set,jD]
theorem H9 {H0:aj}(hl:H0.length=H.length){k1 k2 k3:Nat}{s:aw}(hs:SF F k1 k2 k3 s)(hS:E9 r0 s){w v:Nat}{a b:ak}(hw:w<r0.ah.length)(hv:v<r0.ah.length)(h1:a.aO=w)(h2:a.hand=0∨a.hand=1)(h3:b.aO=v)(h4:b.hand=0∨b.hand=1):
  aL KC (aE KC) 53 [lC (H.length,k1) (H.length,k2) (H.length,k3) s, .pure (.agg a.row), .pure (.agg b.row)] c (f0::F::H0)=some (.pure (.bool (qm s w a v b)),f0::F::H0):=by
 have e1:=hS.pl;have e2:=hS.hl;have R:pM (f0::F::H0) (lC (H.length,k1) (H.length,k2) (H.length,k3) s) (.agg s.row):=(by rw [←hl];exact hs.rd);exact Fc R (show pM _ (.pure (.agg a.row)) (.agg a.row)from rfl) (show pM _ (.pure (.agg b.row)) (.agg b.row)from rfl) (by omega) (by omega) h1 h2 (by omega) (by omega) h3 h4 (by simp)
theorem ZM {H0:aj}(hl:H0.length=H.length){k1 k2 k3:Nat}{s:aw}(hF:F.jr)(hs:SF F k1 k2 k3 s)(nV:k1≠k2)(m9:k1≠k3)(lM:k2≠k3){w:Nat}{a:ak}(hb:Fe s w a)(hhl:s.aq.length≤1000000):
  ∃v1 v2 v3,v1≤s.ah.length∧v2≤s.aq.length∧v3≤s.aa.length∧
  aL KC (aE KC) 51 [lC (H.length,k1) (H.length,k2) (H.length,k3) s, .pure (.agg a.row)] c (f0::F::H0)=
   some (.pure (.tuple []),f0::((F.ins k1 (.arr 1 ((da s w a).ah.map aF) v1 false)).ins k2 (.arr 2 ((da s w a).aq.map aG.row) v2 false)).ins k3 (.arr 2 ((da s w a).aa.map bC.row) v3 false)::H0):=by
 obtain⟨u1,u2,u3,S⟩:=hs.self (f0:=f0) (H:=H0) hF nV m9 lM;obtain⟨v1,v2,v3,a1,a2,a3,e⟩:=Qk (c:=c) S hb hhl (by simp);rw [hl]at e;refine⟨v1,v2,v3,a1,a2,a3,e.trans ?_⟩;have ne: ¬H.length=H.length+1:=(by omega);simp [cA,hl,ne]
end
end
section
section
variable {F:Fr} {H:aj} {r0:aA} {ai:List ak} {sb:dE}
theorem T0 {H0:aj}(hl:H0.length=H.length){s:aw}{q:Nat}(hq:q≤2)(h:FI H.length F r0 ai s q)(hS:E9 r0 s)(p0:r0.ah≠[])(t0:r0.aa≠[])(pl:r0.ah.length≤1000000)(tl:r0.aa.length≤1000000)(a:ak):
  (match aL KC (aE KC) 50 [H8 H.length q s] 54 ([(12,bW a)]::F::H0)with|some z=>rN ([(12,bW a)]::F::H0) (.ay (H.length,8) 0) z|none=>none)=
   some (H8 H.length (kq q) s,[(12,bW a)]::qt F (kq q) 0 0 0 s::H0):=by
 obtain⟨nV,m9,lM,_⟩:=pD q hq;obtain⟨u1,u2,u3,S⟩:=h.sc.self (f0:=[(12,bW a)]) (H:=H0) h.jr nV m9 lM;have e1:=hS.pl;have e2:=hS.hl;have e3:=hS.tl;have q0:0<r0.ah.length:=List.length_pos_iff.2 p0;have q1:0<r0.aa.length:=List.length_pos_iff.2 t0;have ne: ¬H.length=H.length+1:=(by omega);have O:=T3 (c:=54) S.tomD (fun e=>by rw [e]at e1;simp at e1;omega) (fun e=>by rw [e]at e2;simp at e2;omega) (fun e=>by rw [e]at e3;simp at e3;omega) (by omega) (by omega) (by omega) (by simp) (by simp [ao]) (by simp [ao]) (by simp [ao]);rw [hl]at O;unfold H8;rw [O];have fr1: ∀k,k=fo 1∨k=cZ 1∨k=eV 1→q≠1→F.get k=none:=fun k hk hq1=>by
  cases hg:F.get k with
  |none=>rfl
  |some b=>
   have:=h.CM k (by rcases hk with rfl|rfl|rfl<;>decide) (by rw [hg];exact fun e=>by cases e)
   exfalso
   match q,hq with
   |0,_=>rcases hk with rfl|rfl|rfl<;>revert this<;>decide
   |1,_=>exact hq1 rfl
   |2,_=>rcases hk with rfl|rfl|rfl<;>revert this<;>decide
 have fr2: ∀k,k=fo 2∨k=cZ 2∨k=eV 2→q=1→F.get k=none:=fun k hk hq1=>by
  cases hg:F.get k with
  |none=>rfl
  |some b=>
   have:=h.CM k (by rcases hk with rfl|rfl|rfl<;>decide) (by rw [hg];exact fun e=>by cases e)
   exfalso;subst hq1;rcases hk with rfl|rfl|rfl<;>revert this<;>decide
 have A:cM 0 (ao 54 6)=fo 1∧cM 0 (ao 54 10)=cZ 1∧cM 0 (ao 54 14)=eV 1∧cM 1 (ao 54 6)=fo 2∧cM 1 (ao 54 10)=cZ 2∧cM 1 (ao 54 14)=eV 2:=(by decide);obtain⟨A1,A2,A3,B1,B2,B3⟩:=A;have N1:ao 54 6=24631:=(by decide);have N2:ao 54 10=41015:=(by decide);have N3:ao 54 14=57399:=(by decide);rw [N1]at A1 B1;rw [N2]at A2 B2;rw [N3]at A3 B3;by_cases hq1:q=1
 ·have hs: ∃b,F.get (fo 1)=some b:=by
   obtain⟨v,_,hv⟩:=h.sc.h1;rw [hq1]at hv;exact⟨_,hv⟩
  obtain⟨b1,hb1⟩:=hs;have g1:=fr2 (fo 2) (.inl rfl) hq1;have g2:=fr2 (cZ 2) (.inr (.inl rfl)) hq1;have g3:=fr2 (eV 2) (.inr (.inr rfl)) hq1;have hn:kq q=2:=(by rw [hq1];rfl);rw [hn];simp only [fo,cZ,eV]at hb1 g1 g2 g3 A1 A2 A3 B1 B2 B3;simp only [rN,lC,cA,N1,N2,N3,hl];simp [refs,dM,c9,dedup,hl,ne,bW,qu,lT,iE,gq,gw,eL,fO,Fr.del,vA,vB,nW,qv,A1,A2,A3,B1,B2,B3,hb1,g1,g2,g3,qt,fo,cZ,eV]
 ·have g1:=fr1 (fo 1) (.inl rfl) hq1;have g2:=fr1 (cZ 1) (.inr (.inl rfl)) hq1;have g3:=fr1 (eV 1) (.inr (.inr rfl)) hq1;have hn:kq q=1:=by
   match q,hq with
   |0,_=>rfl
   |1,_=>exact absurd rfl hq1
   |2,_=>rfl
  rw [hn];simp only [fo,cZ,eV]at g1 g2 g3 A1 A2 A3 B1 B2 B3;simp only [rN,lC,cA,N1,N2,N3,hl];simp [refs,dM,c9,dedup,hl,ne,bW,qu,lT,iE,gq,gw,eL,fO,Fr.del,vA,vB,nW,qv,A1,A2,A3,B1,B2,B3,g1,g2,g3,qt,fo,cZ,eV]
end
end
section
def JG (r:aA):aw→List (List ak)→Prop
 |_,[]=>True
 |s,g::gs=>(qW r s g∧g≠[]∧ ∀a∈g,∀b∈g,a.ba=b.ba)∧JG r (kY s g) gs
theorem A5 {r:aA}{g:List ak}: ∀{gs:List (List ak)} {s:aw},JG r s gs→(qW r (kY s gs.flatten) g∧g≠[]∧ ∀a∈g,∀b∈g,a.ba=b.ba)→JG r s (gs++[g])
 | [],s,_,h=>⟨h,trivial⟩
 |g0::gs,s,h,h2=>⟨h.1,A5 h.2 (by rw [←iY];exact h2)⟩
structure Made (r0:aA)(ai:List ak)(s:aw)(t:Int):Prop where
 gs: ∃gs:List (List ak),ai=gs.flatten∧JG r0 (aJ r0) gs∧(gs.Pairwise fun g h=> ∀a∈g,∀b∈h,a.ba<b.ba)
 lt: ∀a∈ai,a.ba<t
 z: ∀a∈ai,0≤a.ba∧a.cd=0∧a.gR=0
 sc:s=kY (aJ r0) ai
 snd:fT r0 s
 t0:0≤t
theorem Made.grp {r0:aA}{ai:List ak}{s:aw}{t t':Int}{g:List ak}(h:Made r0 ai s t)(hg:qW r0 s g)(hne:g≠[])(hat: ∀a∈g,a.ba=t∧a.cd=0∧a.gR=0)(ht:t<t'):Made r0 (ai++g) (kY s g) t':=by
 obtain⟨gs,e,h1,h2⟩:=h.gs;have hs:=h.sc;have t0:=h.t0;refine⟨⟨gs++[g],by rw [e];simp,A5 h1 ⟨by rw [←e,←hs];exact hg,hne,fun a ha b hb=>(hat a ha).1.trans (hat b hb).1.symm⟩, ?_⟩,fun a ha=> ?_,fun a ha=> ?_,by rw [iY,←hs],hg.snd h.snd,by omega⟩
 ·rw [List.pairwise_append];refine⟨h2,List.pairwise_singleton ..,fun g' hg' x hx a ha b hb=> ?_⟩;simp only [List.mem_singleton]at hx;subst hx;have:=h.lt a (by rw [e];exact List.mem_flatten.2 ⟨g',hg',ha⟩);have:=(hat b hb).1;omega
 ·rcases List.mem_append.1 ha with x|x
  ·have:=h.lt a x;omega
  ·have:=(hat a x).1;omega
 ·rcases List.mem_append.1 ha with x|x
  ·exact h.z a x
  ·have:=(hat a x).1;exact⟨by omega,(hat a x).2⟩
theorem CO {r:aA}(h:vC r):fT r (aJ r):=by
 have ce: ∀l:List aS,∀t:Nat,fN (l.map fun _=>empty) t=0:=fun l t=>by
  induction l with
  |nil=>rfl
  |cons a l ih=>
   have: ¬(-1:Int)=t:=(by omega);simp only [List.map_cons,fN,ih];simp [uk,empty,this]
 refine {pl:=by simp [aJ],hl:=by simp [aJ],tl:=by simp [aJ],hr:=fun i hi=> ?_,pr:=fun x hx=> ?_,pn:=h.pn,th:=fun t ht=> ?_,st:=fun t ht=> ?_}
 ·simp only [aJ,List.getElem_map,empty,List.length_map];omega
 ·simp only [aJ,List.mem_map]at hx;obtain⟨p,hp,rfl⟩:=hx;exact(h.pc p hp).2
 ·have ht':t<r.aa.length:=(by simpa [aJ]using ht);have e:((aJ r).aa.getD t aR)=eY r.aa[t]:=by
   rw [aQ ht];simp [aJ]
  rw [e];exact .inr ⟨ce _ _,(h.tc _ (List.getElem_mem ht')).1,(h.tc _ (List.getElem_mem ht')).2.1⟩
 ·have ht':t<r.aa.length:=(by simpa [aJ]using ht);have e:((aJ r).aa.getD t aR)=eY r.aa[t]:=by
   rw [aQ ht];simp [aJ]
  rw [e];exact⟨(h.tc _ (List.getElem_mem ht')).2.2.1,(h.tc _ (List.getElem_mem ht')).2.2.2.1⟩
theorem Made.first {r:aA}(h:vC r){t:Int}(ht:0≤t):Made r [] (aJ r) t:=
 ⟨⟨[],rfl,trivial, .nil⟩,fun _ h=>by simp at h,fun _ h=>by simp at h,rfl,CO h,ht⟩
def setAt (a:ak)(t:Int):ak:={a with ba:=t}
section
variable {r:aA} {s:aw} {w:Nat} {a:ak} {t:Int}
theorem nh:b7 r s w (setAt a t)=b7 r s w a:=by rw [du,du];rfl
theorem xK:da s w (setAt a t)=da s w a:=by rw [iv,iv];rfl
theorem zg:b9 s w (setAt a t)=b9 s w a:=by rw [dS,dS];rfl
theorem oC (h:AB r w a):AB r w (setAt a t):=⟨h.aO,h.wl,h.hand,h.kind,h.take,h.pO,h.step,h.form⟩
theorem sO {ai:List ak}:b7 {r with ai:=ai} s w a=b7 r s w a:=by rw [du,du]
end
theorem mz {r:aA}{n w:Nat}{a:ak}(hn:r.wide*r.deep=n)(hw:w<r.ah.length)(h:a∈bL n r.aa.length r.ah.length w):AB r w a∧a.ba=0∧a.cd=0∧a.gR=0:=by
 have one: ∀(hand kind:Nat),(hand=0∨hand=1)→2≤kind→kind≤8→a∈ia r.aa.length r.ah.length w kind hand→AB r w a∧a.ba=0∧a.cd=0∧a.gR=0:=fun hand kind hh k2 k8 ha=>by
  have hh':(hand:Int)=0∨(hand:Int)=1:=(by omega);unfold ia at ha;split at ha
  ·simp only [ib,List.mem_map,List.mem_range']at ha;obtain⟨x,⟨i,hi,rfl⟩,rfl⟩:=ha;exact⟨⟨rfl,hw,hh',⟨by simp [bZ],by simp [bZ]⟩,fun _=>⟨_,rfl,by omega⟩,fun h=>by simp [bZ]at h,fun h=>by simp [bZ]at h,by simp [nP,bZ]⟩,rfl,rfl,rfl⟩
  ·split at ha
   ·simp only [gy,List.mem_map,List.mem_filter,List.mem_range']at ha;obtain⟨x,⟨⟨i,hi,rfl⟩,hne⟩,rfl⟩:=ha;refine⟨⟨rfl,hw,hh',⟨by simp [bZ],by simp [bZ]⟩,fun h=>by simp [bZ]at h,fun _=>⟨_,rfl,by omega,fun e=> ?_⟩,fun h=>by simp [bZ]at h,by simp [nP,bZ]⟩,rfl,rfl,rfl⟩;rw [e]at hne;simp at hne
   ·rename_i n2 n4;simp only [List.mem_singleton]at ha;subst ha;have m1: ¬(kind:Int)=1:=(by omega);have m2: ¬(kind:Int)=2:=(by omega);have m4: ¬(kind:Int)=4:=(by omega);exact⟨⟨rfl,hw,hh',⟨by simp only [bZ];omega,by simp only [bZ];omega⟩,fun h=>absurd h m2,fun h=>absurd h m4,fun h=>absurd h m1,by simp [nP,bZ,m1,m2,m4]⟩,rfl,rfl,rfl⟩
 unfold bL at h;rcases List.mem_append.1 h with h|h
 ·simp only [gJ,List.mem_map,List.mem_range']at h;obtain⟨x,⟨i,hi,rfl⟩,rfl⟩:=h;refine⟨⟨rfl,hw, .inl rfl,⟨by simp [bZ],by simp [bZ]⟩,fun h=>by simp [bZ]at h,fun h=>by simp [bZ]at h,fun _=>⟨?_, ?_⟩,by simp [nP,bZ]⟩,rfl,rfl,rfl⟩
  ·simp only [bZ];omega
  ·simp only [bZ];omega
 ·simp only [fy,List.mem_flatMap,List.mem_range',nX,List.mem_append]at h;obtain⟨k,⟨i,hi,rfl⟩,h⟩:=h;rcases h with h|h
  ·exact one 0 _ (.inl rfl) (by omega) (by omega) h
  ·exact one 1 _ (.inr rfl) (by omega) (by omega) h
end
section
theorem Fp {L k:Nat}(hk:gv k=true):((L,6):Nm)≠(L,k)∧((L,7):Nm)≠(L,k)∧((L,8):Nm)≠(L,k):=by
 have ne: ∀j,gv j=false→((L,j):Nm)≠(L,k):=fun j hj e=>by
  have:=(Prod.mk.inj e).2;subst this;rw [hj]at hk;cases hk
 exact⟨ne 6 (by decide),ne 7 (by decide),ne 8 (by decide)⟩
def fA (nm:Nm)(L:Nat)(t:Int)(i:Int):a7:=[(0, .ay nm 0),(6, .ay (L,6) 0),(7, .ay (L,7) 0),(8, .ay (L,8) 0),(9, .pure (.int .i64 t)),(10, .pure (.int .i64 i))]
theorem vD {nm:Nm}{L:Nat}{t i:Int}(h:nm.1<L)(k:Nat)(hk:gv k=true):ju (L,k) (fA nm L t i)=true:=by
 obtain⟨a,b,c⟩:=Fp (L:=L) hk;have d:nm≠(L,k):=fun e=>(by rw [e]at h;simp at h);simp only [fA,ju,eL,decide_eq_true a,decide_eq_true b,decide_eq_true c,decide_eq_true d];rfl
structure CP (L:Nat)(r0:aA)(m:Nat)(T:Int)(F:Fr)(ai:List ak)(s:aw)(q:Nat)(t:Int):Prop where
 fi:FI L F r0 ai s q
 q2:q≤2
 md:Made r0 ai s t
 ml:ai.length≤m
 tT:t≤T
variable {H:aj}
theorem CQ {nm:Nm} (hlt:nm.1<H.length) (r0:aA) (n:Nat) (hb:RB r0 n) (k:Nat) (hk:k≤1000) (m:Nat) (T:Int) (F:Fr) (ai:List ak) (s:aw) (q:Nat) (t:Int) (wd:Int) (hR:CP H.length r0 m T F ai s q t) (Q:GX→bO→Prop)
  (w:Nat) (wd1 wd2:Int) (a:ak) (e1:lA wd r0.ah.length=((w:Int),wd1)) (hw:w<r0.ah.length) (e2:gd (jD r0 ai) s w (bL n r0.aa.length r0.ah.length w) wd1=((a,false),wd2))
  (ih: ∀F' wd',CP H.length r0 m T F' ai s q t→uo KC au 11 (lp Tryz.f11 0) [0,6,7,8,9,10] [6,7,8,9] Q (fA nm H.length t k) (F'::H.set nm (bw wd')) 174):
  uo KC au 11 (lp Tryz.f11 0) [0,6,7,8,9,10] [6,7,8,9] Q (fA nm H.length t ((k+1:Nat):Int)) (F::H.set nm (bw wd)) 174:=by
 have hne: ¬nm.1=H.length:=(by omega);have hne2: ¬nm.1=H.length+1:=(by omega);have hne3: ¬nm.1=H.length+1+1:=(by omega);have hle:nm.1≤H.length:=(by omega);have hB:=fun w f0 f1=>Cq hlt w f0 f1;have hW:=fun w f0 f1=>u7 hlt w f0 f1;have g7:=hR.fi.g7;have g8:=hR.fi.g8;have M:=fun f0 c=>vz (f0:=f0) (c:=c) hlt hb hR.fi.toFB hR.fi.sc hR.md.snd.toE9 w hw wd1;rw [e2]at M;have hk1:(0:Int)<(k:Int)+1:=(by omega);have hw1:=dp (x:=(k:Int)) (by omega) (by omega);have hkk:((k:Int)+1-1)=k:=(by omega);have pl:=hb.pl;have hpl:((r0.ah.length:Int))≤9223372036854775807:=(by omega);simp only [gD,dK]at g7 g8;simp only [rM,lC,ak.row]at M;have hl: ∀w,(H.set nm (bw w)).length=H.length:=fun w=>aj.length_set _ _ _;apply sQ;conv=>arg 4;whnf
 simp [fA,hk1,hl,kV,hB,hW,hlt,hne,hne2,aj.dF,hle,g7,g8,e1,hpl,M,hkk,hw1];obtain⟨F',eg,hF⟩:=FI.same (H:=H.set nm (bw wd2)) (nt:=174) (sl:=fA nm H.length t k) hR.q2 (by rw [hl];omega) (by rw [hl];exact hR.fi) (fun j hj=>by rw [hl];exact vD hlt j hj);rw [hl]at hF;simp only [fA]at eg;rw [eg,gB];exact ih F' wd2 ⟨hF,hR.q2,hR.md,hR.ml,hR.tT⟩
section
variable {F:Fr} {r0:aA} {ai:List ak} {s t:aw} {q:Nat} {H0:aj}
theorem T4 (hl:H0.length=H.length)(hq:q≤2)(h:FI H.length F r0 ai s q)(hS:E9 r0 s){n:Nat}(hb:RB r0 n)(a:ak):
  ∃F1 z,FM H.length F1 r0 ai s q s∧aL KC (aE KC) 50 [H8 H.length q s] 54 ([(12,bW a)]::F::H0)=some z∧
   rN ([(12,bW a)]::F::H0) (.ay (H.length,8) 0) z=some (H8 H.length (kq q) s,[(12,bW a)]::F1::H0):=by
 have e:=T0 hl hq h hS hb.p0 hb.t0 (by have:=hb.pl;omega) (by have:=hb.tl;omega) a
 cases hg:aL KC (aE KC) 50 [H8 H.length q s] 54 ([(12,bW a)]::F::H0)with
 |none=>rw [hg]at e;cases e
 |some z=>
  rw [hg]at e;exact⟨_,z,h.own hq,rfl,e⟩
theorem Ql (hl:H0.length=H.length)(hq:q≤2)(h:FM H.length F r0 ai s q t){w:Nat}{a:ak}(hb:Fe t w a)(hhl:t.aq.length≤1000000)(f0:Fr)(c:Nat):
  ∃F2,FM H.length F2 r0 ai s q (da t w a)∧aL KC (aE KC) 51 [H8 H.length (kq q) t, .pure (.agg a.row)] c (f0::F::H0)=some (.pure (.tuple []),f0::F2::H0):=by
 have hp:=sN q;obtain⟨n1,n2,n3,_⟩:=pD (kq q) hp.2;obtain⟨v1,v2,v3,a1,a2,a3,e⟩:=ZM (c:=c) (f0:=f0) hl h.jr h.nx n1 n2 n3 hb hhl;have L:=kC (s:=t) (w:=w) hb.kind;exact⟨_,h.TA hq (by omega) (by omega) (by omega),e⟩
theorem Ia (hl:H0.length=H.length)(hq:q≤2)(h:FM H.length F r0 ai s q t)(a:ak)(hn:ai.length≤1000000):
  ∃F2 F3,FM H.length F3 r0 (ai++[a]) s q t∧(∀(f0:Fr) (ka:Nat),(ai=[]→ka=62)→yH H.length ka (cY (H.length,62) 9 (ai.map ak.row)) 9 72 [a.row] (f0::F::H0)=some (cY (H.length,62) 9 ((ai++[a]).map ak.row),f0::F2::H0))∧
   F2.get 7=some (gD H.length r0 ai)∧F2.ins 7 (gD H.length r0 (ai++[a]))=F3:=by
 have ne: ¬H.length=H.length+1:=(by omega);refine⟨F.ins 62 (.arr 9 ((ai++[a]).map ak.row) 0 false),_,h.app hq (acts':=ai++[a]) (by simp),fun f0 ka hka=> ?_, ?_,rfl⟩
 ·have ek:yH H.length ka (cY (H.length,62) 9 (ai.map ak.row)) 9 72 [a.row] (f0::F::H0)=yH H.length 62 (cY (H.length,62) 9 (ai.map ak.row)) 9 72 [a.row] (f0::F::H0):=by
   by_cases e:ai=[]
   ·rw [hka e]
   ·unfold cY;rw [if_neg (by simpa using e)];rfl
  rw [ek,rb (fun hr=> ?_) (fun hr=> ?_) (by simp [hl];omega) (by simp;omega)]
  ·simp [hl,ne]
  ·have:ai=[]:=(by simpa using hr);simp [hl,ne,h.M3 this]
  ·have:ai≠[]:=(by intro e;subst e;exact hr rfl);simp [hl,ne,h.ga this]
 ·rw [Fr.az _ (by decide)];exact h.g7
end
end
end Go.Gh
