/- Texts joined: the evaluator over ghost values, its soundness, the walks. Spaces struck and names made short by a program, for the size. -/
import Derived.Test.YtkcmcjohoockcaaGreatGc7g
namespace Go.Gh
open Go.Proofs
set_option linter.unusedVariables false
set_option linter.unusedSimpArgs false
set_option linter.unnecessarySimpa false
set_option maxRecDepth 100000
set_option maxHeartbeats 8000000
section
variable {c:Nat} {H:aj}
def Cr (H:aj):GV→PV→Prop
 | .pure p,q=>p=q
 | .aV,q=>q= .slice []
 | .a8 nm es top lo len,q=> ∃rows v ro,H.get nm=some (.arr es rows v ro)∧v≤top∧rows.length=top∧lo=0∧len=top∧q= .slice rows
 |_,_=>False
def N7 (H:aj):List GV→List PV→Prop
 | [],[]=>True
 |g::l,q::m=>Cr H g q∧N7 H l m
 |_,_=>False
def pK (H:aj):GV→PV→Prop
 | .agg l, .agg m=>N7 H l m
 | .pure p,q=>p=q
 |_,_=>False
@[simp] theorem rj {p q:PV}:Cr H (.pure p) q=(p=q):= .trans rfl rfl
@[simp] theorem aaC {q:PV}:Cr H .aV q=(q= .slice []):= .trans rfl rfl
@[simp] theorem uy:N7 H [] []=True:= .trans rfl rfl
@[simp] theorem ri {g:GV}{q:PV}{l:List GV}{m:List PV}:N7 H (g::l) (q::m)=(Cr H g q∧N7 H l m):= .trans rfl rfl
@[simp] theorem ux {l:List GV}{m:List PV}:pK H (.agg l) (.agg m)=N7 H l m:= .trans rfl rfl
def kg (H1 H2:aj):Prop:= ∀nm es rows v ro,H1.get nm=some (.arr es rows v ro)→ ∃ro',H2.get nm=some (.arr es rows v ro')
theorem kg.refl (H:aj):kg H H:=fun _ _ _ _ ro h=>⟨ro,h⟩
theorem kg.trans {A B C:aj}(h1:kg A B)(h2:kg B C):kg A C:=fun nm es rows v ro h=>by
 obtain⟨r1,a⟩:=h1 nm es rows v ro h;exact h2 nm es rows v r1 a
theorem Eb {H1 H2:aj}(h:kg H1 H2): ∀{g:GV} {q:PV},Cr H1 g q→Cr H2 g q:=by
 intro g q hg
 cases g with
 |a8 nm es top lo len=>
  obtain⟨rows,v,ro,a,b,d⟩:=hg;obtain⟨ro',e⟩:=h _ _ _ _ _ a;exact⟨rows,v,ro',e,b,d⟩
 |pure p=>exact hg
 |aV=>exact hg
 |_=>exact hg.elim
theorem zO {H1 H2:aj}(h:kg H1 H2): ∀{l:List GV} {m:List PV},N7 H1 l m→N7 H2 l m
 | [],[],_=>trivial
 |g::l,q::m,hl=>⟨Eb h hl.1,zO h hl.2⟩
 | [],_::_,hl=>hl.elim
 |_::_,[],hl=>hl.elim
theorem rI {H1 H2:aj}(h:kg H1 H2){g:GV}{q:PV}(hg:pK H1 g q):pK H2 g q:=by
 cases g with
 |agg l=>
  cases q with
  |agg m=>exact zO h hg
  |_=>exact hg.elim
 |pure p=>exact hg
 |_=>cases q<;>exact hg.elim
theorem qk {g:GV}{q:PV}(h:Cr H g q):cj (dW H g).1= .pure q∧kg H (dW H g).2:=by
 cases g with
 |a8 nm es top lo len=>
  obtain⟨rows,v,ro,h1,h2,h3,rfl,rfl,rfl⟩:=h;subst h3;have e:dC H (.a8 nm es rows.length 0 rows.length)=(.slice rows,H.set nm (.arr es rows v true)):=(by simp [h1,h2]);simp only [dW,e];refine⟨rfl,fun nm' es' rows' v' ro' hg=> ?_⟩;by_cases hn:nm'=nm
  ·subst hn;rw [h1]at hg;cases hg;exact⟨true,aj.dU _ (aj.bL h1)⟩
  ·exact⟨ro',(aj.aJ _ hn).trans hg⟩
 |pure p=>cases h;exact⟨rfl,kg.refl _⟩
 |aV=>cases h;exact⟨rfl,kg.refl _⟩
 |_=>exact h.elim
theorem uj: ∀{l:List GV} {m:List PV} {H:aj},N7 H l m→(gB H l).1.map cj=m.map .pure∧kg H (gB H l).2
 | [],[],H,_=>⟨rfl,kg.refl _⟩
 |g::l,q::m,H,h=>by
  obtain⟨a,b⟩:=qk h.1;obtain⟨d,e⟩:=uj (zO b h.2);simp only [gB,List.map_cons,a,d];exact⟨trivial,b.trans e⟩
 | [],_::_,_,hl=>hl.elim
 |_::_,[],_,hl=>hl.elim
theorem sn: ∀{l:List GV} {ps:List PV},bm l=some ps→l=ps.map .pure
 | [],ps,h=>by cases h;rfl
 |g::l,ps,h=>by
  cases g with
  |pure p=>
   rw [zM]at h
   cases hl:bm l with
   |none=>rw [hl]at h;cases h
   |some qs=>rw [hl]at h;cases h;rw [sn hl];rfl
  |_=>simp [bm]at h
theorem rm {l:List GV}{m:List PV}(h:l.map cj=m.map .pure):canon (cZ l)= .pure (.agg m):=by
 rw [Gu]
 cases hl:bm l with
 |some ps=>
  have e:=sn hl;subst e;have:ps=m:=by
   have h':ps.map GV.pure=m.map .pure:=(by simpa [cj,Function.comp_def]using h);exact(List.map_inj_right (fun a b e=>by cases e;rfl)).1 h'
  rw [this];rfl
 |none=>
  show canon (.agg l)=_
  rw [Gv,h];simp
theorem m0 {g:GV}{q:PV}(h:pK H g q):canon (dn H g).1= .pure q∧kg H (dn H g).2:=by
 cases g with
 |agg l=>
  cases q with
  |agg m=>
   obtain⟨a,b⟩:=uj (H:=H) (l:=l) (m:=m) h;exact⟨rm a,b⟩
  |_=>exact h.elim
 |pure p=>cases h;exact⟨rfl,kg.refl _⟩
 |_=>cases q<;>exact h.elim
theorem acB {g:GV}{q:PV}(h:pK H g q):(bs H [g]).1.map canon=[.pure q]:=by
 simp only [bs,List.map_cons,List.map_nil,(m0 h).1]
theorem iv {g:GV}{r:List GV}:(bs H (g::r)).1.map canon=canon (dn H g).1::(bs (dn H g).2 r).1.map canon:=rfl
theorem aaD {a b d:GV}{p q r:PV}(h1:pK H a p)(h2:pK H b q)(h3:pK H d r):(bs H [a,b,d]).1.map canon=[.pure p, .pure q, .pure r]:=by
 obtain⟨x1,y1⟩:=m0 h1;obtain⟨x2,y2⟩:=m0 (rI y1 h2);obtain⟨x3,y3⟩:=m0 (rI y2 (rI y1 h3));rw [iv,x1,iv,x2,iv,x3];rfl
theorem aaE {nm:Nm}{b d e:GV}{q r p:PV}(h2:pK H b q)(h3:pK H d r)(h4:pK H e p):(bs H [.ay nm 0,b,d,e]).1.map canon=[.ay nm 0, .pure q, .pure r, .pure p]:=by
 rw [iv,BP,aaD h2 h3 h4];rfl
theorem Gw {rg sg:GV}(r:aA)(s:aw)(w n:Nat)(hR:pK H rg (.agg r.row))(hS:pK H sg (.agg s.row))(hs:FN r s)(hw:w<r.ah.length)(hpl:r.ah.length≤1000000)(htl:r.aa.length≤1000000)(hwide:r.wide≠0)(hn:IntKind.i64.wrap (r.wide*r.deep)=n)(hn0:0<n)(hnb:n≤1000000){nm:Nm}(hB:fS H nm):
  aL KC (aE KC) 49 [.ay nm 0,rg,sg, .pure (.int .i64 w)] c H=
   some (.pure (.tuple [.agg (fV r s w (bJ n r.aa.length r.ah.length w) (bD H nm)).1.1.row, .bool (fV r s w (bJ n r.aa.length r.ah.length w) (bD H nm)).1.2]),H.set nm (bz (fV r s w (bJ n r.aa.length r.ah.length w) (bD H nm)).2)):=by
 have hlt:=gT hB;rw [tq KC rfl rfl,aaE hR hS (show pK H (.pure (.int .i64 w)) (.int .i64 w)from rfl)]
 have hget:=xB hB;have hE:fS ((hY H).set nm (bz (bD H nm))) nm:=kZ (by rw [dz];exact hlt);have hWE:bD ((hY H).set nm (bz (bD H nm))) nm=bD H nm:=kY (by rw [dz];exact hlt);have M:=IC (c:=c) (H:=(hY H).set nm (bz (bD H nm))) r s w n hs hw hpl htl hwide hn hn0 hnb hE;rw [hWE]at M;generalize fV r s w (bJ n r.aa.length r.ah.length w) (bD H nm)=res at M⊢;have hgs:((hY H).set nm (bz res.2)).get nm=some (bz res.2):=aj.gV (by rw [dz];exact hlt);have hfl: ∀w,oO [.pure (.int .u64 w)]=true:=fun w=>rfl;unfold iP;simp only [mW,hget,bz];simp only [bz]at M hgs;simp [oO,A0,jo,M,hgs,lO,vR,sS,pW,oP,mb,refs,fT,dX,dedup,lN,aj.length_set,ak.row]
theorem N8 (L k1 k2 k3:Nat)(s:aw):T6 L k1 k2 k3 s=lD (L,k1) (L,k2) (L,k3) s:=rfl
theorem EO {rg:GV} (r:aA) (hR:pK H rg (.agg r.row)) (hp0:r.ah≠[]) (ht0:r.aa≠[]) (hpl:r.ah.length≤1000000) (htl:r.aa.length≤1000000) (hH:0<H.length)
  (hf1:H.get (H.length-1,aq c 22)=none) (hf2:H.get (H.length-1,aq c 27)=none) (hf3:H.get (H.length-1,aq c 53)=none):
  aL KC (aE KC) 48 [rg] c H=some (lD (H.length-1,aq c 22) (H.length-1,aq c 27) (H.length-1,aq c 53) (aF r),
   cv H (H.length-1,aq c 22) (H.length-1,aq c 27) (H.length-1,aq c 53) 0 0 0 (aF r)):=by
 rw [tq KC rfl rfl,acB hR];have F:=FQ (c:=c) (H:=hY H) r hp0 ht0 hpl htl (by rw [dz];exact hH) (nE _ _) (nE _ _) (nE _ _);simp only [dz]at F;have hL:H.length-1<(hY H).length:=(by rw [dz];omega);have hL':H.length-1<H.length:=(by omega);have pq:aq c 22≠aq c 27:=(by unfold aq;omega);have nX:aq c 22≠aq c 53:=(by unfold aq;omega);have mT:aq c 27≠aq c 53:=(by unfold aq;omega);have k1:(H.length-1,aq c 27)≠((H.length-1,aq c 22):Nm):=fun e=>pq (Prod.mk.inj e).2.symm;have k2:(H.length-1,aq c 53)≠((H.length-1,aq c 22):Nm):=fun e=>nX (Prod.mk.inj e).2.symm;have k3:(H.length-1,aq c 53)≠((H.length-1,aq c 27):Nm):=fun e=>mT (Prod.mk.inj e).2.symm;generalize hE:((((hY H).set (H.length-1,aq c 22) (.arr 1 ((aF r).ah.map aG) 0 false)).set (H.length-1,aq c 27) (.arr 2 ((aF r).ao.map aH.row) 0 false)).set (H.length-1,aq c 53) (.arr 2 ((aF r).aa.map bB.row) 0 false))=E at F;have q1:E.get (H.length-1,aq c 22)=some (.arr 1 ((aF r).ah.map aG) 0 false):=(by rw [←hE,aj.aJ _ k2.symm,aj.aJ _ k1.symm];exact aj.gV hL);have q2:E.get (H.length-1,aq c 27)=some (.arr 2 ((aF r).ao.map aH.row) 0 false):=(by rw [←hE,aj.aJ _ k3.symm];exact aj.gV (by rw [aj.length_set];exact hL));have q3:E.get (H.length-1,aq c 53)=some (.arr 2 ((aF r).aa.map bB.row) 0 false):=(by rw [←hE];exact aj.gV (by rw [aj.length_set,aj.length_set];exact hL));have g2: ∀b,(H.set (H.length-1,aq c 22) b).get (H.length-1,aq c 27)=none:=fun b=>(aj.aJ b k1).trans hf2;have g3: ∀b b',((H.set (H.length-1,aq c 22) b).set (H.length-1,aq c 27) b').get (H.length-1,aq c 53)=none:=fun b b'=>(aj.aJ b' k3).trans ((aj.aJ b k2).trans hf3);have fr1: ∀l:List Int,hZ (l.map aG)=true:=fun l=>by induction l with|nil=>rfl|cons a l ih=>simp [hZ,mb,jo,aG,ih]
 have fr2: ∀l:List aH,hZ (l.map aH.row)=true:=fun l=>by induction l with|nil=>rfl|cons a l ih=>simp [hZ,mb,jo,aH.row,ih]
 have fr3: ∀l:List bB,hZ (l.map bB.row)=true:=fun l=>by induction l with|nil=>rfl|cons a l ih=>simp [hZ,mb,jo,bB.row,ih]
 unfold iP;simp [mW,F,N8,lD,lO,vR,sS,A4,pW,oP,refs,fT,dX,dedup,lN,pq,nX,mT,pq.symm,nX.symm,mT.symm,q1,q2,q3,hf1,g2,g3,fr1,fr2,fr3,cv]
theorem Gx {sg ag bg:GV} {s:aw} {w v:Nat} {a b:ak} (hS:pK H sg (.agg s.row)) (hA:pK H ag (.agg a.row)) (hB:pK H bg (.agg b.row)) (hp:w<s.ah.length) (hh:w<s.ao.length) (hw:a.aN=w) (ha:a.hand=0∨a.hand=1)
  (hp2:v<s.ah.length) (hh2:v<s.ao.length) (hw2:b.aN=v) (hb:b.hand=0∨b.hand=1) (hH:0<H.length):
  aL KC (aE KC) 53 [sg,ag,bg] c H=some (.pure (.bool (qe s w a v b)),H):=
 iD KC rfl rfl (aaD hS hA hB) rfl hH (fun H hH=>ID (c:=c) hp hh hw ha hp2 hh2 hw2 hb hH) rfl
end
section
variable {c:Nat} {H:aj}
structure iG (r:aA):Prop where
 p:r.ah.length≤1000000
 t:r.aa.length≤1000000
 s:r.seen.length≤1000000
 l:r.br.length≤1000000
 a:r.ai.length≤1000000
theorem MH {a b:GV}{p q:PV}(h1:pK H a p)(h2:pK H b q):(bs H [a,b]).1.map canon=[.pure p, .pure q]:=by
 obtain⟨x1,y1⟩:=m0 h1;obtain⟨x2,y2⟩:=m0 (rI y1 h2);rw [iv,x1,iv,x2];rfl
end
section
def aU (hs:List aH)(w:Nat)(hand:Int):Int:=if hand=0 then (hs.getD w bA).l else (hs.getD w bA).r
theorem cC (s:aw)(w:Nat)(hand:Int):bG s w hand=aU s.ao w hand:=rfl
def uo (h:aH)(t:Int):Nat:=(if h.l=t then 1 else 0)+(if h.r=t then 1 else 0)
def fM:List aH→Int→Nat
 | [],_=>0
 |h::l,t=>uo h t+fM l t
theorem BQ: ∀(l:List aH) (w:Nat) (h:aH) (t:Int),w<l.length→fM (l.set w h) t+uo (l.getD w bA) t=fM l t+uo h t
 | [],w,h,t,hw=>by simp at hw
 |x::l,0,h,t,hw=>by simp [fM];omega
 |x::l,w+1,h,t,hw=>by
  have:=BQ l w h t (by simpa using hw);simp only [List.set_cons_succ,fM,List.getD_cons_succ]at this⊢;omega
theorem so (l:List aH)(w:Nat)(hand v t:Int)(hw:w<l.length):fM (bj l w hand v) t+(if aU l w hand=t then 1 else 0)=fM l t+(if v=t then 1 else 0):=by
 unfold bj;have:=BQ l w (if hand=0 then ⟨v,(l.getD w bA).r⟩else ⟨(l.getD w bA).l,v⟩) t hw;unfold aU;by_cases h:hand=0
 ·simp only [h,if_true,uo]at this⊢;omega
 ·simp only [h,if_false,uo]at this⊢;omega
theorem BR: ∀(l:List aH) (w:Nat) (t:Int),w<l.length→uo (l.getD w bA) t≤fM l t
 | [],w,t,hw=>by simp at hw
 |x::l,0,t,hw=>by simp [fM]
 |x::l,w+1,t,hw=>by
  have:=BR l w t (by simpa using hw);simp only [fM,List.getD_cons_succ]at this⊢;omega
theorem N9 (l:List aH)(w:Nat)(hand t:Int)(hw:w<l.length)(h:aU l w hand=t):1≤fM l t:=by
 have:=BR l w t hw;unfold aU at h;unfold uo at this;split at h
 ·rw [if_pos h]at this;omega
 ·rw [if_pos h]at this;omega
theorem jY (l:List aH)(w:Nat)(hand v:Int):(bj l w hand v).length=l.length:=by simp [bj]
theorem eQ {l:List aH}{w:Nat}{hand v:Int}(p:Nat)(hw:w<l.length):(bj l w hand v).getD p bA=if p=w then (if hand=0 then ⟨v,(l.getD w bA).r⟩else ⟨(l.getD w bA).l,v⟩)else l.getD p bA:=by
 unfold bj;by_cases h:p=w
 ·subst h;simp [List.getD_eq_getElem?_getD,hw]
 ·have h': ¬w=p:=fun e=>h e.symm;simp [List.getD_eq_getElem?_getD,List.getElem?_set,h,h']
theorem Cd {l:List aH}{w:Nat}{hand v:Int}(p:Nat)(hd:Int)(hw:w<l.length)(h0:hand=0∨hand=1)(h1:hd=0∨hd=1):aU (bj l w hand v) p hd=if p=w∧hd=hand then v else aU l p hd:=by
 unfold aU;rw [eQ p hw];by_cases h:p=w
 ·subst h;rcases h0 with rfl|rfl<;>rcases h1 with rfl|rfl<;>simp
 ·simp [h]
theorem aM {α:Type}{l:List α}{i:Nat}{d:α}(h:i<l.length):l.getD i d=l[i]:=by simp [List.getD_eq_getElem?_getD,h]
theorem wI {α:Type}(l:List α)(i:Nat)(d:α):l.set i (l.getD i d)=l:=by
 by_cases h:i<l.length
 ·rw [aM h];simp
 ·exact List.set_eq_of_length_le (by omega)
theorem U3: ∀q:Fin 16,∀b∈[(1:Int),2,4],(if ((IntKind.i64.wrap (((q.1:Nat):Int).tdiv b)).tmod 2==1)then 0≤IntKind.i64.wrap (((q.1:Nat):Int)-b)∧IntKind.i64.wrap (((q.1:Nat):Int)-b)<16 else 0≤IntKind.i64.wrap (((q.1:Nat):Int)+b)∧IntKind.i64.wrap (((q.1:Nat):Int)+b)<16):=by decide
theorem Jh {ts:List bB}{t:Nat}{bit:Int}{on:Bool}(ht:t<ts.length)(hs:0≤(ts.getD t aS).state∧(ts.getD t aS).state<16)(hb:bit=1∨bit=2∨bit=4):
  ∃st,0≤st∧st<16∧dm ts t bit on=ts.set t ⟨(ts.getD t aS).cell,st⟩:=by
 rw [jw];by_cases h:eS ts t bit=on
 ·rw [if_pos h];refine⟨_,hs.1,hs.2, ?_⟩;exact(wI ts t aS).symm
 ·rw [if_neg h];have hm:bit∈[(1:Int),2,4]:=(by simp;exact hb);have h0:decide ((0:Int)≤t)=true:=(by simp);rw [iK,h0,Bool.true_and]at h;simp only [Int.toNat_natCast]at h;obtain⟨q,hq⟩:=Int.eq_ofNat_of_zero_le hs.1;have hq16:q<16:=(by omega);have B:=U3 ⟨q,hq16⟩ bit hm;simp only [←hq]at B;cases on
  ·have h':((IntKind.i64.wrap ((ts.getD t aS).state.tdiv bit)).tmod 2==1)=true:=(by simpa using h);rw [if_pos h']at B;exact⟨_,B.1,B.2,by simp⟩
  ·have h': ¬((IntKind.i64.wrap ((ts.getD t aS).state.tdiv bit)).tmod 2==1)=true:=(by simpa using h);rw [if_neg h']at B;exact⟨_,B.1,B.2,by simp⟩
structure fR (r:aA)(s:aw):Prop extends FN r s where
 pr: ∀x∈s.ah,0≤x∧x<r.wide*r.deep
 pn:s.ah.Nodup
 th: ∀t:Nat,t<s.aa.length→(fM s.ao t=1∧(s.aa.getD t aS).cell= -1)∨(fM s.ao t=0∧0≤(s.aa.getD t aS).cell∧(s.aa.getD t aS).cell<r.wide*r.deep)
 st: ∀t:Nat,t<s.aa.length→0≤(s.aa.getD t aS).state∧(s.aa.getD t aS).state<16
structure AB (r:aA)(w:Nat)(a:ak):Prop where
 aN:a.aN=w
 wl:w<r.ah.length
 hand:a.hand=0∨a.hand=1
 kind:1≤a.kind∧a.kind≤8
 take:a.kind=2→ ∃t:Nat,a.bd=t∧t<r.aa.length
 pL:a.kind=4→ ∃o:Nat,a.other=o∧o<r.ah.length∧o≠w
 step:a.kind=1→0≤a.cell∧a.cell<r.wide*r.deep
 form:nK a=true
theorem fW {r:aA}{s:aw}(h:FN r s){w:Nat}{hand:Int}(hw:w<r.ah.length):aU s.ao w hand<s.aa.length∧ -1≤aU s.ao w hand:=by
 have hl:w<s.ao.length:=(by rw [h.hl];exact hw);have:=h.hr w hl;unfold aU;rw [aM hl];split
 ·exact⟨this.1,this.2.2.1⟩
 ·exact⟨this.2.1,this.2.2.2⟩
theorem DJ {l:List Int}(hn:l.Nodup){w:Nat}{c:Int}(hc:c∉l):(l.set w c).Nodup:=by
 induction l generalizing w with
 |nil=>simp
 |cons x l ih=>
  simp only [List.mem_cons,not_or]at hc;rw [List.nodup_cons]at hn
  cases w with
  |zero=>simp [hc.2,hn.2]
  |succ w=>
   rw [List.set_cons_succ,List.nodup_cons];refine⟨fun h=> ?_,ih hn.2 hc.2⟩;rcases List.mem_or_eq_of_mem_set h with h|h
   ·exact hn.1 h
   ·exact hc.1 h.symm
section
variable {r:aA} {s:aw} {w:Nat} {a:ak}
theorem lI (h:a.kind=1):cR s w a={s with ah:=s.ah.set w a.cell}:=by rw [iq,if_pos h]
theorem o8 (h:a.kind=2):cR s w a={s with ao:=bj s.ao w a.hand a.bd,aa:=s.aa.set a.bd.toNat ⟨-1,(s.aa.getD a.bd.toNat aS).state⟩}:=by rw [iq,if_neg (by omega),if_pos h]
theorem mo (h:a.kind=3):cR s w a={s with ao:=bj s.ao w a.hand (-1),aa:=s.aa.set (aU s.ao w a.hand).toNat ⟨s.ah.getD w 0,(s.aa.getD (aU s.ao w a.hand).toNat aS).state⟩}:=by rw [iq,if_neg (by omega),if_neg (by omega),if_pos h];rfl
theorem o9 (h:a.kind=4):cR s w a={s with ao:=bj (bj s.ao a.other.toNat (dM s.ao a.other.toNat) (aU s.ao w a.hand)) w a.hand (-1)}:=by rw [iq,if_neg (by omega),if_neg (by omega),if_neg (by omega),if_pos h];rfl
theorem pe (h:a.kind=5):cR s w a={s with aa:=dm s.aa (aU s.ao w (1-a.hand)).toNat 1 true}:=by rw [iq,if_neg (by omega),if_neg (by omega),if_neg (by omega),if_neg (by omega),if_pos h];rfl
theorem pf (h:a.kind=6):cR s w a={s with aa:=dm (dm (dm s.aa (aU s.ao w a.hand).toNat 2 false) (aU s.ao w a.hand).toNat 1 false) (aU s.ao w (1-a.hand)).toNat 2 true}:=by rw [iq,if_neg (by omega),if_neg (by omega),if_neg (by omega),if_neg (by omega),if_neg (by omega),if_pos h];rfl
theorem pg (h:a.kind=7):cR s w a={s with aa:=dm s.aa (aU s.ao w a.hand).toNat 4 true}:=by rw [iq,if_neg (by omega),if_neg (by omega),if_neg (by omega),if_neg (by omega),if_neg (by omega),if_neg (by omega),if_pos h];rfl
theorem pj (h:a.kind=8):cR s w a={s with aa:=dm s.aa (aU s.ao w a.hand).toNat 4 false}:=by rw [iq,if_neg (by omega),if_neg (by omega),if_neg (by omega),if_neg (by omega),if_neg (by omega),if_neg (by omega),if_neg (by omega)];rfl
theorem zP (h:a.kind=1):bV r s w a=(!(s.ah.contains a.cell) && kz r.wide (s.ah.getD w 0) a.cell):=by rw [dP,if_pos h]
theorem DK (h:a.kind=2):bV r s w a=(aU s.ao w a.hand== -1 && (s.aa.getD a.bd.toNat aS).cell==s.ah.getD w 0):=by rw [dP,if_neg (by omega),if_pos h];rfl
theorem yL (h:a.kind=3):bV r s w a=decide (0≤aU s.ao w a.hand):=by rw [dP,if_neg (by omega),if_neg (by omega),if_pos h];rfl
theorem zQ (h:a.kind=4):bV r s w a=(decide (0≤aU s.ao w a.hand) && kz r.wide (s.ah.getD w 0) (s.ah.getD a.other.toNat 0) && decide (0≤dM s.ao a.other.toNat)):=by rw [dP,if_neg (by omega),if_neg (by omega),if_neg (by omega),if_pos h];rfl
theorem zR (h:a.kind=5):bV r s w a=(decide (0≤aU s.ao w a.hand) && (r.aa.getD (aU s.ao w a.hand).toNat df).pQ && decide (0≤aU s.ao w (1-a.hand))):=by rw [dP,if_neg (by omega),if_neg (by omega),if_neg (by omega),if_neg (by omega),if_pos h];rfl
theorem wJ (h:a.kind=6):bV r s w a=(eS s.aa (aU s.ao w a.hand) 2 && !eS s.aa (aU s.ao w a.hand) 4 && decide (0≤aU s.ao w (1-a.hand)) && !eS s.aa (aU s.ao w (1-a.hand)) 2 && !eS s.aa (aU s.ao w (1-a.hand)) 4):=by rw [dP,if_neg (by omega),if_neg (by omega),if_neg (by omega),if_neg (by omega),if_neg (by omega),if_pos h];rfl
theorem zS (h:a.kind=7):bV r s w a=(decide (0≤aU s.ao w a.hand) && !eS s.aa (aU s.ao w a.hand) 4):=by rw [dP,if_neg (by omega),if_neg (by omega),if_neg (by omega),if_neg (by omega),if_neg (by omega),if_neg (by omega),if_pos h];rfl
theorem zT (h:a.kind=8):bV r s w a=eS s.aa (aU s.ao w a.hand) 4:=by rw [dP,if_neg (by omega),if_neg (by omega),if_neg (by omega),if_neg (by omega),if_neg (by omega),if_neg (by omega),if_neg (by omega)];rfl
theorem mU (h:1≤a.kind∧a.kind≤8):a.kind=1∨a.kind=2∨a.kind=3∨a.kind=4∨a.kind=5∨a.kind=6∨a.kind=7∨a.kind=8:=by omega
theorem BS {ts:List bB}{x b:Int}(h:eS ts x b=true):0≤x:=by
 rw [iK]at h;simp at h;exact h.1
end
theorem oc {r:aA}{s:aw}{w:Nat}{a:ak}(hS:fR r s)(hA:AB r w a)(hp:bV r s w a=true):EI s w a:=by
 have e1:=hS.pl;have e2:=hS.hl;have e3:=hS.tl;have wl:=hA.wl;have R0:=fun(hd:Int)=>fW hS.toFN (w:=w) (hand:=hd) wl;have nat: ∀x:Int,0≤x→x<s.aa.length→ ∃t:Nat,x=t∧t<s.aa.length:=fun x h1 h2=>⟨x.toNat,by omega,by omega⟩;have held:3≤a.kind→0≤aU s.ao w a.hand:=fun h3=>by
  rcases mU hA.kind with k|k|k|k|k|k|k|k
  ·omega
  ·omega
  ·rw [yL k]at hp;simpa using hp
  ·rw [zQ k]at hp;simp at hp;exact hp.1.1
  ·rw [zR k]at hp;simp at hp;exact hp.1.1
  ·rw [wJ k]at hp;simp at hp;exact BS hp.1.1.1.1
  ·rw [zS k]at hp;simp at hp;exact hp.1
  ·rw [zT k]at hp;exact BS hp
 refine⟨by omega,by omega,hA.aN,hA.hand,hA.kind,fun h=> ?_,fun h=>nat _ (held h) (R0 _).1,fun h=> ?_,fun h=>nat _ ?_ (R0 _).1⟩
 ·obtain⟨t,h1,h2⟩:=hA.take h;exact⟨t,h1,by omega⟩
 ·obtain⟨o,h1,h2,h3⟩:=hA.pL h;rw [zQ h,h1]at hp;simp at hp;refine⟨o,h1,by omega,h3, ?_⟩;have:=hp.2;unfold dM at this⊢;split
  ·exact .inl rfl
  ·rename_i hh;rw [if_neg hh]at this;split
   ·exact .inr rfl
   ·rename_i hh2;rw [if_neg hh2]at this;omega
 ·show 0≤aU s.ao w (1-a.hand)
  rcases h with h|h
  ·rw [zR h]at hp;simp at hp;exact hp.2
  ·rw [wJ h]at hp;simp at hp;exact hp.1.1.2
theorem cell_of {r:aA}{s:aw}(hS:fR r s){w:Nat}(hw:w<r.ah.length):0≤s.ah.getD w 0∧s.ah.getD w 0<r.wide*r.deep:=by
 have hl:w<s.ah.length:=(by rw [hS.pl];exact hw);rw [aM hl];exact hS.pr _ (List.getElem_mem hl)
theorem fR.U4 {r:aA}{s:aw}(hS:fR r s)(ts:List bB)(hl:ts.length=s.aa.length)(hc: ∀t:Nat,t<s.aa.length→(ts.getD t aS).cell=(s.aa.getD t aS).cell∧0≤(ts.getD t aS).state∧(ts.getD t aS).state<16):fR r {s with aa:=ts} where
 pl:=hS.pl
 hl:=hS.hl
 tl:=hl.trans hS.tl
 hr:=fun i h=>by have:=hS.hr i h;rw [←hl]at this;exact this
 pr:=hS.pr
 pn:=hS.pn
 th:=fun t h=>by
  have h':t<s.aa.length:=(by rw [←hl];exact h);rw [(hc t h').1];exact hS.th t h'
 st:=fun t h=>(hc t (by rw [←hl];exact h)).2
theorem tD {α:Type}{l:List α}{i j:Nat}{x d:α}(hj:j<l.length):(l.set i x).getD j d=if i=j then x else l.getD j d:=by
 simp only [List.getD_eq_getElem?_getD,List.getElem?_set];split
 ·rename_i h;subst h;simp [hj]
 ·rfl
theorem qU {ts:List bB}{t:Nat}{bit:Int}{on:Bool}(hst: ∀t:Nat,t<ts.length→0≤(ts.getD t aS).state∧(ts.getD t aS).state<16)(ht:t<ts.length)(hb:bit=1∨bit=2∨bit=4):
  (dm ts t bit on).length=ts.length∧ ∀u:Nat,u<ts.length→((dm ts t bit on).getD u aS).cell=(ts.getD u aS).cell∧0≤((dm ts t bit on).getD u aS).state∧((dm ts t bit on).getD u aS).state<16:=by
 obtain⟨st,h1,h2,h3⟩:=Jh (on:=on) ht (hst t ht) hb;rw [h3];refine⟨by simp,fun u hu=> ?_⟩;rw [tD hu];split
 ·rename_i e;subst e;exact⟨rfl,h1,h2⟩
 ·exact⟨rfl,hst u hu⟩
theorem fR.set {r:aA}{s:aw}(hS:fR r s){t:Nat}{bit:Int}{on:Bool}(ht:t<s.aa.length)(hb:bit=1∨bit=2∨bit=4):fR r {s with aa:=dm s.aa t bit on}:=by
 obtain⟨a,b⟩:=qU (on:=on) hS.st ht hb;exact hS.U4 _ a b
theorem fR.Q1 {r : aA} {s : aw} {w : Nat} {a : ak} (hS : fR r s) (hA : AB r w a) (hp : bV r s w a = true) : fR r (cR s w a) := by
  have D := oc hS hA hp
  have e1 := hS.pl
  have e2 := hS.hl
  have e3 := hS.tl
  have wl := hA.wl
  have hh := hA.hand
  have hk := hA.kind
  have hwh : w < s.ao.length := by omega
  have hrp : ∀ v : Int, -1 ≤ v → v < s.aa.length → ∀ i (h : i < (bj s.ao w a.hand v).length), (bj s.ao w a.hand v)[i].l < s.aa.length ∧ (bj s.ao w a.hand v)[i].r < s.aa.length ∧ -1 ≤ (bj s.ao w a.hand v)[i].l ∧ -1 ≤ (bj s.ao w a.hand v)[i].r := fun v h1 h2 i hi => by
    rw [← aM (d := bA) hi, eQ i hwh]
    have hi' : i < s.ao.length := by simpa [bj] using hi
    have q := hS.hr i hi'
    split
    · rename_i e; subst e
      rw [aM hi']
      split
      · exact ⟨h2, q.2.1, h1, q.2.2.2⟩
      · exact ⟨q.1, h2, q.2.2.1, h1⟩
    · rw [aM hi']; exact q
  rcases mU hA.kind with k1 | k2 | k3 | k4 | k5 | k6 | k7 | k8
  · rw [lI k1]
    rw [zP k1] at hp
    obtain ⟨c1, c2⟩ := hA.step k1
    simp only [Bool.and_eq_true, Bool.not_eq_true', List.contains_eq_mem] at hp
    have hnc : a.cell ∉ s.ah := by simpa using hp.1
    exact { pl := by simpa using hS.pl, hl := hS.hl, tl := hS.tl, hr := hS.hr, pr := fun x hx => by
              rcases List.mem_or_eq_of_mem_set hx with h | h
              · exact hS.pr x h
              · subst h; exact ⟨c1, c2⟩
            pn := DJ hS.pn hnc, th := hS.th, st := hS.st }
  · obtain ⟨t, ht1, ht2⟩ := D.take k2
    have C := cell_of hS wl
    rw [DK k2] at hp
    rw [o8 k2]
    simp only [ht1, Int.toNat_natCast, Bool.and_eq_true, beq_iff_eq] at hp ⊢
    obtain ⟨p1, p2⟩ := hp
    have cnt := fun u => so s.ao w a.hand t u hwh
    have tt := hS.th t ht2
    have hrt := hrp t (by omega) (by omega)
    refine { pl := hS.pl, hl := by simpa [jY] using hS.hl, tl := by simpa using hS.tl, hr := fun i h => by rw [List.length_set]; exact hrt i h, pr := hS.pr, pn := hS.pn, th := fun u hu => ?_, st := fun u hu => ?_ }
    · have hu' : u < s.aa.length := by simpa using hu
      have q := hS.th u hu'
      have := cnt u
      rw [p1] at this
      rw [tD hu']
      by_cases e : t = u
      · subst e
        have e1 : ¬ ((-1 : Int) = (t : Int)) := by omega
        simp only [e1, if_true, if_false, eq_self] at this ⊢
        exact .inl ⟨by omega, trivial⟩
      · have e1 : ¬ ((-1 : Int) = (u : Int)) := by omega
        have e2 : ¬ ((t : Int) = (u : Int)) := by omega
        simp only [e, e1, e2, if_false] at this ⊢
        rw [show fM (bj s.ao w a.hand t) u = fM s.ao u by omega]
        exact q
    · have hu' : u < s.aa.length := by simpa using hu
      rw [tD hu']
      split
      · exact hS.st t ht2
      · exact hS.st u hu'
  · obtain ⟨t, ht1', ht2⟩ := D.held (by omega)
    rw [cC] at ht1'
    have C := cell_of hS wl
    rw [mo k3]
    simp only [ht1', Int.toNat_natCast]
    have cnt := fun u => so s.ao w a.hand (-1) u hwh
    have tt := hS.th t ht2
    have hrt := hrp (-1) (by omega) (by omega)
    have ca := N9 s.ao w a.hand t hwh ht1'
    refine { pl := hS.pl, hl := by simpa [jY] using hS.hl, tl := by simpa using hS.tl, hr := fun i h => by rw [List.length_set]; exact hrt i h, pr := hS.pr, pn := hS.pn, th := fun u hu => ?_, st := fun u hu => ?_ }
    · have hu' : u < s.aa.length := by simpa using hu
      have q := hS.th u hu'
      have := cnt u
      rw [ht1'] at this
      have e1 : ¬ ((-1 : Int) = (u : Int)) := by omega
      rw [tD hu']
      by_cases e : t = u
      · subst e
        simp only [e1, if_true, if_false] at this ⊢
        omega
      · have e2 : ¬ ((t : Int) = (u : Int)) := by omega
        simp only [e, e1, e2, if_false] at this ⊢
        rw [show fM (bj s.ao w a.hand (-1)) u = fM s.ao u by omega]
        exact q
    · have hu' : u < s.aa.length := by simpa using hu
      rw [tD hu']
      split
      · exact hS.st t ht2
      · exact hS.st u hu'
  · obtain ⟨t, ht1', ht2⟩ := D.held (by omega)
    rw [cC] at ht1'
    obtain ⟨o, o1, o2, o3, o4⟩ := D.pL k4
    rw [o9 k4]
    simp only [ht1', o1, Int.toNat_natCast]
    obtain ⟨tk, etk⟩ : ∃ tk, dM s.ao o = tk := ⟨_, rfl⟩
    rw [etk] at o4 ⊢
    have tkf : aU s.ao o tk = -1 := by
      unfold dM at etk
      unfold aU
      split at etk
      · subst etk; simpa using ‹_›
      · split at etk
        · subst etk; simpa using ‹_›
        · omega
    have hl1 : w < (bj s.ao o tk t).length := by rw [jY]; exact hwh
    have c1 := fun u => so s.ao o tk t u o2
    have c2 := fun u => so (bj s.ao o tk t) w a.hand (-1) u hl1
    have hw2 : aU (bj s.ao o tk t) w a.hand = t := by
      rw [Cd w a.hand o2 o4 hh, if_neg (fun e => o3 e.1.symm)]; exact ht1'
    refine { pl := hS.pl, hl := by simpa [jY] using hS.hl, tl := hS.tl, hr := fun i h => ?_, pr := hS.pr, pn := hS.pn, th := fun u hu => ?_, st := hS.st }
    · rw [← aM (d := bA) h, eQ i hl1]
      have hi' : i < s.ao.length := by simpa [bj] using h
      have q := hS.hr i hi'
      have qw := hS.hr w hwh
      have ne : ¬ w = o := fun e => o3 e.symm
      have two : ((bj s.ao o tk t).getD i bA).l < s.aa.length ∧ ((bj s.ao o tk t).getD i bA).r < s.aa.length ∧ -1 ≤ ((bj s.ao o tk t).getD i bA).l ∧ -1 ≤ ((bj s.ao o tk t).getD i bA).r := by
        rw [eQ i o2]
        split
        · rename_i e; subst e
          rw [aM hi']
          split
          · exact ⟨by show (t : Int) < _; omega, q.2.1, by show (-1 : Int) ≤ t; omega, q.2.2.2⟩
          · exact ⟨q.1, by show (t : Int) < _; omega, q.2.2.1, by show (-1 : Int) ≤ t; omega⟩
        · rw [aM hi']; exact q
      split
      · rename_i e; subst e
        split
        · exact ⟨by show (-1 : Int) < _; omega, two.2.1, by show (-1 : Int) ≤ -1; omega, two.2.2.2⟩
        · exact ⟨two.1, by show (-1 : Int) < _; omega, two.2.2.1, by show (-1 : Int) ≤ -1; omega⟩
      · exact two
    · have q := hS.th u hu
      have d1 := c1 u
      have d2 := c2 u
      rw [hw2] at d2
      rw [tkf] at d1
      have e1 : ¬ ((-1 : Int) = (u : Int)) := by omega
      simp only [e1, if_false] at d1 d2
      show (fM (bj (bj s.ao o tk t) w a.hand (-1)) u = 1 ∧ _) ∨ (fM (bj (bj s.ao o tk t) w a.hand (-1)) u = 0 ∧ _)
      rw [show fM (bj (bj s.ao o tk t) w a.hand (-1)) u = fM s.ao u by omega]
      exact q
  · obtain ⟨q, q1, q2⟩ := D.xN (.inl k5)
    rw [cC] at q1
    rw [pe k5]
    simp only [q1, Int.toNat_natCast]
    exact hS.set q2 (.inl rfl)
  · obtain ⟨t, ht1', ht2⟩ := D.held (by omega)
    rw [cC] at ht1'
    obtain ⟨q, q1, q2⟩ := D.xN (.inr k6)
    rw [cC] at q1
    rw [pf k6]
    simp only [q1, ht1', Int.toNat_natCast]
    have S1 := hS.set (on := false) ht2 (.inr (.inl rfl) : (2 : Int) = 1 ∨ (2 : Int) = 2 ∨ (2 : Int) = 4)
    have S2 := S1.set (t := t) (on := false) (by simpa [dF] using ht2) (.inl rfl : (1 : Int) = 1 ∨ (1 : Int) = 2 ∨ (1 : Int) = 4)
    exact S2.set (t := q) (on := true) (by simpa [dF] using q2) (.inr (.inl rfl))
  · obtain ⟨t, ht1', ht2⟩ := D.held (by omega)
    rw [cC] at ht1'
    rw [pg k7]
    simp only [ht1', Int.toNat_natCast]
    exact hS.set ht2 (.inr (.inr rfl))
  · obtain ⟨t, ht1', ht2⟩ := D.held (by omega)
    rw [cC] at ht1'
    rw [pj k8]
    simp only [ht1', Int.toNat_natCast]
    exact hS.set ht2 (.inr (.inr rfl))
end
section
variable {c:Nat} {H:aj}
def lV (a b:Int):Int:=IntKind.i64.wrap (BitVec.ofInt 64 a &&& ~~~(BitVec.ofInt 64 b)).toNat
@[simp] theorem QY {K:Ctx}{t:TypeId}{a b:Int}:fu K .andNot t (.pure (.int .i64 a)) (.pure (.int .i64 b))=some (.int .i64 (lV a b)):=by
 simp only [fu,oK,lV];rfl
theorem Ji: ∀q:Fin 16,∀b∈[(2:Int),4],(UH .i64 ((q.1:Nat):Int) b==b)=((IntKind.i64.wrap (((q.1:Nat):Int).tdiv b)).tmod 2==1):=by decide+kernel
def aQ (r:aA)(s:aw):List PV:=[.int .i64 r.wide, .int .i64 r.deep, .slice (r.ah.map aW.row), .slice (r.aa.map bc.row), .slice (r.seen.map aG), .slice (r.br.map aG), .slice (r.ai.map ak.row), .slice (s.ah.map aG), .slice (s.ao.map aH.row), .slice (s.aa.map bB.row)]
theorem bF (a:ak):a.row=[.int .i64 a.a7, .int .i64 a.aN, .int .i64 a.kind, .int .i64 a.hand, .int .i64 a.bd, .int .i64 a.cell, .int .i64 a.other, .int .i64 a.bZ, .int .i64 a.gz]:=rfl
theorem BT {r:aA}{s:aw}{w:Nat}{a:ak}(hw:w<s.ao.length)(h1:a.aN=w)(h2:a.hand=0∨a.hand=1)(hH:0<H.length):
  bK KC (aE KC) 154 [.pure (.agg (aQ r s)), .pure (.agg a.row)] c H=some (.pure (.int .i64 (aU s.ao w a.hand)),H):=by
 refine aO (aK KC au Tryz.func154 rfl rfl Ms (by simp) hH ?_);rw [bF];unfold aQ aU;rw [aM hw];rcases h2 with h2|h2
 ·simp [h1,h2,hw,aH.row,ae]
 ·simp [h1,h2,hw,aH.row,ae]
theorem wK {r:aA}{s:aw}{w:Nat}{a:ak}(hw:w<s.ao.length)(h1:a.aN=w)(h2:a.hand=0∨a.hand=1)(hH:0<H.length):
  bK KC (aE KC) 153 [.pure (.agg (aQ r s)), .pure (.agg a.row)] c H=some (.pure (.int .i64 (aU s.ao w (1-a.hand))),H):=by
 refine aO (aK KC au Tryz.func153 rfl rfl Mr (by simp) hH ?_);rw [bF];unfold aQ aU;rw [aM hw];have w0:IntKind.i64.wrap (1-0)=1:=rfl;have w1:IntKind.i64.wrap (1-1)=0:=rfl;rcases h2 with h2|h2
 ·simp [h1,h2,hw,aH.row,ae,w0]
 ·simp [h1,h2,hw,aH.row,ae,w1]
theorem Jj {r:aA}{s:aw}{t:Nat}{b:Int}(ht:t<s.aa.length)(hs:0≤(s.aa.getD t aS).state∧(s.aa.getD t aS).state<16)(hb:b=2∨b=4)(hH:0<H.length):
  bK KC (aE KC) 157 [.pure (.agg (aQ r s)), .pure (.int .i64 t), .pure (.int .i64 b)] c H=some (.pure (.bool (eS s.aa t b)),H):=by
 refine aO (aK KC au Tryz.func157 rfl rfl Mw (by simp) hH ?_);have hd:=iK s.aa t b;simp only [Int.toNat_natCast,aM ht]at hd hs;obtain⟨q,hq⟩:=Int.eq_ofNat_of_zero_le hs.1;have e:=Ji ⟨q,by omega⟩ b (by simp;exact hb);simp only [←hq]at e;have h0:decide ((0:Int)≤t)=true:=(by simp);rw [h0,Bool.true_and,←e]at hd;unfold aQ;simp [ht,bB.row,ae,hd]
theorem BU (x:Int):(x=0∧x*x=0)∨(x=1∧x*x=1)∨(x= -1∧x*x=1)∨((x≠0∧x≠1∧x≠ -1)∧4≤x*x):=by
 by_cases h0:x=0
 ·subst h0;exact .inl ⟨rfl,rfl⟩
 by_cases h1:x=1
 ·subst h1;exact .inr (.inl ⟨rfl,rfl⟩)
 by_cases h2:x= -1
 ·subst h2;exact .inr (.inr (.inl ⟨rfl,rfl⟩))
 refine .inr (.inr (.inr ⟨⟨h0,h1,h2⟩, ?_⟩));rw [←Int.natAbs_mul_self];have:2≤x.natAbs:=(by omega);have:=Nat.mul_le_mul this this;omega
theorem QZ {x:Int}{n:Nat}(h1: -(n:Int)≤x)(h2:x≤n):0≤x*x∧x*x≤((n*n:Nat):Int):=by
 rw [←Int.natAbs_mul_self];have:x.natAbs≤n:=(by omega);have:=Nat.mul_le_mul this this;omega
theorem Oa {w a b:Int}(hw:1≤w)(hw6:w≤1000)(ha:0≤a)(ha2:a<1000000)(hb:0≤b)(hb2:b<1000000):
  (IntKind.i64.wrap (IntKind.i64.wrap (IntKind.i64.wrap (a.tmod w-b.tmod w)*IntKind.i64.wrap (a.tmod w-b.tmod w))+IntKind.i64.wrap (IntKind.i64.wrap (IntKind.i64.wrap (a.tdiv w)-IntKind.i64.wrap (b.tdiv w))*IntKind.i64.wrap (IntKind.i64.wrap (a.tdiv w)-IntKind.i64.wrap (b.tdiv w))))==1)=kz w a b:=by
 rw [yc];have h1:0≤a.tmod w:=Int.tmod_nonneg _ ha;have h2:a.tmod w<w:=Int.tmod_lt_of_pos _ (by omega);have h3:0≤b.tmod w:=Int.tmod_nonneg _ hb;have h4:b.tmod w<w:=Int.tmod_lt_of_pos _ (by omega);have h5:0≤a.tdiv w:=Int.tdiv_nonneg ha (by omega);have h6:a.tdiv w≤a:=Int.tdiv_le_self _ ha;have h7:0≤b.tdiv w:=Int.tdiv_nonneg hb (by omega);have h8:b.tdiv w≤b:=Int.tdiv_le_self _ hb;rw [dh (x:=a.tmod w-b.tmod w) (by omega) (by omega),dh (x:=a.tdiv w) (by omega) (by omega),dh (x:=b.tdiv w) (by omega) (by omega),dh (x:=a.tdiv w-b.tdiv w) (by omega) (by omega)];have hx1: -(1000:Int)≤a.tmod w-b.tmod w:=(by omega);have hx2:a.tmod w-b.tmod w≤1000:=(by omega);have hy1: -(1000000:Int)≤a.tdiv w-b.tdiv w:=(by omega);have hy2:a.tdiv w-b.tdiv w≤1000000:=(by omega);generalize a.tmod w-b.tmod w=x at hx1 hx2⊢;generalize a.tdiv w-b.tdiv w=y at hy1 hy2⊢;have qx:=QZ (n:=1000) hx1 hx2;have qy:=QZ (n:=1000000) hy1 hy2;rw [dh (x:=x*x) (by omega) (by omega),dh (x:=y*y) (by omega) (by omega),dh (x:=x*x+y*y) (by omega) (by omega)];have cx:=BU x;have cy:=BU y;rw [Bool.eq_iff_iff];simp only [Bool.or_eq_true,Bool.and_eq_true,beq_iff_eq];omega
theorem Gy {w d a b:Int}{x1 x2 x3 x4 x5:PV}(hw:1≤w)(hw6:w≤1000)(ha:0≤a)(ha2:a<1000000)(hb:0≤b)(hb2:b<1000000)(hH:0<H.length):
  bK KC (aE KC) 155 [.pure (.agg [.int .i64 w, .int .i64 d,x1,x2,x3,x4,x5]), .pure (.int .i64 a), .pure (.int .i64 b)] c H=some (.pure (.bool (kz w a b)),H):=by
 refine aO (aK KC au Tryz.func155 rfl rfl Mt (by simp) hH ?_);have e:=Oa hw hw6 ha ha2 hb hb2;have w0: ¬w=0:=(by omega);simp [w0,ae];exact e
theorem BV {w d a b:Int}{x1 x2 x3 x4 x5:PV}(hw:1≤w)(hw6:w≤1000)(ha:0≤a)(ha2:a<1000000)(hb:0≤b)(hb2:b<1000000)(hH:0<H.length):
  aL KC (aE KC) 155 [.pure (.agg [.int .i64 w, .int .i64 d,x1,x2,x3,x4,x5]), .pure (.int .i64 a), .pure (.int .i64 b)] c H=some (.pure (.bool (kz w a b)),H):=
 eF rfl rfl rfl rfl rfl hH fun H hH=>Gy hw hw6 ha ha2 hb hb2 hH
noncomputable def Jk:List Int→Int→Int:=nL fun l x=>oV (fun j=>l.getD j 0==x) l.length 0
theorem wL (l:List Int)(x:Int):Jk l x=oV (fun j=>l.getD j 0==x) l.length 0:=by rw [Jk,cN]
theorem DL (l:List Int)(x:Int)(hn:l.length≤1000000)(Q:GX→bN→Prop)(hH:0<H.length): ∀k i:Nat,i+k=l.length→
  (oV (fun j=>l.getD j 0==x) k i= -1→Q (.exit 0) ⟨[(4,aP)],H,19⟩)→(0≤oV (fun j=>l.getD j 0==x) k i→Q .ret ⟨[(4, .pure (.int .i64 (oV (fun j=>l.getD j 0==x) k i)))],H,19⟩)→
  gS KC au 131 (lp Tryz.f131 0) [0,1,7,8] [4] Q [(0, .pure (.slice (l.map aG))),(1, .pure (.int .i64 x)),(7, .pure (.int .i64 l.length)),(8, .pure (.int .i64 i))] H 19:=by
 intro k
 induction k with
 |zero=>
  intro i hi h1 h2;apply ax;conv=>arg 4;whnf
  have: ¬i<l.length:=(by omega);simp [this,hH];exact h1 rfl
 |succ k ih=>
  intro i hi h1 h2;have hia:i<l.length:=(by omega);have hw:=dh (x:=(i:Int)+1) (by omega) (by omega);have ih':=ih (i+1) (by omega);have hg:l.getD i 0=l[i]:=aM hia;unfold oV at h1 h2;simp only [hg]at h1 h2;apply ax;conv=>arg 4;whnf
  by_cases he:x=l[i]
  ·have he2:(l[i]==x)=true:=(by simp [he]);simp only [he2,if_true]at h1 h2;simp [hia,hH,aG,he];exact h2 (by omega)
  ·have he':(x==l[i])=false:=(by simpa using he);have he2: ¬(l[i]==x)=true:=(by simp;exact fun e=>he e.symm);rw [if_neg he2]at h1 h2;simp [hia,hH,aG,he',hw];simpa [aG]using ih' h1 h2
theorem sq (l:List Int)(x:Int)(hn:l.length≤1000000)(hH:0<H.length):aL KC (aE KC) 131 [.pure (.slice (l.map aG)), .pure (.int .i64 x)] c H=some (.pure (.int .i64 (Jk l x)),H):=by
 refine eF rfl rfl rfl rfl rfl hH fun H hH=> ?_;refine aO (aK KC au Tryz.func131 rfl rfl L8 (by simp) hH ?_);have hd:=wL l x;simp;refine DL (H:=[]::H) l x hn _ (by simp) l.length 0 (by omega) (fun h=> ?_) (fun h=> ?_)
 ·rw [←hd]at h;simp [h,ae]
 ·rw [←hd];simp [ae]
theorem nS (l:List Int)(x:Int)(hn:l.length≤1000000)(hH:0<H.length):aL KC (aE KC) 115 [.pure (.slice (l.map aG)), .pure (.int .i64 x)] c H=some (.pure (.bool (l.contains x)),H):=by
 refine eF rfl rfl rfl rfl rfl hH fun H hH=> ?_;refine aO (aK KC au Tryz.func115 rfl rfl LQ (by simp) hH ?_);have I:=fun c (H:aj) (hH:0<H.length)=>sq (c:=c) (H:=H) l x hn hH;have e:decide (0≤Jk l x)=l.contains x:=by
  rw [wL,Bool.eq_iff_iff,decide_eq_true_eq,oW,List.contains_iff_mem];constructor
  ·rintro⟨j,_,h2,h3⟩;have hj:j<l.length:=(by omega);rw [aM hj]at h3;have:l[j]=x:=(by simpa using h3);exact this▸List.getElem_mem hj
  ·intro h;obtain⟨j,hj,rfl⟩:=List.getElem_of_mem h;exact⟨j,by omega,by omega,by rw [aM hj];simp⟩
 simp only [List.contains_eq_mem]at e;simp [I,ae];simpa using e
theorem BW {r:aA}{s:aw}{w:Nat}(hw:w<s.ao.length)(hH:0<H.length):
  bK KC (aE KC) 156 [.pure (.agg (aQ r s)), .pure (.int .i64 w)] c H=some (.pure (.int .i64 (dM s.ao w)),H):=by
 refine aO (aK KC au Tryz.func156 rfl rfl Mv (by simp) hH ?_);have I:=fun c (H:aj) (hH:0<H.length)=>sq (c:=c) (H:=H) [s.ao[w].l,s.ao[w].r] (-1) (by simp) hH;have e:Jk [s.ao[w].l,s.ao[w].r] (-1)=dM s.ao w:=by
  rw [wL];unfold dM;rw [aM hw];simp [oV]
 rw [e]at I;simp [aG]at I;have gs: ∀a b:PV,kn KC 84 (.b7 [a,b]) none none none=some (.pure (.slice [[a],[b]])):=fun a b=>by
  have t53:ur Tryz.prog 84=some (2,3):=(by kernel_rfl);unfold kn;simp [chunks,t53]
 unfold aQ;simp [hw,aH.row,gs,I,ae]
end
section
variable {c:Nat} {H:aj}
structure WB (r:aA):Prop where
 w1:1≤r.wide
 w6:r.wide≤1000
 n6:r.wide*r.deep<1000000
 pl:r.ah.length≤1000000
 tl:r.aa.length≤1000000
section
variable {r:aA} {s:aw} {w:Nat} {a:ak}
theorem lW (hS:FN r s)(hA:AB r w a)(hH:0<H.length):aL KC (aE KC) 154 [.pure (.agg (aQ r s)), .pure (.agg a.row)] c H=some (.pure (.int .i64 (aU s.ao w a.hand)),H):=
 eF rfl rfl rfl rfl rfl hH fun H hH=>BT (by rw [hS.hl];exact hA.wl) hA.aN hA.hand hH
theorem tr (hS:FN r s)(hA:AB r w a)(hH:0<H.length):aL KC (aE KC) 153 [.pure (.agg (aQ r s)), .pure (.agg a.row)] c H=some (.pure (.int .i64 (aU s.ao w (1-a.hand))),H):=
 eF rfl rfl rfl rfl rfl hH fun H hH=>wK (by rw [hS.hl];exact hA.wl) hA.aN hA.hand hH
theorem wM (hS:fR r s){t:Nat}{b:Int}(ht:t<s.aa.length)(hb:b=2∨b=4)(hH:0<H.length):aL KC (aE KC) 157 [.pure (.agg (aQ r s)), .pure (.int .i64 t), .pure (.int .i64 b)] c H=some (.pure (.bool (eS s.aa t b)),H):=
 eF rfl rfl rfl rfl rfl hH fun H hH=>Jj ht (hS.st t ht) hb hH
theorem Ob {o:Nat}(ho:o<s.ao.length)(hH:0<H.length):aL KC (aE KC) 156 [.pure (.agg (aQ r s)), .pure (.int .i64 o)] c H=some (.pure (.int .i64 (dM s.ao o)),H):=
 eF rfl rfl rfl rfl rfl hH fun H hH=>BW ho hH
theorem DM (hS:fR r s)(hW:WB r)(hA:AB r w a)(hk:a.kind=1)(hH:0<H.length):
  aL KC (aE KC) 135 [.pure (.agg (aQ r s)), .pure (.agg a.row)] c H=some (.pure (.bool (bV r s w a)),H):=by
 refine eF rfl rfl rfl rfl rfl hH fun H hH=> ?_;refine aO (aK KC au Tryz.func135 rfl rfl Mc (by simp) hH ?_);have hwp:w<s.ah.length:=(by rw [hS.pl];exact hA.wl);have C1:=cell_of hS hA.wl;have C2:=hA.step hk;have n6:=hW.n6;have hd:=zP (r:=r) (s:=s) (w:=w) hk;rw [aM hwp]at hd C1;have N:=fun c (H:aj) (hH:0<H.length)=>BV (c:=c) (H:=H) (w:=r.wide) (d:=r.deep) (a:=s.ah[w]) (b:=a.cell) (x1:= .slice (r.ah.map aW.row)) (x2:= .slice (r.aa.map bc.row)) (x3:= .slice (r.seen.map aG)) (x4:= .slice (r.br.map aG)) (x5:= .slice (r.ai.map ak.row)) hW.w1 hW.w6 C1.1 (by omega) C2.1 (by omega) hH;have CT:=fun c (H:aj) (hH:0<H.length)=>nS (c:=c) (H:=H) s.ah a.cell (by rw [hS.pl];exact hW.pl) hH;rw [bF];unfold aQ
 cases hn:kz r.wide s.ah[w] a.cell with
 |false=>
  simp [hn]at hd;simp [hA.aN,hwp,aG,N,hn,ae,hd]
 |true=>
  rw [hn,Bool.and_true]at hd
  cases hc:s.ah.contains a.cell with
  |false=>
   rw [hc]at hd CT;simp [hA.aN,hwp,aG,N,hn,CT,ae,hd]
  |true=>
   rw [hc]at hd CT;simp [hA.aN,hwp,aG,N,hn,CT,ae,hd]
theorem DN (hS:fR r s)(hA:AB r w a)(hk:a.kind=2)(hH:0<H.length):
  aL KC (aE KC) 137 [.pure (.agg (aQ r s)), .pure (.agg a.row)] c H=some (.pure (.bool (bV r s w a)),H):=by
 refine eF rfl rfl rfl rfl rfl hH fun H hH=> ?_;refine aO (aK KC au Tryz.func137 rfl rfl Md (by simp) hH ?_);have hwp:w<s.ah.length:=(by rw [hS.pl];exact hA.wl);obtain⟨t,ht,htl⟩:=hA.take hk;have htl':t<s.aa.length:=(by rw [hS.tl];exact htl);have R:=fW hS.toFN (w:=w) (hand:=a.hand) hA.wl;have hd:=DK (r:=r) (s:=s) (w:=w) hk;rw [aM hwp,ht,Int.toNat_natCast,aM htl']at hd;have E:=fun c (H:aj) (hH:0<H.length)=>lW (c:=c) (H:=H) hS.toFN hA hH;rw [bF]at E⊢;unfold aQ at E⊢;by_cases h0:aU s.ao w a.hand<0
 ·have h1:aU s.ao w a.hand= -1:=(by omega);rw [h1]at hd E;simp at hd;simp [hA.aN,ht]at E;simp [hA.aN,hwp,aG,E,bB.row,ht,htl',ae,hd]
 ·have h1: ¬aU s.ao w a.hand= -1:=(by omega);have h1':(aU s.ao w a.hand== -1)=false:=(by simpa using h1);rw [h1',Bool.false_and]at hd;simp [hA.aN,ht]at E;simp [hA.aN,ht,E,h0,ae,hd]
theorem Gz (hS:fR r s)(hA:AB r w a)(hk:a.kind=3)(hH:0<H.length):
  aL KC (aE KC) 139 [.pure (.agg (aQ r s)), .pure (.agg a.row)] c H=some (.pure (.bool (bV r s w a)),H):=by
 refine eF rfl rfl rfl rfl rfl hH fun H hH=> ?_;refine aO (aK KC au Tryz.func139 rfl rfl Mf (by simp) hH ?_);have hd:=yL (r:=r) (s:=s) (w:=w) hk;have E:=fun c (H:aj) (hH:0<H.length)=>lW (c:=c) (H:=H) hS.toFN hA hH;rw [bF]at E⊢;unfold aQ at E⊢;simp [E,ae,hd]
theorem DP (hS:fR r s)(hW:WB r)(hA:AB r w a)(hk:a.kind=4)(hH:0<H.length):
  aL KC (aE KC) 141 [.pure (.agg (aQ r s)), .pure (.agg a.row)] c H=some (.pure (.bool (bV r s w a)),H):=by
 refine eF rfl rfl rfl rfl rfl hH fun H hH=> ?_;refine aO (aK KC au Tryz.func141 rfl rfl Mh (by simp) hH ?_);have hwp:w<s.ah.length:=(by rw [hS.pl];exact hA.wl);obtain⟨o,ho,hol,_⟩:=hA.pL hk;have hop:o<s.ah.length:=(by rw [hS.pl];exact hol);have hoh:o<s.ao.length:=(by rw [hS.hl];exact hol);have C1:=cell_of hS hA.wl;have C2:=cell_of hS hol;have n6:=hW.n6;have hd:=zQ (r:=r) (s:=s) (w:=w) hk;rw [aM hwp,ho,Int.toNat_natCast,aM hop]at hd;rw [aM hwp]at C1;rw [aM hop]at C2;have N:=fun c (H:aj) (hH:0<H.length)=>BV (c:=c) (H:=H) (w:=r.wide) (d:=r.deep) (a:=s.ah[w]) (b:=s.ah[o]) (x1:= .slice (r.ah.map aW.row)) (x2:= .slice (r.aa.map bc.row)) (x3:= .slice (r.seen.map aG)) (x4:= .slice (r.br.map aG)) (x5:= .slice (r.ai.map ak.row)) hW.w1 hW.w6 C1.1 (by omega) C2.1 (by omega) hH;have E:=fun c (H:aj) (hH:0<H.length)=>lW (c:=c) (H:=H) hS.toFN hA hH;have G:=fun c (H:aj) (hH:0<H.length)=>Ob (c:=c) (H:=H) (r:=r) hoh hH;rw [bF]at E⊢;unfold aQ at E G⊢;by_cases h0:0≤aU s.ao w a.hand
 ·cases hn:kz r.wide s.ah[w] s.ah[o]with
  |false=>
   simp [hn]at hd;simp [hA.aN,ho]at E;simp [hA.aN,hwp,aG,E,h0,N,hn,ho,hop,ae,hd]
  |true=>
   simp [hn,h0]at hd;simp [hA.aN,ho]at E;simp [hA.aN,hwp,aG,E,h0,N,hn,ho,hop,G,ae,hd]
 ·simp [h0]at hd;simp [hA.aN,ho]at E;simp [hA.aN,ho,E,h0,ae,hd]
theorem DQ (hS:fR r s)(hA:AB r w a)(hk:a.kind=5)(hH:0<H.length):
  aL KC (aE KC) 143 [.pure (.agg (aQ r s)), .pure (.agg a.row)] c H=some (.pure (.bool (bV r s w a)),H):=by
 refine eF rfl rfl rfl rfl rfl hH fun H hH=> ?_;refine aO (aK KC au Tryz.func143 rfl rfl Mi (by simp) hH ?_);have R:=fW hS.toFN (w:=w) (hand:=a.hand) hA.wl;have hd:=zR (r:=r) (s:=s) (w:=w) hk;have E:=fun c (H:aj) (hH:0<H.length)=>lW (c:=c) (H:=H) hS.toFN hA hH;have G:=fun c (H:aj) (hH:0<H.length)=>tr (c:=c) (H:=H) hS.toFN hA hH;rw [bF]at E G⊢;unfold aQ at E G⊢;by_cases h0:0≤aU s.ao w a.hand
 ·obtain⟨t,ht⟩:=Int.eq_ofNat_of_zero_le h0;have htl:t<r.aa.length:=(by have:=hS.tl;omega);rw [ht,Int.toNat_natCast,aM htl]at hd;rw [ht]at E;have ht0:(0:Int)≤t:=by omega
  cases hc:r.aa[t].pQ with
  |false=>
   simp [hc]at hd;simp [E,ht0,htl,bc.row,hc,ae,hd]
  |true=>
   simp [hc]at hd;simp [E,G,ht0,htl,bc.row,hc,ae,hd]
 ·simp [h0]at hd;simp [E,h0,ae,hd]
theorem DR (hS:fR r s)(hA:AB r w a)(hk:a.kind=6)(hH:0<H.length):
  aL KC (aE KC) 145 [.pure (.agg (aQ r s)), .pure (.agg a.row)] c H=some (.pure (.bool (bV r s w a)),H):=by
 refine eF rfl rfl rfl rfl rfl hH fun H hH=> ?_;refine aO (aK KC au Tryz.func145 rfl rfl Mk (by simp) hH ?_);have R:=fW hS.toFN (w:=w) (hand:=a.hand) hA.wl;have R2:=fW hS.toFN (w:=w) (hand:=1-a.hand) hA.wl;have hd:=wJ (r:=r) (s:=s) (w:=w) hk;have E:=fun c (H:aj) (hH:0<H.length)=>lW (c:=c) (H:=H) hS.toFN hA hH;have G:=fun c (H:aj) (hH:0<H.length)=>tr (c:=c) (H:=H) hS.toFN hA hH;have V:=fun(t:Nat) (ht:t<s.aa.length) (b:Int) (hb:b=2∨b=4) c (H:aj) (hH:0<H.length)=>wM (c:=c) (H:=H) hS ht hb hH;rw [bF]at E G⊢;unfold aQ at E G V⊢;have neg: ∀x b:Int,¬0≤x→eS s.aa x b=false:=fun x b h=>(by rw [iK,decide_eq_false h];rfl);by_cases h0:0≤aU s.ao w a.hand
 ·obtain⟨t,ht⟩:=Int.eq_ofNat_of_zero_le h0;have htl:t<s.aa.length:=(by omega);rw [ht]at hd E;have ht0:(0:Int)≤t:=(by omega);have V1:=V t htl 2 (.inl rfl);have V2:=V t htl 4 (.inr rfl);by_cases k0:0≤aU s.ao w (1-a.hand)
  ·obtain⟨u,hu⟩:=Int.eq_ofNat_of_zero_le k0;have hul:u<s.aa.length:=(by omega);rw [hu]at hd G;have hu0:(0:Int)≤u:=(by omega);have V3:=V u hul 2 (.inl rfl);have V4:=V u hul 4 (.inr rfl)
   cases x1:eS s.aa t 2 with
   |false=>
    rw [x1]at hd V1;simp at hd;simp [E,G,ht0,hu0,V1,ae,hd]
   |true=>
    cases x2:eS s.aa t 4 with
    |true=>
     rw [x1,x2]at hd;rw [x1]at V1;rw [x2]at V2;simp at hd;simp [E,G,ht0,hu0,V1,V2,ae,hd]
    |false=>
     cases x3:eS s.aa u 2 with
     |true=>
      rw [x1,x2,x3]at hd;rw [x1]at V1;rw [x2]at V2;rw [x3]at V3;simp at hd;simp [E,G,ht0,hu0,V1,V2,V3,ae,hd]
     |false=>
      rw [x1,x2,x3]at hd;rw [x1]at V1;rw [x2]at V2;rw [x3]at V3;simp at hd;simp [E,G,ht0,hu0,V1,V2,V3,V4,ae,hd]
  ·simp [k0]at hd;simp [E,G,ht0,k0,ae,hd]
 ·rw [neg _ _ h0]at hd;simp at hd;simp [E,h0,ae,hd]
theorem BX (hS:fR r s)(hA:AB r w a)(hk:a.kind=7)(hH:0<H.length):
  aL KC (aE KC) 147 [.pure (.agg (aQ r s)), .pure (.agg a.row)] c H=some (.pure (.bool (bV r s w a)),H):=by
 refine eF rfl rfl rfl rfl rfl hH fun H hH=> ?_;refine aO (aK KC au Tryz.func147 rfl rfl Mm (by simp) hH ?_);have R:=fW hS.toFN (w:=w) (hand:=a.hand) hA.wl;have hd:=zS (r:=r) (s:=s) (w:=w) hk;have E:=fun c (H:aj) (hH:0<H.length)=>lW (c:=c) (H:=H) hS.toFN hA hH;have V:=fun(t:Nat) (ht:t<s.aa.length) c (H:aj) (hH:0<H.length)=>wM (c:=c) (H:=H) hS ht (b:=4) (.inr rfl) hH;rw [bF]at E⊢;unfold aQ at E V⊢;by_cases h0:0≤aU s.ao w a.hand
 ·obtain⟨t,ht⟩:=Int.eq_ofNat_of_zero_le h0;have htl:t<s.aa.length:=(by omega);rw [ht]at hd E;have ht0:(0:Int)≤t:=(by omega);have V1:=V t htl;simp at hd;simp [E,ht0,V1,ae,hd]
 ·simp [h0]at hd;simp [E,h0,ae,hd]
theorem DS (hS:fR r s)(hA:AB r w a)(hk:a.kind=8)(hH:0<H.length):
  aL KC (aE KC) 149 [.pure (.agg (aQ r s)), .pure (.agg a.row)] c H=some (.pure (.bool (bV r s w a)),H):=by
 refine eF rfl rfl rfl rfl rfl hH fun H hH=> ?_;refine aO (aK KC au Tryz.func149 rfl rfl Mo (by simp) hH ?_);have R:=fW hS.toFN (w:=w) (hand:=a.hand) hA.wl;have hd:=zT (r:=r) (s:=s) (w:=w) hk;have E:=fun c (H:aj) (hH:0<H.length)=>lW (c:=c) (H:=H) hS.toFN hA hH;have V:=fun(t:Nat) (ht:t<s.aa.length) c (H:aj) (hH:0<H.length)=>wM (c:=c) (H:=H) hS ht (b:=4) (.inr rfl) hH;rw [bF]at E⊢;unfold aQ at E V⊢;by_cases h0:0≤aU s.ao w a.hand
 ·obtain⟨t,ht⟩:=Int.eq_ofNat_of_zero_le h0;have htl:t<s.aa.length:=(by omega);rw [ht]at hd E;have ht0:(0:Int)≤t:=(by omega);have V1:=V t htl;simp [E,ht0,V1,ae,hd]
 ·rw [iK,decide_eq_false h0]at hd;simp at hd;simp [E,h0,ae,hd]
theorem Cg {k:Nat}(hk:1≤k∧k≤8)(hH:0<H.length):aL KC (aE KC) 127 [.pure (.int .i64 k)] c H=some (.pure (.agg [.fn (135+2*(k-1)), .fn (136+2*(k-1))]),H):=by
 refine aO (bf KC au Tryz.func127 rfl rfl L4 rfl rfl rfl (by simp) hH ?_);obtain⟨k1,k8⟩:=hk
 match k,k1,k8 with
 |1,_,_=>simp [ae]
 |2,_,_=>simp [ae]
 |3,_,_=>simp [ae]
 |4,_,_=>simp [ae]
 |5,_,_=>simp [ae]
 |6,_,_=>simp [ae]
 |7,_,_=>simp [ae]
 |8,_,_=>simp [ae]
end
end
theorem BZ {l m:List Int}:gv l m=true↔ ∃x,x∈l∧x∈m:=by
 rw [j4];simp
theorem xj {l m:List Int}:gv l m=false↔ ∀x,x∈l→x∉m:=by
 rw [←Bool.not_eq_true,BZ];constructor
 ·intro h x h1 h2;exact h ⟨x,h1,h2⟩
 ·rintro h ⟨x,h1,h2⟩;exact h x h1 h2
structure Jn (t u:Touch):Prop where
 ap: ∀x,x∈t.ah→x∉u.ah
 a7: ∀x,x∈t.aa→x∉u.aa
 ac: ∀x,x∈t.cells→x∉u.cells
theorem Jn.symm {t u:Touch}(h:Jn t u):Jn u t:=⟨fun x a b=>h.ap x b a,fun x a b=>h.a7 x b a,fun x a b=>h.ac x b a⟩
theorem GA {t u:Touch}:yf t u=false↔Jn t u:=by
 rw [yg];simp only [Bool.or_eq_false_iff,xj];exact⟨fun h=>⟨h.1,h.2.1,h.2.2⟩,fun h=>⟨h.ap,h.a7,h.ac⟩⟩
theorem EG {s:aw}{w v:Nat}{a b:ak}:qe s w a v b=true↔Jn (cd s w a) (cd s v b):=by
 rw [v9,←GA];simp
theorem pk {s:aw}{w:Nat}{a:ak}(h:a.kind=1):cd s w a=⟨[a.aN],[],[s.ah.getD w 0,a.cell]⟩:=by rw [dL,if_pos h]
theorem wN {s:aw}{w:Nat}{a:ak}(h:a.kind=2):cd s w a=⟨[a.aN],[a.bd],[]⟩:=by rw [dL,if_neg (by omega),if_pos h]
theorem wO {s:aw}{w:Nat}{a:ak}(h:a.kind=4):cd s w a=⟨[a.aN,a.other],[aU s.ao w a.hand],[]⟩:=by rw [dL,if_neg (by omega),if_neg (by omega),if_pos h];rfl
theorem kR {s:aw}{w:Nat}{a:ak}(h:a.kind=5∨a.kind=6):cd s w a=⟨[a.aN],[aU s.ao w a.hand,aU s.ao w (1-a.hand)],[]⟩:=by rw [dL,if_neg (by omega),if_neg (by omega),if_neg (by omega),if_pos h];rfl
theorem gy {s:aw}{w:Nat}{a:ak}(h:a.kind=3∨a.kind=7∨a.kind=8):cd s w a=⟨[a.aN],[aU s.ao w a.hand],[]⟩:=by rw [dL,if_neg (by omega),if_neg (by omega),if_neg (by omega),if_neg (by omega)];rfl
theorem iw {α:Type}{l:List α}{i j:Nat}{x d:α}:(l.set i x).getD j d=if i=j∧j<l.length then x else l.getD j d:=by
 simp only [List.getD_eq_getElem?_getD,List.getElem?_set];by_cases h:i=j
 ·subst h;by_cases h2:i<l.length
  ·simp [h2]
  ·simp [h2]
 ·simp [h]
theorem gQ {ts:List bB}{t u:Nat}{bit:Int}{on:Bool}:(dm ts t bit on).getD u aS=if u=t∧u<ts.length then (dm ts t bit on).getD t aS else ts.getD u aS:=by
 rw [jw];by_cases h:eS ts t bit=on
 ·rw [if_pos h];split
  ·rename_i e;rw [e.1]
  ·rfl
 ·rw [if_neg h,iw,iw];by_cases e:u=t
  ·subst e;by_cases h2:u<ts.length<;>simp [h2]
  ·have: ¬t=u:=fun x=>e x.symm;simp [e,this]
theorem iW {ts us:List bB}{t:Nat}{b:Int}(h:us.getD t aS=ts.getD t aS):eS us t b=eS ts t b:=by
 rw [iK,iK];simp only [Int.toNat_natCast,h]
theorem nI {ts us:List bB}{t:Nat}{b:Int}{on:Bool}(hl:us.length=ts.length)(h:us.getD t aS=ts.getD t aS):(dm us t b on).getD t aS=(dm ts t b on).getD t aS:=by
 rw [jw,jw,iW h];split
 ·exact h
 ·rw [iw,iw,h,hl]
structure Ag (s s':aw)(P T:List Int):Prop where
 pl:s'.ah.length=s.ah.length
 hl:s'.ao.length=s.ao.length
 tl:s'.aa.length=s.aa.length
 pp: ∀i:Nat,(i:Int)∈P→s'.ah.getD i 0=s.ah.getD i 0
 ph: ∀i:Nat,(i:Int)∈P→s'.ao.getD i bA=s.ao.getD i bA
 tt: ∀i:Nat,(i:Int)∈T→s'.aa.getD i aS=s.aa.getD i aS
theorem kA {s:aw}{w:Nat}{a:ak}(hk:1≤a.kind∧a.kind≤8):(cR s w a).ah.length=s.ah.length∧(cR s w a).ao.length=s.ao.length∧(cR s w a).aa.length=s.aa.length:=by
 rcases mU hk with k|k|k|k|k|k|k|k
 ·rw [lI k];simp
 ·rw [o8 k];simp [jY]
 ·rw [mo k];simp [jY]
 ·rw [o9 k];simp [jY]
 ·rw [pe k];simp [dF]
 ·rw [pf k];simp [dF]
 ·rw [pg k];simp [dF]
 ·rw [pj k];simp [dF]
theorem GB {s:aw}{w:Nat}{a:ak}(D:EI s w a):
  (∀i:Nat,(i:Int)∉(cd s w a).ah→(cR s w a).ah.getD i 0=s.ah.getD i 0∧(cR s w a).ao.getD i bA=s.ao.getD i bA)∧
  (∀i:Nat,(i:Int)∉(cd s w a).aa→(cR s w a).aa.getD i aS=s.aa.getD i aS):=by
 have hw:=D.aN;have hh:=D.hh;have ne: ∀i:Nat,¬(i:Int)=a.aN→ ¬i=w:=fun i h e=>h (by rw [hw,e]);have ne': ∀i:Nat,¬(i:Int)=a.aN→ ¬w=i:=fun i h e=>h (by rw [hw,e]);rcases mU D.kind with k|k|k|k|k|k|k|k
 ·rw [lI k,pk k];refine⟨fun i hi=> ?_,fun i hi=>rfl⟩;simp only [List.mem_singleton]at hi;exact⟨by show (s.ah.set w a.cell).getD i 0=_;rw [iw,if_neg (fun h=>ne' i hi h.1)],rfl⟩
 ·obtain⟨t,e,_⟩:=D.take k;rw [o8 k,wN k];refine⟨fun i hi=> ?_,fun i hi=> ?_⟩
  ·simp only [List.mem_singleton]at hi;exact⟨rfl,by show (bj s.ao w a.hand a.bd).getD i bA=_;rw [eQ i hh,if_neg (ne i hi)]⟩
  ·simp only [List.mem_singleton,e]at hi;show (s.aa.set a.bd.toNat _).getD i aS=_
   rw [iw,e,if_neg (fun h=>hi (by have:=h.1;omega))]
 ·obtain⟨t,e,_⟩:=D.held (by omega);rw [cC]at e;rw [mo k,gy (.inl k)];refine⟨fun i hi=> ?_,fun i hi=> ?_⟩
  ·simp only [List.mem_singleton]at hi;exact⟨rfl,by show (bj s.ao w a.hand (-1)).getD i bA=_;rw [eQ i hh,if_neg (ne i hi)]⟩
  ·simp only [List.mem_singleton,e]at hi;show (s.aa.set (aU s.ao w a.hand).toNat _).getD i aS=_
   rw [iw,e,if_neg (fun h=>hi (by have:=h.1;omega))]
 ·obtain⟨o,e,o2,o3,o4⟩:=D.pL k;rw [o9 k,wO k];refine⟨fun i hi=> ?_,fun i hi=>rfl⟩;simp only [List.mem_cons,List.not_mem_nil,or_false,not_or]at hi;refine⟨rfl, ?_⟩;show (bj (bj s.ao a.other.toNat _ _) w a.hand (-1)).getD i bA=_
  have: ¬i=a.other.toNat:=fun h=>hi.2 (by rw [h,e];simp);rw [eQ i (by rw [jY];exact hh),if_neg (ne i hi.1),eQ i (by rw [e];simpa using o2),if_neg this]
 ·obtain⟨t,e,_⟩:=D.xN (.inl k);rw [cC]at e;rw [pe k,kR (.inl k)];refine⟨fun i hi=>⟨rfl,rfl⟩,fun i hi=> ?_⟩;simp only [List.mem_cons,List.not_mem_nil,or_false,not_or,e]at hi;show (dm s.aa (aU s.ao w (1-a.hand)).toNat 1 true).getD i aS=_
  rw [gQ,e,if_neg (fun h=>hi.2 (by rw [h.1];simp))]
 ·obtain⟨t,e,_⟩:=D.held (by omega);obtain⟨q,f,_⟩:=D.xN (.inr k);rw [cC]at e f;rw [pf k,kR (.inr k)];refine⟨fun i hi=>⟨rfl,rfl⟩,fun i hi=> ?_⟩;simp only [List.mem_cons,List.not_mem_nil,or_false,not_or,e,f]at hi;have h1: ¬i=t:=fun h=>hi.1 (by rw [h]);have h2: ¬i=q:=fun h=>hi.2 (by rw [h]);simp only [e,f,Int.toNat_natCast];rw [gQ,if_neg (fun h=>h2 h.1),gQ,if_neg (fun h=>h1 h.1),gQ,if_neg (fun h=>h1 h.1)]
 ·obtain⟨t,e,_⟩:=D.held (by omega);rw [cC]at e;rw [pg k,gy (.inr (.inl k))];refine⟨fun i hi=>⟨rfl,rfl⟩,fun i hi=> ?_⟩;simp only [List.mem_singleton,e]at hi;have h1: ¬i=t:=fun h=>hi (by rw [h]);simp only [e,Int.toNat_natCast];rw [gQ,if_neg (fun h=>h1 h.1)]
 ·obtain⟨t,e,_⟩:=D.held (by omega);rw [cC]at e;rw [pj k,gy (.inr (.inr k))];refine⟨fun i hi=>⟨rfl,rfl⟩,fun i hi=> ?_⟩;simp only [List.mem_singleton,e]at hi;have h1: ¬i=t:=fun h=>hi (by rw [h]);simp only [e,Int.toNat_natCast];rw [gQ,if_neg (fun h=>h1 h.1)]
theorem cG {hs hs':List aH}{w:Nat}{hand:Int}(h:hs'.getD w bA=hs.getD w bA):aU hs' w hand=aU hs w hand:=by
 unfold aU;rw [h]
theorem sr {hs hs':List aH}{w:Nat}(h:hs'.getD w bA=hs.getD w bA):dM hs' w=dM hs w:=by
 unfold dM;rw [h]
theorem GC {r:aA}{s s':aw}{w:Nat}{a:ak}(D:EI s w a)(h:Ag s s' (cd s w a).ah (cd s w a).aa)(hw:w<r.ah.length):
  cd s' w a=cd s w a∧((a.kind=1→a.cell∉s'.ah)→bV r s w a=true→bV r s' w a=true)∧
  Ag (cR s w a) (cR s' w a) (cd s w a).ah (cd s w a).aa:=by
 have hwho:=D.aN;have hh:=D.hh;have hh':w<s'.ao.length:=(by rw [h.hl];exact hh);have wp:(w:Int)∈(cd s w a).ah→s'.ah.getD w 0=s.ah.getD w 0∧s'.ao.getD w bA=s.ao.getD w bA:=fun x=>⟨h.pp w x,h.ph w x⟩;have L:=kA (s:=s) (w:=w) D.kind;have L':=kA (s:=s') (w:=w) D.kind;have e1:=L'.1.trans (h.pl.trans L.1.symm);have e2:=L'.2.1.trans (h.hl.trans L.2.1.symm);have e3:=L'.2.2.trans (h.tl.trans L.2.2.symm);rcases mU D.kind with k|k|k|k|k|k|k|k
 ·rw [pk (s:=s) k]at wp h⊢;obtain⟨wp,wh⟩:=wp (by simp [hwho]);refine⟨by rw [pk k,wp],fun hc hp=> ?_,⟨e1,e2,e3,fun i hi=> ?_,fun i hi=> ?_,fun i hi=> ?_⟩⟩
  ·rw [zP k]at hp⊢;rw [wp];simp only [Bool.and_eq_true]at hp⊢;exact⟨by simpa using hc k,hp.2⟩
  ·rw [lI k,lI k];show (s'.ah.set w a.cell).getD i 0=(s.ah.set w a.cell).getD i 0
   rw [iw,iw,h.pl,h.pp i hi]
  ·rw [lI k,lI k];exact h.ph i hi
  ·rw [lI k,lI k];exact h.tt i hi
 ·obtain⟨t,e,_⟩:=D.take k;rw [wN (s:=s) k]at wp h⊢;obtain⟨wp,wh⟩:=wp (by simp [hwho]);have ht:s'.aa.getD t aS=s.aa.getD t aS:=h.tt t (by simp [e]);refine⟨by rw [wN k],fun hc hp=> ?_,⟨e1,e2,e3,fun i hi=> ?_,fun i hi=> ?_,fun i hi=> ?_⟩⟩
  ·rw [DK k,e,Int.toNat_natCast]at hp⊢;rw [wp,cG wh,ht];exact hp
  ·rw [o8 k,o8 k];exact h.pp i hi
  ·rw [o8 k,o8 k];show (bj s'.ao w a.hand a.bd).getD i bA=(bj s.ao w a.hand a.bd).getD i bA
   rw [eQ i hh',eQ i hh,wh,h.ph i hi]
  ·rw [o8 k,o8 k];show (s'.aa.set a.bd.toNat _).getD i aS=(s.aa.set a.bd.toNat _).getD i aS
   rw [iw,iw,h.tl,h.tt i hi,e,Int.toNat_natCast,ht]
 ·obtain⟨t,e,_⟩:=D.held (by omega);rw [cC]at e;rw [gy (s:=s) (.inl k)]at wp h⊢;obtain⟨wp,wh⟩:=wp (by simp [hwho]);have ht:s'.aa.getD t aS=s.aa.getD t aS:=h.tt t (by simp [e]);have e':aU s'.ao w a.hand=t:=(cG wh).trans e;refine⟨by rw [gy (.inl k),e,e'],fun hc hp=> ?_,⟨e1,e2,e3,fun i hi=> ?_,fun i hi=> ?_,fun i hi=> ?_⟩⟩
  ·rw [yL k]at hp⊢;rw [cG wh];exact hp
  ·rw [mo k,mo k];exact h.pp i hi
  ·rw [mo k,mo k];show (bj s'.ao w a.hand (-1)).getD i bA=(bj s.ao w a.hand (-1)).getD i bA
   rw [eQ i hh',eQ i hh,wh,h.ph i hi]
  ·rw [mo k,mo k];show (s'.aa.set (aU s'.ao w a.hand).toNat _).getD i aS=(s.aa.set (aU s.ao w a.hand).toNat _).getD i aS
   rw [iw,iw,h.tl,h.tt i hi,e,e',Int.toNat_natCast,ht,wp]
 ·obtain⟨o,e,o2,o3,o4⟩:=D.pL k;rw [wO (s:=s) k]at wp h⊢;obtain⟨wp,wh⟩:=wp (by simp [hwho]);have op:s'.ah.getD o 0=s.ah.getD o 0:=h.pp o (by simp [e]);have oh:s'.ao.getD o bA=s.ao.getD o bA:=h.ph o (by simp [e]);refine⟨by rw [wO k,cG wh],fun hc hp=> ?_,⟨e1,e2,e3,fun i hi=> ?_,fun i hi=> ?_,fun i hi=> ?_⟩⟩
  ·rw [zQ k,e,Int.toNat_natCast]at hp⊢;rw [cG wh,wp,op,sr oh];exact hp
  ·rw [o9 k,o9 k];exact h.pp i hi
  ·rw [o9 k,o9 k];simp only [e,Int.toNat_natCast];have o2':o<s'.ao.length:=(by rw [h.hl];exact o2);have a1:w<(bj s'.ao o (dM s'.ao o) (aU s'.ao w a.hand)).length:=(by rw [jY];exact hh');have a2:w<(bj s.ao o (dM s.ao o) (aU s.ao w a.hand)).length:=(by rw [jY];exact hh);rw [eQ i a1,eQ i a2,eQ i o2',eQ i o2,eQ w o2',eQ w o2,wh,oh,sr oh,cG wh,h.ph i hi]
  ·rw [o9 k,o9 k];exact h.tt i hi
 ·obtain⟨t,e,_⟩:=D.xN (.inl k);rw [cC]at e;rw [kR (s:=s) (.inl k)]at wp h⊢;obtain⟨wp,wh⟩:=wp (by simp [hwho]);have ht:s'.aa.getD t aS=s.aa.getD t aS:=h.tt t (by simp [e]);have e':aU s'.ao w (1-a.hand)=t:=(cG wh).trans e;refine⟨by rw [kR (.inl k),cG wh,e',e],fun hc hp=> ?_,⟨e1,e2,e3,fun i hi=> ?_,fun i hi=> ?_,fun i hi=> ?_⟩⟩
  ·rw [zR k]at hp⊢;rw [cG wh,cG wh];exact hp
  ·rw [pe k,pe k];exact h.pp i hi
  ·rw [pe k,pe k];exact h.ph i hi
  ·rw [pe k,pe k];simp only [e,e',Int.toNat_natCast];rw [gQ,gQ (ts:=s.aa),h.tl,nI h.tl ht,h.tt i hi]
 ·obtain⟨t,e,_⟩:=D.held (by omega);obtain⟨q,f,_⟩:=D.xN (.inr k);rw [cC]at e f;rw [kR (s:=s) (.inr k)]at wp h⊢;obtain⟨wp,wh⟩:=wp (by simp [hwho]);have ht:s'.aa.getD t aS=s.aa.getD t aS:=h.tt t (by simp [e]);have hq:s'.aa.getD q aS=s.aa.getD q aS:=h.tt q (by simp [f]);have e':aU s'.ao w a.hand=t:=(cG wh).trans e;have f':aU s'.ao w (1-a.hand)=q:=(cG wh).trans f;refine⟨by rw [kR (.inr k),e,e',f,f'],fun hc hp=> ?_,⟨e1,e2,e3,fun i hi=> ?_,fun i hi=> ?_,fun i hi=> ?_⟩⟩
  ·rw [wJ k,e,f]at hp;rw [wJ k,e',f',iW ht,iW ht,iW hq,iW hq];exact hp
  ·rw [pf k,pf k];exact h.pp i hi
  ·rw [pf k,pf k];exact h.ph i hi
  ·rw [pf k,pf k];simp only [e,e',f,f',Int.toNat_natCast];have one: ∀(us ts:List bB),us.length=ts.length→ ∀(p:Nat) (b:Int) (on:Bool) (j:Nat),us.getD p aS=ts.getD p aS→us.getD j aS=ts.getD j aS→(dm us p b on).getD j aS=(dm ts p b on).getD j aS:=fun us ts hl p b on j hp hj=>by
    rw [gQ,gQ (ts:=ts),hl,nI hl hp,hj]
   have l1:(dm s'.aa t 2 false).length=(dm s.aa t 2 false).length:=(by simp only [dF,h.tl]);have l2:(dm (dm s'.aa t 2 false) t 1 false).length=(dm (dm s.aa t 2 false) t 1 false).length:=by simp only [dF,h.tl]
   have all: ∀j,s'.aa.getD j aS=s.aa.getD j aS→(dm (dm s'.aa t 2 false) t 1 false).getD j aS=(dm (dm s.aa t 2 false) t 1 false).getD j aS:=fun j hj=>
    one _ _ l1 t 1 false j (one _ _ h.tl t 2 false t ht ht) (one _ _ h.tl t 2 false j ht hj)
   exact one _ _ l2 q 2 true i (all q hq) (all i (h.tt i hi))
 ·obtain⟨t,e,_⟩:=D.held (by omega);rw [cC]at e;rw [gy (s:=s) (.inr (.inl k))]at wp h⊢;obtain⟨wp,wh⟩:=wp (by simp [hwho]);have ht:s'.aa.getD t aS=s.aa.getD t aS:=h.tt t (by simp [e]);have e':aU s'.ao w a.hand=t:=(cG wh).trans e;refine⟨by rw [gy (.inr (.inl k)),e',e],fun hc hp=> ?_,⟨e1,e2,e3,fun i hi=> ?_,fun i hi=> ?_,fun i hi=> ?_⟩⟩
  ·rw [zS k,e]at hp;rw [zS k,e',iW ht];exact hp
  ·rw [pg k,pg k];exact h.pp i hi
  ·rw [pg k,pg k];exact h.ph i hi
  ·rw [pg k,pg k];simp only [e,e',Int.toNat_natCast];rw [gQ,gQ (ts:=s.aa),h.tl,nI h.tl ht,h.tt i hi]
 ·obtain⟨t,e,_⟩:=D.held (by omega);rw [cC]at e;rw [gy (s:=s) (.inr (.inr k))]at wp h⊢;obtain⟨wp,wh⟩:=wp (by simp [hwho]);have ht:s'.aa.getD t aS=s.aa.getD t aS:=h.tt t (by simp [e]);have e':aU s'.ao w a.hand=t:=(cG wh).trans e;refine⟨by rw [gy (.inr (.inr k)),e',e],fun hc hp=> ?_,⟨e1,e2,e3,fun i hi=> ?_,fun i hi=> ?_,fun i hi=> ?_⟩⟩
  ·rw [zT k,e]at hp;rw [zT k,e',iW ht];exact hp
  ·rw [pj k,pj k];exact h.pp i hi
  ·rw [pj k,pj k];exact h.ph i hi
  ·rw [pj k,pj k];simp only [e,e',Int.toNat_natCast];rw [gQ,gQ (ts:=s.aa),h.tl,nI h.tl ht,h.tt i hi]
section
theorem vY {s:aw}{w:Nat}{a:ak}(hk:1≤a.kind∧a.kind≤8)(h1:a.kind≠1):(cR s w a).ah=s.ah:=by
 rcases mU hk with k|k|k|k|k|k|k|k
 ·exact absurd k h1
 ·rw [o8 k]
 ·rw [mo k]
 ·rw [o9 k]
 ·rw [pe k]
 ·rw [pf k]
 ·rw [pg k]
 ·rw [pj k]
theorem aaF {s:aw}{v:Nat}{b:ak}{t:Touch}(D:EI s v b)(h:Jn t (cd s v b)):Ag s (cR s v b) t.ah t.aa:=by
 have L:=kA (s:=s) (w:=v) D.kind;have F:=GB D;exact⟨L.1,L.2.1,L.2.2,fun i hi=>(F.1 i (h.ap _ hi)).1,fun i hi=>(F.1 i (h.ap _ hi)).2,fun i hi=>F.2 i (h.a7 _ hi)⟩
section
variable {r:aA} {s:aw} {w v:Nat} {a b:ak}
theorem xm (hS:fR r s)(hA:AB r w a)(hB:AB r v b)(pa:bV r s w a=true)(pb:bV r s v b=true)(h:Jn (cd s w a) (cd s v b)):
  cd (cR s w a) v b=cd s v b∧bV r (cR s w a) v b=true∧Ag (cR s v b) (cR (cR s w a) v b) (cd s v b).ah (cd s v b).aa:=by
 have DA:=oc hS hA pa;have DB:=oc hS hB pb;obtain⟨l1,l2,l3⟩:=GC (r:=r) DB (aaF DA h.symm) hB.wl;refine⟨l1,l2 (fun k hin=> ?_) pb,l3⟩;rw [zP k]at pb;simp at pb;by_cases k1:a.kind=1
 ·rw [lI k1]at hin;rcases List.mem_or_eq_of_mem_set hin with x|x
  ·exact pb.1 x
  ·rw [pk k1,pk k]at h;exact h.ac a.cell (by simp) (by simp [x])
 ·rw [vY hA.kind k1]at hin;exact pb.1 hin
end
noncomputable def kW (s:aw)(g:List ak):aw:=g.foldl (fun s a=>cR s a.aN.toNat a) s
theorem yG (s:aw):kW s []=s:=rfl
theorem qZ (s:aw)(a:ak)(g:List ak):kW s (a::g)=kW (cR s a.aN.toNat a) g:=rfl
theorem iR (s:aw)(g h:List ak):kW s (g++h)=kW (kW s g) h:=List.foldl_append ..
noncomputable def tch (s:aw)(a:ak):Touch:=cd s a.aN.toNat a
structure qX (r:aA)(s:aw)(g:List ak):Prop where
 ab: ∀a∈g,AB r a.aN.toNat a∧bV r s a.aN.toNat a=true
 ap:g.Pairwise fun a b=>Jn (tch s a) (tch s b)
theorem qX.tail {r:aA}{s:aw}{a:ak}{g:List ak}(hS:fR r s)(h:qX r s (a::g)):fR r (cR s a.aN.toNat a)∧qX r (cR s a.aN.toNat a) g:=by
 obtain⟨hA,pa⟩:=h.ab a (List.mem_cons_self ..);have hp:=List.pairwise_cons.1 h.ap;have one:=fun b (hb:b∈g)=>xm hS hA (h.ab b (List.mem_cons_of_mem _ hb)).1 pa (h.ab b (List.mem_cons_of_mem _ hb)).2 (hp.1 b hb);refine⟨hS.Q1 hA pa,⟨fun b hb=>⟨(h.ab b (List.mem_cons_of_mem _ hb)).1,(one b hb).2.1⟩, ?_⟩⟩;refine hp.2.imp_of_mem fun {x y} hx hy q=> ?_;unfold tch at q⊢;rw [(one x hx).1,(one y hy).1];exact q
theorem qX.snd {r:aA}: ∀{g:List ak} {s:aw},fR r s→qX r s g→fR r (kW s g)
 | [],s,hS,_=>hS
 |a::g,s,hS,h=>by
  obtain⟨h1,h2⟩:=h.tail hS;show fR r (kW (cR s a.aN.toNat a) g)
  exact qX.snd h1 h2
end
section
variable {c:Nat} {H:aj}
section
variable {r:aA} {s:aw} {w:Nat} {a:ak}
theorem yN (hS:fR r s)(hW:WB r)(hA:AB r w a)(hH:0<H.length):
  aL KC (aE KC) 105 [.pure (.agg (aQ r s)), .pure (.agg a.row)] c H=some (.pure (.bool (bV r s w a)),H):=by
 refine eF rfl rfl rfl rfl rfl hH fun H hH=> ?_;refine aO (aK KC au Tryz.func105 rfl rfl LG (by simp) hH ?_);have W:=fun(k:Nat) (hk:1≤k∧k≤8) c (H:aj) (hH:0<H.length)=>Cg (c:=c) (H:=H) hk hH;have W1:=W 1 (by omega);have W2:=W 2 (by omega);have W3:=W 3 (by omega);have W4:=W 4 (by omega);have W5:=W 5 (by omega);have W6:=W 6 (by omega);have W7:=W 7 (by omega);have W8:=W 8 (by omega);simp at W1 W2 W3 W4 W5 W6 W7 W8;rcases mU hA.kind with k|k|k|k|k|k|k|k
 ·have M:=fun c (H:aj) (hH:0<H.length)=>DM (c:=c) (H:=H) hS hW hA k hH;rw [bF,k]at M⊢;unfold aQ at M⊢;simp [W1,M,ae]
 ·have M:=fun c (H:aj) (hH:0<H.length)=>DN (c:=c) (H:=H) hS hA k hH;rw [bF,k]at M⊢;unfold aQ at M⊢;simp [W2,M,ae]
 ·have M:=fun c (H:aj) (hH:0<H.length)=>Gz (c:=c) (H:=H) hS hA k hH;rw [bF,k]at M⊢;unfold aQ at M⊢;simp [W3,M,ae]
 ·have M:=fun c (H:aj) (hH:0<H.length)=>DP (c:=c) (H:=H) hS hW hA k hH;rw [bF,k]at M⊢;unfold aQ at M⊢;simp [W4,M,ae]
 ·have M:=fun c (H:aj) (hH:0<H.length)=>DQ (c:=c) (H:=H) hS hA k hH;rw [bF,k]at M⊢;unfold aQ at M⊢;simp [W5,M,ae]
 ·have M:=fun c (H:aj) (hH:0<H.length)=>DR (c:=c) (H:=H) hS hA k hH;rw [bF,k]at M⊢;unfold aQ at M⊢;simp [W6,M,ae]
 ·have M:=fun c (H:aj) (hH:0<H.length)=>BX (c:=c) (H:=H) hS hA k hH;rw [bF,k]at M⊢;unfold aQ at M⊢;simp [W7,M,ae]
 ·have M:=fun c (H:aj) (hH:0<H.length)=>DS (c:=c) (H:=H) hS hA k hH;rw [bF,k]at M⊢;unfold aQ at M⊢;simp [W8,M,ae]
def gd (s:aw)(w:Nat)(a:ak):List (Int×Int):=
 if a.kind=1 then [(0,a.aN),(2,s.ah.getD w 0),(2,a.cell)]
 else if a.kind=2 then [(0,a.aN),(1,a.bd)]
 else if a.kind=4 then [(0,a.aN),(0,a.other),(1,aU s.ao w a.hand)]
 else if a.kind=5∨a.kind=6 then [(0,a.aN),(1,aU s.ao w (1-a.hand)),(1,aU s.ao w a.hand)]
 else [(0,a.aN),(1,aU s.ao w a.hand)]
def du (x:Int×Int):List PV:=[.int .i64 x.1, .int .i64 x.2]
theorem tx (hS:fR r s)(hA:AB r w a)(hH:0<H.length):
  aL KC (aE KC) 134 [.pure (.agg (aQ r s)), .pure (.agg a.row)] c H=some (.pure (.slice ((gd s w a).map du)),H):=by
 refine aO (bf KC au Tryz.func134 rfl rfl Mb rfl rfl rfl (by simp) hH ?_);have hwp:w<s.ah.length:=(by rw [hS.pl];exact hA.wl);have E:=fun c (H:aj) (hH:0<H.length)=>lW (c:=c) (H:=H) hS.toFN hA hH;have G:=fun c (H:aj) (hH:0<H.length)=>tr (c:=c) (H:=H) hS.toFN hA hH;have hnl: ¬H.length≤H.length-1:=(by omega);have hp:=aM (d:=0) hwp;unfold gd;rcases mU hA.kind with k|k|k|k|k|k|k|k
 ·rw [bF,k]at E G⊢;unfold aQ at E G⊢;simp [hA.aN]at E G;simp [hA.aN,hwp,aG,E,G,du,hp,ae,hnl]
 ·rw [bF,k]at E G⊢;unfold aQ at E G⊢;simp [hA.aN]at E G;simp [hA.aN,hwp,aG,E,G,du,hp,ae,hnl]
 ·rw [bF,k]at E G⊢;unfold aQ at E G⊢;simp [hA.aN]at E G;simp [hA.aN,hwp,aG,E,G,du,hp,ae,hnl]
 ·rw [bF,k]at E G⊢;unfold aQ at E G⊢;simp [hA.aN]at E G;simp [hA.aN,hwp,aG,E,G,du,hp,ae,hnl]
 ·rw [bF,k]at E G⊢;unfold aQ at E G⊢;simp [hA.aN]at E G;simp [hA.aN,hwp,aG,E,G,du,hp,ae,hnl]
 ·rw [bF,k]at E G⊢;unfold aQ at E G⊢;simp [hA.aN]at E G;simp [hA.aN,hwp,aG,E,G,du,hp,ae,hnl]
 ·rw [bF,k]at E G⊢;unfold aQ at E G⊢;simp [hA.aN]at E G;simp [hA.aN,hwp,aG,E,G,du,hp,ae,hnl]
 ·rw [bF,k]at E G⊢;unfold aQ at E G⊢;simp [hA.aN]at E G;simp [hA.aN,hwp,aG,E,G,du,hp,ae,hnl]
theorem u4 {s:aw}{w v:Nat}{a b:ak}:Jn (cd s w a) (cd s v b)↔ ∀x∈gd s w a,x∉gd s v b:=by
 have mem: ∀(w:Nat) (a:ak) (x:Int×Int),x∈gd s w a↔(x.1=0∧x.2∈(cd s w a).ah)∨(x.1=1∧x.2∈(cd s w a).aa)∨(x.1=2∧x.2∈(cd s w a).cells):=fun w a x=>by
  obtain⟨p,q⟩:=x;unfold gd;rw [dL];simp only [cC]
  repeat' split
  all_goals simp only [List.mem_cons,List.not_mem_nil,or_false,Prod.mk.injEq]
  all_goals grind
 constructor
 ·intro h x hx hy;rw [mem]at hx hy;rcases hx with ⟨e,hx⟩|⟨e,hx⟩|⟨e,hx⟩
  ·rcases hy with ⟨_,hy⟩|⟨e',hy⟩|⟨e',hy⟩
   ·exact h.ap _ hx hy
   ·omega
   ·omega
  ·rcases hy with ⟨e',hy⟩|⟨_,hy⟩|⟨e',hy⟩
   ·omega
   ·exact h.a7 _ hx hy
   ·omega
  ·rcases hy with ⟨e',hy⟩|⟨e',hy⟩|⟨_,hy⟩
   ·omega
   ·omega
   ·exact h.ac _ hx hy
 ·intro h;refine⟨fun x h1 h2=>h (0,x) ((mem _ _ _).2 (.inl ⟨rfl,h1⟩)) ((mem _ _ _).2 (.inl ⟨rfl,h2⟩)),fun x h1 h2=>h (1,x) ((mem _ _ _).2 (.inr (.inl ⟨rfl,h1⟩))) ((mem _ _ _).2 (.inr (.inl ⟨rfl,h2⟩))),fun x h1 h2=>h (2,x) ((mem _ _ _).2 (.inr (.inr ⟨rfl,h1⟩))) ((mem _ _ _).2 (.inr (.inr ⟨rfl,h2⟩)))⟩
end
end
section
variable {c:Nat} {H:aj}
theorem Oc: ∀q:Fin 16,∀b∈[(1:Int),2,4],Aa .i64 ((q.1:Nat):Int) b=if ((IntKind.i64.wrap (((q.1:Nat):Int).tdiv b)).tmod 2==1)then ((q.1:Nat):Int)else IntKind.i64.wrap (((q.1:Nat):Int)+b):=by decide+kernel
theorem GD: ∀q:Fin 16,∀b∈[(1:Int),2,4],lV ((q.1:Nat):Int) b=if ((IntKind.i64.wrap (((q.1:Nat):Int).tdiv b)).tmod 2==1)then IntKind.i64.wrap (((q.1:Nat):Int)-b)else ((q.1:Nat):Int):=by decide+kernel
theorem U5: ∀q:Fin 16,lV ((q.1:Nat):Int) 3=lV (lV ((q.1:Nat):Int) 2) 1∧0≤lV ((q.1:Nat):Int) 2∧lV ((q.1:Nat):Int) 2<16:=by decide+kernel
section
variable {ts:List bB} {t:Nat} {b:Int}
theorem zU (ht:t<ts.length)(hs:0≤(ts.getD t aS).state∧(ts.getD t aS).state<16)(hb:b=1∨b=2∨b=4):
  dm ts t b true=ts.set t ⟨(ts.getD t aS).cell,Aa .i64 (ts.getD t aS).state b⟩:=by
 obtain⟨q,hq⟩:=Int.eq_ofNat_of_zero_le hs.1;have B:=Oc ⟨q,by omega⟩ b (by simp;exact hb);simp only [←hq]at B;have h0:decide ((0:Int)≤t)=true:=(by simp);rw [jw,iK,h0,Bool.true_and];simp only [Int.toNat_natCast];rw [B];by_cases h:((IntKind.i64.wrap ((ts.getD t aS).state.tdiv b)).tmod 2==1)=true
 ·rw [if_pos h,if_pos h];exact(wI ts t aS).symm
 ·rw [if_neg h,if_neg h];simp
theorem wP (ht:t<ts.length)(hs:0≤(ts.getD t aS).state∧(ts.getD t aS).state<16)(hb:b=1∨b=2∨b=4):
  dm ts t b false=ts.set t ⟨(ts.getD t aS).cell,lV (ts.getD t aS).state b⟩:=by
 obtain⟨q,hq⟩:=Int.eq_ofNat_of_zero_le hs.1;have B:=GD ⟨q,by omega⟩ b (by simp;exact hb);simp only [←hq]at B;have h0:decide ((0:Int)≤t)=true:=(by simp);rw [jw,iK,h0,Bool.true_and];simp only [Int.toNat_natCast];rw [B];split
 ·rename_i h;have h': ¬((IntKind.i64.wrap ((ts.getD t aS).state.tdiv b)).tmod 2==1)=true:=(by rw [h];simp);rw [if_neg h'];exact(wI ts t aS).symm
 ·rename_i h;have h':((IntKind.i64.wrap ((ts.getD t aS).state.tdiv b)).tmod 2==1)=true:=(by simpa using h);rw [if_pos h'];rfl
theorem GF (ht:t<ts.length)(hs:0≤(ts.getD t aS).state∧(ts.getD t aS).state<16):
  dm (dm ts t 2 false) t 1 false=ts.set t ⟨(ts.getD t aS).cell,lV (ts.getD t aS).state 3⟩:=by
 obtain⟨q,hq⟩:=Int.eq_ofNat_of_zero_le hs.1;obtain⟨b1,b2,b3⟩:=U5 ⟨q,by omega⟩;simp only [←hq]at b1 b2 b3;rw [wP ht hs (.inr (.inl rfl))];have e:(ts.set t ⟨(ts.getD t aS).cell,lV (ts.getD t aS).state 2⟩).getD t aS=⟨(ts.getD t aS).cell,lV (ts.getD t aS).state 2⟩:=(by rw [tD ht,if_pos rfl]);rw [wP (by simpa using ht) (by rw [e];exact⟨b2,b3⟩) (.inl rfl),e,b1];simp
end
def tw (r:aA)(n1 n2 n3:Nm)(s:aw):GV:= .agg [.pure (.int .i64 r.wide), .pure (.int .i64 r.deep), .pure (.slice (r.ah.map aW.row)), .pure (.slice (r.aa.map bc.row)), .pure (.slice (r.seen.map aG)), .pure (.slice (r.br.map aG)), .pure (.slice (r.ai.map ak.row)), .a8 n1 1 s.ah.length 0 s.ah.length, .a8 n2 2 s.ao.length 0 s.ao.length, .a8 n3 2 s.aa.length 0 s.aa.length]
section
variable {r:aA} {s:aw} {w:Nat} {a:ak} {n1 n2 n3:Nm} {v1 v2 v3:Nat}
theorem DT (h:mN H n1 n2 n3 v1 v2 v3 s):pK H (tw r n1 n2 n3 s) (.agg (aQ r s)):=by
 unfold tw aQ;rw [ux];simp only [ri,uy,rj,and_true,true_and];exact⟨⟨_,v1,false,h.g1,h.e1,by simp,rfl,rfl,rfl⟩,⟨_,v2,false,h.g2,h.e2,by simp,rfl,rfl,rfl⟩,⟨_,v3,false,h.g3,h.e3,by simp,rfl,rfl,rfl⟩⟩
theorem Jl (h:mN H n1 n2 n3 v1 v2 v3 s)(hw:w<s.ao.length)(h1:a.aN=w)(h2:a.hand=0∨a.hand=1)(hH:0<H.length):
  aL KC (aE KC) 154 [tw r n1 n2 n3 s, .pure (.agg a.row)] c H=some (.pure (.int .i64 (aU s.ao w a.hand)),H):=
 iD KC rfl rfl (MH (DT h) (show pK H (.pure (.agg a.row)) (.agg a.row)from rfl)) rfl hH (fun H hH=>BT (c:=c) hw h1 h2 hH) rfl
theorem wQ (h:mN H n1 n2 n3 v1 v2 v3 s)(hw:w<s.ao.length)(h1:a.aN=w)(h2:a.hand=0∨a.hand=1)(hH:0<H.length):
  aL KC (aE KC) 153 [tw r n1 n2 n3 s, .pure (.agg a.row)] c H=some (.pure (.int .i64 (aU s.ao w (1-a.hand))),H):=
 iD KC rfl rfl (MH (DT h) (show pK H (.pure (.agg a.row)) (.agg a.row)from rfl)) rfl hH (fun H hH=>wK (c:=c) hw h1 h2 hH) rfl
theorem Jm (h:mN H n1 n2 n3 v1 v2 v3 s){o:Nat}(ho:o<s.ao.length)(hH:0<H.length):
  aL KC (aE KC) 156 [tw r n1 n2 n3 s, .pure (.int .i64 o)] c H=some (.pure (.int .i64 (dM s.ao o)),H):=
 iD KC rfl rfl (MH (DT h) (show pK H (.pure (.int .i64 o)) (.int .i64 o)from rfl)) rfl hH (fun H hH=>BW (c:=c) ho hH) rfl
def J4 (H:aj)(f:Nat)(r:aA)(n1 n2 n3:Nm)(s:aw)(w:Nat)(a:ak)(c:Nat):Prop:=
 ∃v1' v2' v3',v1'≤s.ah.length∧v2'≤s.ao.length∧v3'≤s.aa.length∧
  aL KC (aE KC) f [tw r n1 n2 n3 s, .pure (.agg a.row)] c H=some (.pure (.tuple []),cv H n1 n2 n3 v1' v2' v3' (cR s w a))
theorem Rb (h:lX H n1 n2 n3 v1 v2 v3 s)(hb:EI s w a)(hst: ∀t:Nat,t<s.aa.length→0≤(s.aa.getD t aS).state∧(s.aa.getD t aS).state<16)(hH:0<H.length):
  (a.kind=1→J4 H 136 r n1 n2 n3 s w a c)∧(a.kind=2→J4 H 138 r n1 n2 n3 s w a c)∧(a.kind=3→J4 H 140 r n1 n2 n3 s w a c)∧(a.kind=4→J4 H 142 r n1 n2 n3 s w a c)∧
  (a.kind=5→J4 H 144 r n1 n2 n3 s w a c)∧(a.kind=6→J4 H 146 r n1 n2 n3 s w a c)∧(a.kind=7→J4 H 148 r n1 n2 n3 s w a c)∧(a.kind=8→J4 H 150 r n1 n2 n3 s w a c):=by
 have l1:=aj.bL h.g1;have l2:=aj.bL h.g2;have l3:=aj.bL h.g3;have d1: ¬n1.1=H.length:=(by omega);have d2: ¬n2.1=H.length:=(by omega);have d3: ¬n3.1=H.length:=(by omega);have hp:=hb.hp;have hh:=hb.hh;have hwho:=hb.aN;have hg:s.ao.getD w bA=s.ao[w]:=aM hh;have hgp:s.ah.getD w 0=s.ah[w]:=aM hp;have G23: ∀b,(H.set n2 b).get n3=H.get n3:=fun b=>aj.aJ b h.mT.symm;have G32: ∀b,(H.set n3 b).get n2=H.get n2:=fun b=>aj.aJ b h.mT;have C32: ∀x y,(H.set n3 x).set n2 y=(H.set n2 y).set n3 x:=fun x y=>aj.set_comm h.mT.symm;have G31: ∀b,(H.set n3 b).get n1=H.get n1:=fun b=>aj.aJ b h.nX;have S2: ∀x,(H.set n1 x).set n2 (.arr 2 (s.ao.map aH.row) v2 false)=H.set n1 x:=fun x=>(by rw [aj.set_comm h.pq,h.s2]);have S3: ∀x,(H.set n1 x).set n3 (.arr 2 (s.aa.map bB.row) v3 false)=H.set n1 x:=fun x=>(by rw [aj.set_comm h.nX,h.s3]);have S4: ∀x,(H.set n2 x).set n3 (.arr 2 (s.aa.map bB.row) v3 false)=H.set n2 x:=fun x=>(by rw [aj.set_comm h.mT,h.s3]);have s1:=h.s1;have s2:=h.s2;have s3:=h.s3;have G22: ∀b,(H.set n2 b).get n2=some b:=fun b=>aj.gV l2;have G33: ∀b,(H.set n3 b).get n3=some b:=fun b=>aj.gV l3;have E:=fun c (f:Fr)=>Jl (r:=r) (c:=c) (a:=a) (mN.up (fr:=f) h.tomN) hh hwho hb.hand (by simp);have G:=fun c (f:Fr)=>wQ (r:=r) (c:=c) (a:=a) (mN.up (fr:=f) h.tomN) hh hwho hb.hand (by simp);have heq:aU s.ao w 0=s.ao[w].l∧aU s.ao w 1=s.ao[w].r:=(by unfold aU;rw [hg];simp);refine⟨fun k=> ?_,fun k=> ?_,fun k=> ?_,fun k=> ?_,fun k=> ?_,fun k=> ?_,fun k=> ?_,fun k=> ?_⟩
 ·have hd:=lI (s:=s) (w:=w) k;refine⟨s.ah.length,v2,v3,Nat.le_refl _,h.e2,h.e3,aO (ba KC au Tryz.func136 rfl rfl D5 rfl rfl rfl (by simp) hH ?_)⟩;rw [bF];unfold tw;simp [d1,d2,d3,h.g1,h.g2,h.g3,h.e1,h.e2,h.e3,hp,hh,hwho,aG,aD,ae,hd,cv,S2,S3]
 ·obtain⟨t,et,ht⟩:=hb.take k;have hd:=o8 (s:=s) (w:=w) k;have hgt:=aM (d:=aS) ht;rw [et,Int.toNat_natCast,hgt]at hd;simp only [bj,hg]at hd;refine⟨v1,s.ao.length,s.aa.length,h.e1,Nat.le_refl _,Nat.le_refl _,aO (ba KC au Tryz.func138 rfl rfl Me rfl rfl rfl (by simp) hH ?_)⟩;rw [bF];unfold tw;rcases hb.hand with z|z
  ·rw [z]at hd;simp at hd;simp [d1,d2,d3,h.g1,h.g2,h.g3,h.e1,h.e2,h.e3,hp,hh,hwho,et,z,ht,aH.row,bB.row,aD,ae,hd,cv,G23,s1]
  ·rw [z]at hd;simp at hd;simp [d1,d2,d3,h.g1,h.g2,h.g3,h.e1,h.e2,h.e3,hp,hh,hwho,et,z,ht,aH.row,bB.row,aD,ae,hd,cv,G23,s1]
 ·obtain⟨t,et,ht⟩:=hb.held (by omega);rw [cC]at et;have hd:=mo (s:=s) (w:=w) k;have hgt:=aM (d:=aS) ht;rw [et,Int.toNat_natCast,hgt,hgp]at hd;simp only [bj,hg]at hd;refine⟨v1,s.ao.length,s.aa.length,h.e1,Nat.le_refl _,Nat.le_refl _,aO (ba KC au Tryz.func140 rfl rfl Mg rfl rfl rfl (by simp) hH ?_)⟩;rw [et,bF]at E;rw [bF];unfold tw at E⊢;simp [hwho]at E;rcases hb.hand with z|z
  ·rw [z]at hd E;simp at hd;simp [d1,d2,d3,h.g1,h.g2,h.g3,h.e1,h.e2,h.e3,hp,hh,hwho,E,z,ht,aG,aH.row,bB.row,aD,ae,hd,cv,G32,C32,s1]
  ·rw [z]at hd E;simp at hd;simp [d1,d2,d3,h.g1,h.g2,h.g3,h.e1,h.e2,h.e3,hp,hh,hwho,E,z,ht,aG,aH.row,bB.row,aD,ae,hd,cv,G32,C32,s1]
 ·obtain⟨t,et,ht⟩:=hb.held (by omega);rw [cC]at et;obtain⟨o,eo,ho,how,htk⟩:=hb.pL k;have hgo:=aM (d:=bA) ho;have hsw: ∀x,(s.ao.set o x).getD w bA=s.ao[w]:=fun x=>(by rw [tD hh,if_neg how,hg]);have hd:=o9 (s:=s) (w:=w) k;rw [et,eo,Int.toNat_natCast]at hd;have T:=fun c (f:Fr)=>Jm (r:=r) (c:=c) (mN.up (fr:=f) h.tomN) ho (by simp);rw [et,bF]at E;unfold tw at E T;simp [hwho,eo]at E;simp only [bj,hgo,hsw]at hd;rcases htk with y|y
  ·rw [y]at hd T;refine⟨v1,s.ao.length,v3,h.e1,Nat.le_refl _,h.e3,aO (ba KC au Tryz.func142 rfl rfl D7 rfl rfl rfl (by simp) hH ?_)⟩;rw [bF];unfold tw;rcases hb.hand with z|z
   ·rw [z]at hd E;simp at hd;simp [d1,d2,d3,h.g1,h.g2,h.g3,h.e1,h.e2,h.e3,hp,hh,hwho,eo,E,T,z,ht,ho,aG,aH.row,bB.row,aD,ae,hd,cv,G22,G23,s1,S4,how,List.getElem_set_ne]
   ·rw [z]at hd E;simp at hd;simp [d1,d2,d3,h.g1,h.g2,h.g3,h.e1,h.e2,h.e3,hp,hh,hwho,eo,E,T,z,ht,ho,aG,aH.row,bB.row,aD,ae,hd,cv,G22,G23,s1,S4,how,List.getElem_set_ne]
  ·rw [y]at hd T;refine⟨v1,s.ao.length,v3,h.e1,Nat.le_refl _,h.e3,aO (ba KC au Tryz.func142 rfl rfl D7 rfl rfl rfl (by simp) hH ?_)⟩;rw [bF];unfold tw;rcases hb.hand with z|z
   ·rw [z]at hd E;simp at hd;simp [d1,d2,d3,h.g1,h.g2,h.g3,h.e1,h.e2,h.e3,hp,hh,hwho,eo,E,T,z,ht,ho,aG,aH.row,bB.row,aD,ae,hd,cv,G22,G23,s1,S4,how,List.getElem_set_ne]
   ·rw [z]at hd E;simp at hd;simp [d1,d2,d3,h.g1,h.g2,h.g3,h.e1,h.e2,h.e3,hp,hh,hwho,eo,E,T,z,ht,ho,aG,aH.row,bB.row,aD,ae,hd,cv,G22,G23,s1,S4,how,List.getElem_set_ne]
 ·obtain⟨u,eu,hu⟩:=hb.xN (.inl k);rw [cC]at eu;have hd:=pe (s:=s) (w:=w) k;have hgt:=aM (d:=aS) hu;rw [eu,Int.toNat_natCast,zU hu (hst u hu) (.inl rfl),hgt]at hd;rw [eu,bF]at G;unfold tw at G;refine⟨v1,v2,s.aa.length,h.e1,h.e2,Nat.le_refl _,aO (ba KC au Tryz.func144 rfl rfl Mj rfl rfl rfl (by simp) hH ?_)⟩;rw [bF];unfold tw;simp [d1,d2,d3,h.g1,h.g2,h.g3,h.e1,h.e2,h.e3,hp,hh,G,hu,bB.row,aD,ae,hd,cv,s1,s2]
 ·obtain⟨t,et,ht⟩:=hb.held (by omega);rw [cC]at et;obtain⟨u,eu,hu⟩:=hb.xN (.inr k);rw [cC]at eu;have hd:=pf (s:=s) (w:=w) k;have hgt:=aM (d:=aS) ht;have hst2:=hst;have S:=qU (t:=t) (bit:=2) (on:=false) hst ht (.inr (.inl rfl));have S':=qU (ts:=dm s.aa t 2 false) (t:=t) (bit:=1) (on:=false) (fun j hj=>(S.2 j (by rw [S.1]at hj;exact hj)).2) (by rw [S.1];exact ht) (.inl rfl);rw [et,eu,Int.toNat_natCast,Int.toNat_natCast,zU (by rw [S'.1,S.1];exact hu) (S'.2 u (by rw [S.1];exact hu)).2 (.inr (.inl rfl)),GF ht (hst t ht),hgt]at hd;rw [et,bF]at E;unfold tw at E;obtain⟨X,hX⟩: ∃X,s.aa.set t ⟨s.aa[t].cell,lV s.aa[t].state 3⟩=X:=⟨_,rfl⟩;have hXl:X.length=s.aa.length:=(by rw [←hX];simp);have huX:u<X.length:=(by omega);rw [hX,aM huX]at hd;have hXr:(s.aa.map bB.row).set t [.int .i64 s.aa[t].cell, .int .i64 (lV s.aa[t].state 3)]=X.map bB.row:=by
   rw [←hX,List.map_set];rfl
  have SX:mN (H.set n3 (.arr 2 (X.map bB.row) s.aa.length false)) n1 n2 n3 v1 v2 s.aa.length {s with aa:=X}:=
   ⟨h.pq,h.nX,h.mT,(G31 _).trans h.g1,(G32 _).trans h.g2,G33 _,h.e1,h.e2,by show s.aa.length≤X.length;omega⟩
  have G':=fun c (f:Fr)=>wQ (r:=r) (c:=c) (a:=a) (mN.up (fr:=f) SX) hh hwho hb.hand (by simp);simp only [eu]at G';rw [bF]at G';unfold tw at G';simp only [hXl]at G';refine⟨v1,v2,s.aa.length,h.e1,h.e2,Nat.le_refl _,aO (ba KC au Tryz.func146 rfl rfl Ml rfl rfl rfl (by simp) hH ?_)⟩;rw [bF];unfold tw;simp [d1,d2,d3,h.g1,h.g2,h.g3,h.e1,h.e2,h.e3,hp,hh,E,ht,hXr,G',G33,hu,huX,hXl,bB.row,aD,ae,hd,cv,s1,s2]
 ·obtain⟨t,et,ht⟩:=hb.held (by omega);rw [cC]at et;have hd:=pg (s:=s) (w:=w) k;have hgt:=aM (d:=aS) ht;rw [et,Int.toNat_natCast,zU ht (hst t ht) (.inr (.inr rfl)),hgt]at hd;rw [et,bF]at E;unfold tw at E;refine⟨v1,v2,s.aa.length,h.e1,h.e2,Nat.le_refl _,aO (ba KC au Tryz.func148 rfl rfl Mn rfl rfl rfl (by simp) hH ?_)⟩;rw [bF];unfold tw;simp [d1,d2,d3,h.g1,h.g2,h.g3,h.e1,h.e2,h.e3,hp,hh,E,ht,bB.row,aD,ae,hd,cv,s1,s2]
 ·obtain⟨t,et,ht⟩:=hb.held (by omega);rw [cC]at et;have hd:=pj (s:=s) (w:=w) k;have hgt:=aM (d:=aS) ht;rw [et,Int.toNat_natCast,wP ht (hst t ht) (.inr (.inr rfl)),hgt]at hd;rw [et,bF]at E;unfold tw at E;refine⟨v1,v2,s.aa.length,h.e1,h.e2,Nat.le_refl _,aO (ba KC au Tryz.func150 rfl rfl Mp rfl rfl rfl (by simp) hH ?_)⟩;rw [bF];unfold tw;simp [d1,d2,d3,h.g1,h.g2,h.g3,h.e1,h.e2,h.e3,hp,hh,E,ht,bB.row,aD,ae,hd,cv,s1,s2]
end
end
def Fr.ji (f:Fr):Prop:=(f.map (·.1)).Pairwise (· < ·)
theorem Fr.py {q : Nat} {b : dH} {x : Nat × dH} : ∀ {f : Fr}, f.ji → x ∈ f.ins q b → x = (q, b) ∨ (x ∈ f ∧ x.1 ≠ q)
  | [], _, h => by simp at h; exact .inl h
  | (k, c) :: r, hs, h => by
    unfold Fr.ji at hs
    rw [List.map_cons, List.pairwise_cons] at hs
    simp only [Fr.sm] at h
    have hlt : ∀ y ∈ r, k < y.1 := fun y hy => hs.1 y.1 (List.mem_map_of_mem hy)
    split at h
    · rename_i e; subst e
      rcases List.mem_cons.1 h with h | h
      · exact .inl h
      · exact .inr ⟨List.mem_cons_of_mem _ h, fun e => by have := hlt x h; omega⟩
    · rename_i ne
      split at h
      · rename_i lt
        rcases List.mem_cons.1 h with h | h
        · exact .inl h
        · refine .inr ⟨h, fun e => ?_⟩
          rcases List.mem_cons.1 h with h | h
          · subst h; exact ne e.symm
          · have := hlt x h; omega
      · rcases List.mem_cons.1 h with h | h
        · subst h; exact .inr ⟨List.mem_cons_self .., fun e => ne e.symm⟩
        · rcases Fr.py (f := r) hs.2 h with h | h
          · exact .inl h
          · exact .inr ⟨List.mem_cons_of_mem _ h.1, h.2⟩
theorem Fr.B0 {q : Nat} {b : dH} : ∀ {f : Fr} {k : Nat}, k ∈ (f.ins q b).map (·.1) → k = q ∨ k ∈ f.map (·.1)
  | [], k, h => by simp at h; exact .inl h
  | (k0, c) :: r, k, h => by
    simp only [Fr.sm] at h
    split at h
    · rename_i e; subst e
      simp only [List.map_cons, List.mem_cons] at h ⊢
      exact .inr h
    · split at h
      · simp only [List.map_cons, List.mem_cons] at h ⊢
        exact h
      · simp only [List.map_cons, List.mem_cons] at h ⊢
        rcases h with h | h
        · exact .inr (.inl h)
        · rcases Fr.B0 h with h | h
          · exact .inl h
          · exact .inr (.inr h)
theorem Fr.dR {q : Nat} {b : dH} : ∀ {f : Fr}, f.ji → (f.ins q b).ji
  | [], _ => by simp [Fr.ji]
  | (k, c) :: r, hs => by
    unfold Fr.ji at hs ⊢
    rw [List.map_cons, List.pairwise_cons] at hs
    simp only [Fr.sm]
    split
    · rename_i e; subst e
      rw [List.map_cons, List.pairwise_cons]; exact hs
    · rename_i ne
      split
      · rename_i lt
        rw [List.map_cons, List.pairwise_cons, List.map_cons, List.pairwise_cons]
        refine ⟨fun y hy => ?_, hs⟩
        rcases List.mem_cons.1 hy with h | h
        · subst h; exact lt
        · have := hs.1 y h; simp only at *; omega
      · rw [List.map_cons, List.pairwise_cons]
        refine ⟨fun y hy => ?_, Fr.dR (f := r) hs.2⟩
        rcases Fr.B0 hy with h | h
        · subst h; simp only at *; omega
        · exact hs.1 y h
theorem Fr.get_mem {q : Nat} {b : dH} : ∀ {f : Fr}, f.get q = some b → (q, b) ∈ f
  | [], h => by simp at h
  | (k, c) :: r, h => by
    simp only [Fr.cL] at h
    split at h
    · rename_i e; subst e; cases h; exact List.mem_cons_self ..
    · exact List.mem_cons_of_mem _ (Fr.get_mem h)
theorem Fr.EE {q : Nat} {b : dH} : ∀ {f : Fr}, f.ji → (q, b) ∈ f → f.get q = some b
  | [], _, h => by simp at h
  | (k, c) :: r, hs, h => by
    unfold Fr.ji at hs
    rw [List.map_cons, List.pairwise_cons] at hs
    simp only [Fr.cL]
    rcases List.mem_cons.1 h with h | h
    · cases h; simp
    · have := hs.1 q (List.mem_map_of_mem (f := (·.1)) h)
      rw [if_neg (by simp only at this; omega)]
      exact Fr.EE hs.2 h
theorem Fr.zV {q : Nat} : ∀ {f : Fr}, (f.del q).Sublist f
  | [] => .slnil
  | (k, c) :: r => by
    unfold Fr.del
    split
    · exact Fr.zV.cons _
    · exact Fr.zV.cons_cons _
theorem qV: ∀{l:List Nat} {f:Fr},(fP l f).Sublist f
 | [],f=>List.Sublist.refl f
 |q::l,f=>(qV (l:=l)).trans Fr.zV
theorem DU {l:List Nat}{f:Fr}(h:f.ji):(fP l f).ji:=h.sublist ((qV (l:=l) (f:=f)).map _)
theorem nJ {p:Nat}: ∀{l:List Nat} {f:Fr},(fP l f).get p=if p∈l then none else f.get p
 | [],f=>by simp [fP]
 |q::l,f=>by
  unfold fP;rw [nJ,Fr.uP];by_cases h1:p∈l
  ·simp [h1]
  ·by_cases h2:p=q
   ·simp [h1,h2]
   ·simp [h1,h2]
theorem qW {nm:Nm}: ∀{f:Fr},iC nm f=true↔ ∀x∈f,gq nm x.2=true
 | []=>by simp [iC]
 |x::r=>by simp [iC,qW (f:=r)]
theorem jy {L:Nat}{s:aZ}{fr:Fr}{p:Nat}: ∀{g:Fr},p∈gD L s fr g↔(∃b,(p,b)∈g)∧fY p=true∧ju (L,p) s=true∧iC (L,p) fr=true
 | []=>by simp [gD]
 |x::r=>by
  obtain⟨k,b⟩:=x;simp only [gD];by_cases h:(fY k && ju (L,k) s && iC (L,k) fr)=true
  ·rw [if_pos h,List.mem_cons,jy];simp only [Bool.and_eq_true]at h;constructor
   ·rintro(rfl|⟨⟨b',hb⟩,h2⟩)
    ·exact⟨⟨b,List.mem_cons_self ..⟩,h.1.1,h.1.2,h.2⟩
    ·exact⟨⟨b',List.mem_cons_of_mem _ hb⟩,h2⟩
   ·rintro⟨⟨b',hb⟩,h2⟩;rcases List.mem_cons.1 hb with e|e
    ·cases e;exact .inl rfl
    ·exact .inr ⟨⟨b',e⟩,h2⟩
  ·rw [if_neg h,jy];constructor
   ·rintro⟨⟨b',hb⟩,h2⟩;exact⟨⟨b',List.mem_cons_of_mem _ hb⟩,h2⟩
   ·rintro⟨⟨b',hb⟩,h2⟩;rcases List.mem_cons.1 hb with e|e
    ·cases e;exact absurd (by simp [h2]) h
    ·exact⟨⟨b',e⟩,h2⟩
theorem U6 {s:aZ}{F:Fr}{H:aj}{nt:Nat}(hH:0<H.length): ∃F',qc ⟨s,F::H,nt⟩=some ⟨s,F'::H,nt⟩∧(F.ji→F'.ji)∧(∀x∈F',x∈F)∧
  (∀k,fY k=false→F'.get k=F.get k)∧(∀k x,x∈F→gq (H.length,k) x.2=false→F'.get k=F.get k)∧
  (∀k,fY k=true→ju (H.length,k) s=true→(∀x∈F,gq (H.length,k) x.2=true)→F'.get k=none):=by
 refine⟨fP (gD H.length s F F) F, ?_,DU,fun x hx=>qV.subset hx,fun k hk=> ?_,fun k x hx hr=> ?_,fun k hk hs hr=> ?_⟩
 ·unfold qc;simp only;rw [if_neg (by omega)]
 ·rw [nJ,if_neg];rw [jy];rintro⟨_,h,_⟩;rw [hk]at h;cases h
 ·rw [nJ,if_neg];rw [jy];rintro⟨_,_,_,h⟩;rw [qW]at h;rw [h x hx]at hr;cases hr
 ·rw [nJ];by_cases h:k∈gD H.length s F F
  ·rw [if_pos h]
  ·rw [if_neg h]
   cases hg:F.get k with
   |none=>rfl
   |some b=>exact absurd (jy.2 ⟨⟨b,Fr.get_mem hg⟩,hk,hs,qW.2 hr⟩) h
def ff:Nat→Nat|0=>90139|1=>1000000024631|_=>2000000024631
def cX:Nat→Nat|0=>110619|1=>1000000041015|_=>2000000041015
def eT:Nat→Nat|0=>217115|1=>1000000057399|_=>2000000057399
def kj:Nat→Nat|1=>2|_=>1
def gA (L:Nat)(r0:aA)(ai:List ak):dH:= .box [.pure (.int .i64 r0.wide), .pure (.int .i64 r0.deep), .a8 (L,188441) 2 r0.ah.length 0 r0.ah.length, .a8 (L,339993) 5 r0.aa.length 0 r0.aa.length, .aV,dG (L,393241) 1 (r0.br.map aG),dG (L,62) 9 (ai.map ak.row)]
def dA (L q:Nat)(s:aw):dH:= .box [.a8 (L,ff q) 1 s.ah.length 0 s.ah.length, .a8 (L,cX q) 2 s.ao.length 0 s.ao.length, .a8 (L,eT q) 2 s.aa.length 0 s.aa.length]
structure SF (F:Fr)(k1 k2 k3:Nat)(s:aw):Prop where
 h1: ∃v,v≤s.ah.length∧F.get k1=some (.arr 1 (s.ah.map aG) v false)
 h2: ∃v,v≤s.ao.length∧F.get k2=some (.arr 2 (s.ao.map aH.row) v false)
 h3: ∃v,v≤s.aa.length∧F.get k3=some (.arr 2 (s.aa.map bB.row) v false)
structure FB (L:Nat)(F:Fr)(r0:aA)(ai:List ak)(sb:dH):Prop where
 ji:F.ji
 g6:F.get 6=some jz
 g7:F.get 7=some (gA L r0 ai)
 g8:F.get 8=some sb
 gp:F.get 188441=some (.arr 2 (r0.ah.map aW.row) 0 false)
 gt:F.get 339993=some (.arr 5 (r0.aa.map bc.row) 0 false)
 gl:r0.br≠[]→F.get 393241=some (.arr 1 (r0.br.map aG) 0 false)
 JY:ai=[]→F.get 62=none
 ga:ai≠[]→F.get 62=some (.arr 9 (ai.map ak.row) 0 false)
 ref: ∀x∈F,x.1≠8→ ∀k,fY k=true→gq (L,k) x.2=true
structure FI (L:Nat)(F:Fr)(r0:aA)(ai:List ak)(s:aw)(q:Nat):Prop extends FB L F r0 ai (dA L q s) where
 sc:SF F (ff q) (cX q) (eT q) s
 Cc: ∀k,fY k=true→F.get k≠none→k=ff q∨k=cX q∨k=eT q
structure FM (L:Nat)(F:Fr)(r0:aA)(ai:List ak)(s:aw)(q:Nat)(t:aw):Prop extends FB L F r0 ai (dA L q s) where
 sc:SF F (ff q) (cX q) (eT q) s
 nx:SF F (ff (kj q)) (cX (kj q)) (eT (kj q)) t
 Cc: ∀k,fY k=true→F.get k≠none→(k=ff q∨k=cX q∨k=eT q)∨(k=ff (kj q)∨k=cX (kj q)∨k=eT (kj q))
theorem pt (q:Nat)(hq:q≤2):ff q≠cX q∧ff q≠eT q∧cX q≠eT q∧ff q≠ff (kj q)∧ff q≠cX (kj q)∧ff q≠eT (kj q)∧cX q≠ff (kj q)∧cX q≠cX (kj q)∧cX q≠eT (kj q)∧eT q≠ff (kj q)∧eT q≠cX (kj q)∧eT q≠eT (kj q):=by
 match q,hq with
 |0,_=>decide
 |1,_=>decide
 |2,_=>decide
theorem su (q:Nat):1≤kj q∧kj q≤2:=by
 unfold kj;split<;>omega
def fixed:List Nat:=[6,7,8,62,188441,339993,393241]
theorem kT (q:Nat)(hq:q≤2):(∀k∈fixed,k≠ff q)∧(∀k∈fixed,k≠cX q)∧(∀k∈fixed,k≠eT q):=by
 match q,hq with
 |0,_=>decide
 |1,_=>decide
 |2,_=>decide
theorem GG: ∀k∈fixed,fY k=false:=by decide
theorem FB.ins {L:Nat}{F:Fr}{r0:aA}{ai:List ak}{sb:dH}(h:FB L F r0 ai sb){k:Nat}{b:dH}(hk: ∀j∈fixed,j≠k)(hb: ∀nm,gq nm b=true):FB L (F.ins k b) r0 ai sb where
 ji:=Fr.dR h.ji
 g6:=(Fr.az _ (hk 6 (by decide)) _).trans h.g6
 g7:=(Fr.az _ (hk 7 (by decide)) _).trans h.g7
 g8:=(Fr.az _ (hk 8 (by decide)) _).trans h.g8
 gp:=(Fr.az _ (hk 188441 (by decide)) _).trans h.gp
 gt:=(Fr.az _ (hk 339993 (by decide)) _).trans h.gt
 gl:=fun hl=>(Fr.az _ (hk 393241 (by decide)) _).trans (h.gl hl)
 JY:=fun ha=>(Fr.az _ (hk 62 (by decide)) _).trans (h.JY ha)
 ga:=fun ha=>(Fr.az _ (hk 62 (by decide)) _).trans (h.ga ha)
 ref:=fun x hx hne k' hk'=>by
  rcases Fr.py h.ji hx with e|⟨e,_⟩
  ·subst e;exact hb _
  ·exact h.ref x e hne k' hk'
def qh (F:Fr)(q v1 v2 v3:Nat)(t:aw):Fr:=((F.ins (ff q) (.arr 1 (t.ah.map aG) v1 false)).ins (cX q) (.arr 2 (t.ao.map aH.row) v2 false)).ins (eT q) (.arr 2 (t.aa.map bB.row) v3 false)
theorem jg (F:Fr)(q v1 v2 v3:Nat)(t:aw){k:Nat}(h1:k≠ff q)(h2:k≠cX q)(h3:k≠eT q):(qh F q v1 v2 v3 t).get k=F.get k:=by
 unfold qh;rw [Fr.az _ h3,Fr.az _ h2,Fr.az _ h1]
theorem yJ (F:Fr)(q:Nat)(hq:q≤2){v1 v2 v3:Nat}(t:aw)(h1:v1≤t.ah.length)(h2:v2≤t.ao.length)(h3:v3≤t.aa.length):SF (qh F q v1 v2 v3 t) (ff q) (cX q) (eT q) t:=by
 obtain⟨n1,n2,n3,_⟩:=pt q hq;refine⟨⟨v1,h1, ?_⟩,⟨v2,h2, ?_⟩,⟨v3,h3, ?_⟩⟩
 ·unfold qh;rw [Fr.az _ n2,Fr.az _ n1,Fr.bQ]
 ·unfold qh;rw [Fr.az _ n3,Fr.bQ]
 ·unfold qh;rw [Fr.bQ]
theorem yI {L:Nat}{F:Fr}{r0:aA}{ai:List ak}{sb:dH}(h:FB L F r0 ai sb)(q:Nat)(hq:q≤2)(v1 v2 v3:Nat)(t:aw):FB L (qh F q v1 v2 v3 t) r0 ai sb:=by
 obtain⟨a,b,c⟩:=kT q hq;exact((h.ins a fun _=>rfl).ins b fun _=>rfl).ins c fun _=>rfl
theorem SF.other {F F':Fr}{k1 k2 k3:Nat}{s:aw}(h:SF F k1 k2 k3 s)(e1:F'.get k1=F.get k1)(e2:F'.get k2=F.get k2)(e3:F'.get k3=F.get k3):SF F' k1 k2 k3 s:=by
 obtain⟨a,b,c⟩:=h;exact⟨by rw [e1];exact a,by rw [e2];exact b,by rw [e3];exact c⟩
theorem FI.own {L:Nat}{F:Fr}{r0:aA}{ai:List ak}{s:aw}{q:Nat}(hq:q≤2)(h:FI L F r0 ai s q):FM L (qh F (kj q) 0 0 0 s) r0 ai s q s:=by
 obtain⟨n1,n2,n3,m11,m12,m13,m21,m22,m23,m31,m32,m33⟩:=pt q hq;have hp:=su q
 exact {yI h.toFB (kj q) hp.2 0 0 0 s with
  sc:=h.sc.other (jg _ _ _ _ _ _ m11 m12 m13) (jg _ _ _ _ _ _ m21 m22 m23) (jg _ _ _ _ _ _ m31 m32 m33)
  nx:=yJ F (kj q) hp.2 s (Nat.zero_le _) (Nat.zero_le _) (Nat.zero_le _)
  Cc:=fun k hk hg=>by
   by_cases h1:k=ff (kj q)
   ·exact .inr (.inl h1)
   by_cases h2:k=cX (kj q)
   ·exact .inr (.inr (.inl h2))
   by_cases h3:k=eT (kj q)
   ·exact .inr (.inr (.inr h3))
   rw [jg _ _ _ _ _ _ h1 h2 h3]at hg;exact .inl (h.Cc k hk hg)}
theorem FM.Q1 {L:Nat}{F:Fr}{r0:aA}{ai:List ak}{s t t':aw}{q:Nat}(hq:q≤2)(h:FM L F r0 ai s q t){v1 v2 v3:Nat}(h1:v1≤t'.ah.length)(h2:v2≤t'.ao.length)(h3:v3≤t'.aa.length):FM L (qh F (kj q) v1 v2 v3 t') r0 ai s q t':=by
 obtain⟨n1,n2,n3,m11,m12,m13,m21,m22,m23,m31,m32,m33⟩:=pt q hq;have hp:=su q
 exact {yI h.toFB (kj q) hp.2 v1 v2 v3 t' with
  sc:=h.sc.other (jg _ _ _ _ _ _ m11 m12 m13) (jg _ _ _ _ _ _ m21 m22 m23) (jg _ _ _ _ _ _ m31 m32 m33)
  nx:=yJ F (kj q) hp.2 t' h1 h2 h3
  Cc:=fun k hk hg=>by
   by_cases h1:k=ff (kj q)
   ·exact .inr (.inl h1)
   by_cases h2:k=cX (kj q)
   ·exact .inr (.inr (.inl h2))
   by_cases h3:k=eT (kj q)
   ·exact .inr (.inr (.inr h3))
   rw [jg _ _ _ _ _ _ h1 h2 h3]at hg;exact h.Cc k hk hg}
def yK (L:Nat)(F:Fr)(r0:aA)(ai:List ak):Fr:=(F.ins 62 (.arr 9 (ai.map ak.row) 0 false)).ins 7 (gA L r0 ai)
theorem jh (L:Nat)(F:Fr)(r0:aA)(ai:List ak){k:Nat}(h1:k≠62)(h2:k≠7):(yK L F r0 ai).get k=F.get k:=by
 unfold yK;rw [Fr.az _ h2,Fr.az _ h1]
theorem xn {L:Nat}{r0:aA}{ai:List ak}{k:Nat}(hk:fY k=true):gq (L,k) (gA L r0 ai)=true:=by
 have ne: ∀j,fY j=false→((L,j):Nm)≠(L,k):=fun j hj e=>by
  have:=(Prod.mk.inj e).2;subst this;rw [hj]at hk;cases hk
 have one: ∀j es rows,fY j=false→eO (L,k) (dG (L,j) es rows)=true:=fun j es rows hj=>by
  unfold dG;split
  ·rfl
  ·simpa [eO]using ne j hj
 have a:=ne 188441 (by decide);have b:=ne 339993 (by decide);have c:=one 393241 1 (r0.br.map aG) (by decide);have d:=one 62 9 (ai.map ak.row) (by decide);simp only [gA,gq,gn,eO,decide_eq_true_eq,Bool.and_eq_true,true_and,and_true,c,d,ne_eq];exact⟨a,b⟩
theorem DZ {L:Nat}{F:Fr}{r0:aA}{ai acts':List ak}{sb:dH}(h:FB L F r0 ai sb)(hne:acts'≠[]):FB L (yK L F r0 acts') r0 acts' sb where
 ji:=Fr.dR (Fr.dR h.ji)
 g6:=(jh _ _ _ _ (by decide) (by decide)).trans h.g6
 g7:=by unfold yK;rw [Fr.bQ]
 g8:=(jh _ _ _ _ (by decide) (by decide)).trans h.g8
 gp:=(jh _ _ _ _ (by decide) (by decide)).trans h.gp
 gt:=(jh _ _ _ _ (by decide) (by decide)).trans h.gt
 gl:=fun hl=>(jh _ _ _ _ (by decide) (by decide)).trans (h.gl hl)
 JY:=fun e=>absurd e hne
 ga:=fun _=>by unfold yK;rw [Fr.az _ (by decide),Fr.bQ]
 ref:=fun x hx hne k' hk'=>by
  rcases Fr.py (Fr.dR h.ji) hx with e|⟨e,_⟩
  ·subst e;exact xn hk'
  ·rcases Fr.py h.ji e with e|⟨e,_⟩
   ·subst e;rfl
   ·exact h.ref x e hne k' hk'
theorem FM.app {L:Nat}{F:Fr}{r0:aA}{ai acts':List ak}{s t:aw}{q:Nat}(hq:q≤2)(h:FM L F r0 ai s q t)(hne:acts'≠[]):FM L (yK L F r0 acts') r0 acts' s q t:=by
 have hp:=su q;obtain⟨a,b,c⟩:=kT q hq;obtain⟨a',b',c'⟩:=kT (kj q) hp.2;have one: ∀k,(∀j∈fixed,j≠k)→(yK L F r0 acts').get k=F.get k:=fun k hk=>jh _ _ _ _ (hk 62 (by decide)).symm (hk 7 (by decide)).symm
 exact {DZ h.toFB hne with
  sc:=h.sc.other (one _ a) (one _ b) (one _ c)
  nx:=h.nx.other (one _ a') (one _ b') (one _ c')
  Cc:=fun k hk hg=>by
   have h1:k≠62:=fun e=>(by subst e;cases hk);have h2:k≠7:=fun e=>(by subst e;cases hk);rw [jh _ _ _ _ h1 h2]at hg;exact h.Cc k hk hg}
theorem DV {L q:Nat}{s:aw}{k:Nat}(h1:k≠ff q)(h2:k≠cX q)(h3:k≠eT q):gq (L,k) (dA L q s)=true:=by
 simp only [dA,gq,gn,eO,Bool.and_true,Bool.and_eq_true,decide_eq_true_eq,ne_eq,Prod.mk.injEq,true_and];exact⟨fun e=>h1 e.symm,fun e=>h2 e.symm,fun e=>h3 e.symm⟩
theorem B4 {L q:Nat}{s:aw}:gq (L,ff q) (dA L q s)=false∧gq (L,cX q) (dA L q s)=false∧gq (L,eT q) (dA L q s)=false:=by
 refine⟨?_, ?_, ?_⟩<;>simp [dA,gq,gn,eO]
theorem FB.qc {F:Fr}{H:aj}{r0:aA}{ai:List ak}{t:aw}{p nt:Nat}{s:aZ}(hp:p≤2)(hH:0<H.length)(h:FB H.length F r0 ai (dA H.length p t))(sc:SF F (ff p) (cX p) (eT p) t)(hs: ∀k,fY k=true→ju (H.length,k) s=true):
  ∃F',Go.Gh.qc ⟨s,F::H,nt⟩=some ⟨s,F'::H,nt⟩∧FI H.length F' r0 ai t p:=by
 obtain⟨F',e,hsrt,hmem,hnf,hrf,hdead⟩:=U6 (s:=s) (F:=F) (nt:=nt) hH;refine⟨F',e, ?_⟩;have fx: ∀k∈fixed,F'.get k=F.get k:=fun k hk=>hnf k (GG k hk);have m8:(8,dA H.length p t)∈F:=Fr.get_mem h.g8;have R:=B4 (L:=H.length) (q:=p) (s:=t)
 exact {
  ji:=hsrt h.ji
  g6:=(fx 6 (by decide)).trans h.g6
  g7:=(fx 7 (by decide)).trans h.g7
  g8:=(fx 8 (by decide)).trans h.g8
  gp:=(fx 188441 (by decide)).trans h.gp
  gt:=(fx 339993 (by decide)).trans h.gt
  gl:=fun hl=>(fx 393241 (by decide)).trans (h.gl hl)
  JY:=fun ha=>(fx 62 (by decide)).trans (h.JY ha)
  ga:=fun ha=>(fx 62 (by decide)).trans (h.ga ha)
  ref:=fun x hx=>h.ref x (hmem x hx)
  sc:=sc.other (hrf _ _ m8 R.1) (hrf _ _ m8 R.2.1) (hrf _ _ m8 R.2.2)
  Cc:=fun k hk hg=>by
   by_cases h1:k=ff p
   ·exact .inl h1
   by_cases h2:k=cX p
   ·exact .inr (.inl h2)
   by_cases h3:k=eT p
   ·exact .inr (.inr h3)
   refine absurd (hdead k hk (hs k hk) fun x hx=> ?_) hg;by_cases e8:x.1=8
   ·have:x.2=dA H.length p t:=by
     have:=Fr.EE h.ji (show (x.1,x.2)∈F from hx)
     rw [e8,h.g8]at this;exact(Option.some.inj this).symm
    rw [this];exact DV h1 h2 h3
   ·exact h.ref x hx e8 k hk}
theorem FM.fin {F:Fr}{H:aj}{r0:aA}{ai:List ak}{s t:aw}{q nt:Nat}{sl:aZ}(hH:0<H.length)(h:FM H.length F r0 ai s q t)(hs: ∀k,fY k=true→ju (H.length,k) sl=true):
  ∃F',Go.Gh.qc ⟨sl,F.ins 8 (dA H.length (kj q) t)::H,nt⟩=some ⟨sl,F'::H,nt⟩∧FI H.length F' r0 ai t (kj q):=by
 have hp:=su q;obtain⟨a',b',c'⟩:=kT (kj q) hp.2;refine FB.qc hp.2 hH ?_ ?_ hs
 ·exact {
   ji:=Fr.dR h.ji
   g6:=(Fr.az _ (by decide) _).trans h.g6
   g7:=(Fr.az _ (by decide) _).trans h.g7
   g8:=Fr.bQ ..
   gp:=(Fr.az _ (by decide) _).trans h.gp
   gt:=(Fr.az _ (by decide) _).trans h.gt
   gl:=fun hl=>(Fr.az _ (by decide) _).trans (h.gl hl)
   JY:=fun ha=>(Fr.az _ (by decide) _).trans (h.JY ha)
   ga:=fun ha=>(Fr.az _ (by decide) _).trans (h.ga ha)
   ref:=fun x hx hne k' hk'=>by
    rcases Fr.py h.ji hx with e|⟨e,_⟩
    ·exact absurd (by rw [e]) hne
    ·exact h.ref x e hne k' hk'}
 ·exact h.nx.other (Fr.az _ (a' 8 (by decide)).symm _) (Fr.az _ (b' 8 (by decide)).symm _) (Fr.az _ (c' 8 (by decide)).symm _)
theorem FI.same {F:Fr}{H:aj}{r0:aA}{ai:List ak}{s:aw}{q nt:Nat}{sl:aZ}(hq:q≤2)(hH:0<H.length)(h:FI H.length F r0 ai s q)(hs: ∀k,fY k=true→ju (H.length,k) sl=true):
  ∃F',Go.Gh.qc ⟨sl,F::H,nt⟩=some ⟨sl,F'::H,nt⟩∧FI H.length F' r0 ai s q:=FB.qc hq hH h.toFB h.sc hs
section
theorem Fr.re {k : Nat} {b : dH} : ∀ {f : Fr}, f.ji → f.get k = some b → f.ins k b = f
  | [], _, h => by simp at h
  | (j, c) :: r, hs, h => by
    unfold Fr.ji at hs
    rw [List.map_cons, List.pairwise_cons] at hs
    simp only [Fr.cL] at h
    simp only [Fr.sm]
    by_cases e : k = j
    · subst e
      rw [if_pos rfl] at h
      cases h
      rw [if_pos rfl]
    · rw [if_neg e] at h
      rw [if_neg e]
      have := hs.1 k (List.mem_map_of_mem (f := (·.1)) (Fr.get_mem h))
      simp only at this
      rw [if_neg (by omega), Fr.re hs.2 h]
def rb (L:Nat)(r0:aA)(ai:List ak):GV:= .agg [.pure (.int .i64 r0.wide), .pure (.int .i64 r0.deep), .a8 (L,188441) 2 r0.ah.length 0 r0.ah.length, .a8 (L,339993) 5 r0.aa.length 0 r0.aa.length, .aV,dG (L,393241) 1 (r0.br.map aG),dG (L,62) 9 (ai.map ak.row)]
def GS (L q:Nat)(s:aw):GV:=lD (L,ff q) (L,cX q) (L,eT q) s
def jA (r0:aA)(ai:List ak):aA:={r0 with ai:=ai}
section
variable {F f0:Fr} {H:aj} {r0:aA} {ai:List ak} {sb:dH} {c:Nat}
theorem uz {nm:Nm}{es:Nat}{rows:List (List PV)}(h:rows≠[]→H.get nm=some (.arr es rows 0 false)):Cr H (dG nm es rows) (.slice rows):=by
 unfold dG;by_cases hr:rows=[]
 ·subst hr;rw [if_pos rfl];simp
 ·rw [if_neg hr];exact⟨rows,0,false,h hr,Nat.zero_le _,rfl,rfl,rfl,rfl⟩
theorem FB.rd (h:FB H.length F r0 ai sb)(hs:r0.seen=[]):pK (f0::F::H) (rb H.length r0 ai) (.agg (jA r0 ai).row):=by
 have ne: ¬H.length=H.length+1:=(by omega);have g: ∀k,aj.get (f0::F::H) (H.length,k)=F.get k:=fun k=>(by simp [ne]);rw [eE];unfold rb;rw [ux];simp only [jA,ri,uy,rj,and_true,true_and];refine⟨⟨_,0,false,(g _).trans h.gp,Nat.zero_le _,by simp,rfl,rfl,rfl⟩,⟨_,0,false,(g _).trans h.gt,Nat.zero_le _,by simp,rfl,rfl,rfl⟩, ?_,uz fun hr=>(g _).trans (h.gl ?_),uz fun hr=>(g _).trans (h.ga ?_)⟩
 ·rw [hs];rfl
 ·intro e;rw [e]at hr;exact hr rfl
 ·intro e;rw [e]at hr;exact hr rfl
theorem SF.rd {k1 k2 k3:Nat}{s:aw}(h:SF F k1 k2 k3 s):pK (f0::F::H) (lD (H.length,k1) (H.length,k2) (H.length,k3) s) (.agg s.row):=by
 have ne: ¬H.length=H.length+1:=(by omega);have g: ∀k,aj.get (f0::F::H) (H.length,k)=F.get k:=fun k=>(by simp [ne]);obtain⟨⟨v1,a1,b1⟩,⟨v2,a2,b2⟩,⟨v3,a3,b3⟩⟩:=h;unfold lD aw.row;rw [ux];simp only [ri,uy,rj,and_true,true_and];exact⟨⟨_,v1,false,(g _).trans b1,a1,by simp,rfl,rfl,rfl⟩,⟨_,v2,false,(g _).trans b2,a2,by simp,rfl,rfl,rfl⟩,⟨_,v3,false,(g _).trans b3,a3,by simp,rfl,rfl,rfl⟩⟩
theorem SF.self {k1 k2 k3:Nat}{s:aw}(hF:F.ji)(h:SF F k1 k2 k3 s)(pq:k1≠k2)(nX:k1≠k3)(mT:k2≠k3): ∃v1 v2 v3,lX (f0::F::H) (H.length,k1) (H.length,k2) (H.length,k3) v1 v2 v3 s:=by
 have ne: ¬H.length=H.length+1:=(by omega);have g: ∀k,aj.get (f0::F::H) (H.length,k)=F.get k:=fun k=>(by simp [ne]);have st: ∀k b,F.get k=some b→aj.set (f0::F::H) (H.length,k) b=f0::F::H:=fun k b hb=>(by simp [ne,Fr.re hF hb]);have nn: ∀a b:Nat,a≠b→((H.length,a):Nm)≠(H.length,b):=fun a b h e=>h (Prod.mk.inj e).2;obtain⟨⟨v1,a1,b1⟩,⟨v2,a2,b2⟩,⟨v3,a3,b3⟩⟩:=h;exact⟨v1,v2,v3,{pq:=nn _ _ pq,nX:=nn _ _ nX,mT:=nn _ _ mT,g1:=(g _).trans b1,g2:=(g _).trans b2,g3:=(g _).trans b3,e1:=a1,e2:=a2,e3:=a3,s1:=st _ _ b1,s2:=st _ _ b2,s3:=st _ _ b3}⟩
structure RB (r0:aA)(n:Nat):Prop where
 hn:IntKind.i64.wrap (r0.wide*r0.deep)=n
 n0:0<n
 n9:n≤9
 wide:r0.wide≠0
 pl:r0.ah.length≤3
 tl:r0.aa.length≤4
 p0:r0.ah≠[]
 t0:r0.aa≠[]
 seen:r0.seen=[]
theorem uS {nm:Nm}(hlt:nm.1<H.length){n:Nat}(hb:RB r0 n)(h:FB H.length F r0 ai sb){k1 k2 k3:Nat}{s:aw}(hs:SF F k1 k2 k3 s)(hS:FN r0 s)(w:Nat)(hw:w<r0.ah.length)(wd:Int):
  aL KC (aE KC) 49 [.ay nm 0,rb H.length r0 ai,lD (H.length,k1) (H.length,k2) (H.length,k3) s, .pure (.int .i64 w)] c (f0::F::H.set nm (bz wd))=
   some (.pure (.tuple [.agg (fV (jA r0 ai) s w (bJ n r0.aa.length r0.ah.length w) wd).1.1.row, .bool (fV (jA r0 ai) s w (bJ n r0.aa.length r0.ah.length w) wd).1.2]),f0::F::H.set nm (bz (fV (jA r0 ai) s w (bJ n r0.aa.length r0.ah.length w) wd).2)):=by
 have hl:(H.set nm (bz wd)).length=H.length:=aj.length_set _ _ _;have h':FB (H.set nm (bz wd)).length F r0 ai sb:=(by rw [hl];exact h);have hne: ¬nm.1=H.length:=(by omega);have hne2: ¬nm.1=H.length+1:=(by omega);have B:fS (f0::F::H.set nm (bz wd)) nm:=dN (dN (kZ hlt));have W:bD (f0::F::H.set nm (bz wd)) nm=wd:=(by rw [dq (by simp [hl];omega),dq (by rw [hl];exact hlt),kY hlt]);have M:=Gw (c:=c) (rg:=rb (H.set nm (bz wd)).length r0 ai) (sg:=lD ((H.set nm (bz wd)).length,k1) ((H.set nm (bz wd)).length,k2) ((H.set nm (bz wd)).length,k3) s) (jA r0 ai) s w n (h'.rd (f0:=f0) hb.seen) hs.rd ⟨hS.pl,hS.hl,hS.tl,hS.hr⟩ hw (by show r0.ah.length≤_;have:=hb.pl;omega) (by show r0.aa.length≤_;have:=hb.tl;omega) hb.wide hb.hn hb.n0 (by have:=hb.n9;omega) B
 rw [W,hl]at M;refine M.trans ?_;simp [hne,hne2,aj.length_set,jA]
theorem GU {H0:aj}(hl:H0.length=H.length){k1 k2 k3:Nat}{s:aw}(hs:SF F k1 k2 k3 s)(hS:FN r0 s){w v:Nat}{a b:ak}(hw:w<r0.ah.length)(hv:v<r0.ah.length)(h1:a.aN=w)(h2:a.hand=0∨a.hand=1)(h3:b.aN=v)(h4:b.hand=0∨b.hand=1):
  aL KC (aE KC) 53 [lD (H.length,k1) (H.length,k2) (H.length,k3) s, .pure (.agg a.row), .pure (.agg b.row)] c (f0::F::H0)=some (.pure (.bool (qe s w a v b)),f0::F::H0):=by
 have e1:=hS.pl;have e2:=hS.hl;have R:pK (f0::F::H0) (lD (H.length,k1) (H.length,k2) (H.length,k3) s) (.agg s.row):=(by rw [←hl];exact hs.rd);exact Gx R (show pK _ (.pure (.agg a.row)) (.agg a.row)from rfl) (show pK _ (.pure (.agg b.row)) (.agg b.row)from rfl) (by omega) (by omega) h1 h2 (by omega) (by omega) h3 h4 (by simp)
theorem aaG {H0:aj}(hl:H0.length=H.length){k1 k2 k3:Nat}{s:aw}(hF:F.ji)(hs:SF F k1 k2 k3 s)(pq:k1≠k2)(nX:k1≠k3)(mT:k2≠k3){w:Nat}{a:ak}(hb:EI s w a)(hhl:s.ao.length≤1000000):
  ∃v1 v2 v3,v1≤s.ah.length∧v2≤s.ao.length∧v3≤s.aa.length∧
  aL KC (aE KC) 51 [lD (H.length,k1) (H.length,k2) (H.length,k3) s, .pure (.agg a.row)] c (f0::F::H0)=
   some (.pure (.tuple []),f0::((F.ins k1 (.arr 1 ((cR s w a).ah.map aG) v1 false)).ins k2 (.arr 2 ((cR s w a).ao.map aH.row) v2 false)).ins k3 (.arr 2 ((cR s w a).aa.map bB.row) v3 false)::H0):=by
 obtain⟨u1,u2,u3,S⟩:=hs.self (f0:=f0) (H:=H0) hF pq nX mT;obtain⟨v1,v2,v3,a1,a2,a3,e⟩:=Oe (c:=c) S hb hhl (by simp);rw [hl]at e;refine⟨v1,v2,v3,a1,a2,a3,e.trans ?_⟩;have ne: ¬H.length=H.length+1:=(by omega);simp [cv,hl,ne]
end
end
section
section
variable {F:Fr} {H:aj} {r0:aA} {ai:List ak} {sb:dH}
theorem U7 {H0:aj}(hl:H0.length=H.length){s:aw}{q:Nat}(hq:q≤2)(h:FI H.length F r0 ai s q)(hS:FN r0 s)(p0:r0.ah≠[])(t0:r0.aa≠[])(pl:r0.ah.length≤1000000)(tl:r0.aa.length≤1000000)(a:ak):
  (match aL KC (aE KC) 50 [GS H.length q s] 54 ([(12,bW a)]::F::H0)with|some z=>rV ([(12,bW a)]::F::H0) (.ay (H.length,8) 0) z|none=>none)=
   some (GS H.length (kj q) s,[(12,bW a)]::qh F (kj q) 0 0 0 s::H0):=by
 obtain⟨pq,nX,mT,_⟩:=pt q hq;obtain⟨u1,u2,u3,S⟩:=h.sc.self (f0:=[(12,bW a)]) (H:=H0) h.ji pq nX mT;have e1:=hS.pl;have e2:=hS.hl;have e3:=hS.tl;have q0:0<r0.ah.length:=List.length_pos_iff.2 p0;have q1:0<r0.aa.length:=List.length_pos_iff.2 t0;have ne: ¬H.length=H.length+1:=(by omega);have O:=Ub (c:=54) S.tomN (fun e=>by rw [e]at e1;simp at e1;omega) (fun e=>by rw [e]at e2;simp at e2;omega) (fun e=>by rw [e]at e3;simp at e3;omega) (by omega) (by omega) (by omega) (by simp) (by simp [aq]) (by simp [aq]) (by simp [aq]);rw [hl]at O;unfold GS;rw [O];have fr1: ∀k,k=ff 1∨k=cX 1∨k=eT 1→q≠1→F.get k=none:=fun k hk hq1=>by
  cases hg:F.get k with
  |none=>rfl
  |some b=>
   have:=h.Cc k (by rcases hk with rfl|rfl|rfl<;>decide) (by rw [hg];exact fun e=>by cases e)
   exfalso
   match q,hq with
   |0,_=>rcases hk with rfl|rfl|rfl<;>revert this<;>decide
   |1,_=>exact hq1 rfl
   |2,_=>rcases hk with rfl|rfl|rfl<;>revert this<;>decide
 have fr2: ∀k,k=ff 2∨k=cX 2∨k=eT 2→q=1→F.get k=none:=fun k hk hq1=>by
  cases hg:F.get k with
  |none=>rfl
  |some b=>
   have:=h.Cc k (by rcases hk with rfl|rfl|rfl<;>decide) (by rw [hg];exact fun e=>by cases e)
   exfalso;subst hq1;rcases hk with rfl|rfl|rfl<;>revert this<;>decide
 have A:cK 0 (aq 54 6)=ff 1∧cK 0 (aq 54 10)=cX 1∧cK 0 (aq 54 14)=eT 1∧cK 1 (aq 54 6)=ff 2∧cK 1 (aq 54 10)=cX 2∧cK 1 (aq 54 14)=eT 2:=(by decide);obtain⟨A1,A2,A3,B1,B2,B3⟩:=A;have N1:aq 54 6=24631:=(by decide);have N2:aq 54 10=41015:=(by decide);have N3:aq 54 14=57399:=(by decide);rw [N1]at A1 B1;rw [N2]at A2 B2;rw [N3]at A3 B3;by_cases hq1:q=1
 ·have hs: ∃b,F.get (ff 1)=some b:=by
   obtain⟨v,_,hv⟩:=h.sc.h1;rw [hq1]at hv;exact⟨_,hv⟩
  obtain⟨b1,hb1⟩:=hs;have g1:=fr2 (ff 2) (.inl rfl) hq1;have g2:=fr2 (cX 2) (.inr (.inl rfl)) hq1;have g3:=fr2 (eT 2) (.inr (.inr rfl)) hq1;have hn:kj q=2:=(by rw [hq1];rfl);rw [hn];simp only [ff,cX,eT]at hb1 g1 g2 g3 A1 A2 A3 B1 B2 B3;simp only [rV,lD,cv,N1,N2,N3,hl];simp [refs,fT,dX,dedup,hl,ne,bW,qG,lQ,iC,gq,gn,eO,fP,Fr.del,vT,vS,nQ,qH,A1,A2,A3,B1,B2,B3,hb1,g1,g2,g3,qh,ff,cX,eT]
 ·have g1:=fr1 (ff 1) (.inl rfl) hq1;have g2:=fr1 (cX 1) (.inr (.inl rfl)) hq1;have g3:=fr1 (eT 1) (.inr (.inr rfl)) hq1;have hn:kj q=1:=by
   match q,hq with
   |0,_=>rfl
   |1,_=>exact absurd rfl hq1
   |2,_=>rfl
  rw [hn];simp only [ff,cX,eT]at g1 g2 g3 A1 A2 A3 B1 B2 B3;simp only [rV,lD,cv,N1,N2,N3,hl];simp [refs,fT,dX,dedup,hl,ne,bW,qG,lQ,iC,gq,gn,eO,fP,Fr.del,vT,vS,nQ,qH,A1,A2,A3,B1,B2,B3,g1,g2,g3,qh,ff,cX,eT]
end
end
section
def JC (r:aA):aw→List (List ak)→Prop
 |_,[]=>True
 |s,g::gs=>(qX r s g∧g≠[]∧ ∀a∈g,∀b∈g,a.a7=b.a7)∧JC r (kW s g) gs
theorem B5 {r:aA}{g:List ak}: ∀{gs:List (List ak)} {s:aw},JC r s gs→(qX r (kW s gs.flatten) g∧g≠[]∧ ∀a∈g,∀b∈g,a.a7=b.a7)→JC r s (gs++[g])
 | [],s,_,h=>⟨h,trivial⟩
 |g0::gs,s,h,h2=>⟨h.1,B5 h.2 (by rw [←iR];exact h2)⟩
structure Made (r0:aA)(ai:List ak)(s:aw)(t:Int):Prop where
 gs: ∃gs:List (List ak),ai=gs.flatten∧JC r0 (aF r0) gs∧(gs.Pairwise fun g h=> ∀a∈g,∀b∈h,a.a7<b.a7)
 lt: ∀a∈ai,a.a7<t
 z: ∀a∈ai,0≤a.a7∧a.bZ=0∧a.gz=0
 sc:s=kW (aF r0) ai
 snd:fR r0 s
 t0:0≤t
theorem Made.grp {r0:aA}{ai:List ak}{s:aw}{t t':Int}{g:List ak}(h:Made r0 ai s t)(hg:qX r0 s g)(hne:g≠[])(hat: ∀a∈g,a.a7=t∧a.bZ=0∧a.gz=0)(ht:t<t'):Made r0 (ai++g) (kW s g) t':=by
 obtain⟨gs,e,h1,h2⟩:=h.gs;have hs:=h.sc;have t0:=h.t0;refine⟨⟨gs++[g],by rw [e];simp,B5 h1 ⟨by rw [←e,←hs];exact hg,hne,fun a ha b hb=>(hat a ha).1.trans (hat b hb).1.symm⟩, ?_⟩,fun a ha=> ?_,fun a ha=> ?_,by rw [iR,←hs],hg.snd h.snd,by omega⟩
 ·rw [List.pairwise_append];refine⟨h2,List.pairwise_singleton ..,fun g' hg' x hx a ha b hb=> ?_⟩;simp only [List.mem_singleton]at hx;subst hx;have:=h.lt a (by rw [e];exact List.mem_flatten.2 ⟨g',hg',ha⟩);have:=(hat b hb).1;omega
 ·rcases List.mem_append.1 ha with x|x
  ·have:=h.lt a x;omega
  ·have:=(hat a x).1;omega
 ·rcases List.mem_append.1 ha with x|x
  ·exact h.z a x
  ·have:=(hat a x).1;exact⟨by omega,(hat a x).2⟩
theorem DX {r:aA}(h:uU r):fR r (aF r):=by
 have ce: ∀l:List aW,∀t:Nat,fM (l.map fun _=>empty) t=0:=fun l t=>by
  induction l with
  |nil=>rfl
  |cons a l ih=>
   have: ¬(-1:Int)=t:=(by omega);simp only [List.map_cons,fM,ih];simp [uo,empty,this]
 refine {pl:=by simp [aF],hl:=by simp [aF],tl:=by simp [aF],hr:=fun i hi=> ?_,pr:=fun x hx=> ?_,pn:=h.pn,th:=fun t ht=> ?_,st:=fun t ht=> ?_}
 ·simp only [aF,List.getElem_map,empty,List.length_map];omega
 ·simp only [aF,List.mem_map]at hx;obtain⟨p,hp,rfl⟩:=hx;exact(h.pc p hp).2
 ·have ht':t<r.aa.length:=(by simpa [aF]using ht);have e:((aF r).aa.getD t aS)=eW r.aa[t]:=by
   rw [aM ht];simp [aF]
  rw [e];exact .inr ⟨ce _ _,(h.tc _ (List.getElem_mem ht')).1,(h.tc _ (List.getElem_mem ht')).2.1⟩
 ·have ht':t<r.aa.length:=(by simpa [aF]using ht);have e:((aF r).aa.getD t aS)=eW r.aa[t]:=by
   rw [aM ht];simp [aF]
  rw [e];exact⟨(h.tc _ (List.getElem_mem ht')).2.2.1,(h.tc _ (List.getElem_mem ht')).2.2.2.1⟩
theorem Made.first {r:aA}(h:uU r){t:Int}(ht:0≤t):Made r [] (aF r) t:=
 ⟨⟨[],rfl,trivial, .nil⟩,fun _ h=>by simp at h,fun _ h=>by simp at h,rfl,DX h,ht⟩
def setAt (a:ak)(t:Int):ak:={a with a7:=t}
section
variable {r:aA} {s:aw} {w:Nat} {a:ak} {t:Int}
theorem jD:bV r s w (setAt a t)=bV r s w a:=by rw [dP,dP];rfl
theorem sN:cR s w (setAt a t)=cR s w a:=by rw [iq,iq];rfl
theorem yH:cd s w (setAt a t)=cd s w a:=by rw [dL,dL];rfl
theorem ob (h:AB r w a):AB r w (setAt a t):=⟨h.aN,h.wl,h.hand,h.kind,h.take,h.pL,h.step,h.form⟩
theorem sy {ai:List ak}:bV {r with ai:=ai} s w a=bV r s w a:=by rw [dP,dP]
end
theorem mj {r:aA}{n w:Nat}{a:ak}(hn:r.wide*r.deep=n)(hw:w<r.ah.length)(h:a∈bJ n r.aa.length r.ah.length w):AB r w a∧a.a7=0∧a.bZ=0∧a.gz=0:=by
 have one: ∀(hand kind:Nat),(hand=0∨hand=1)→2≤kind→kind≤8→a∈ic r.aa.length r.ah.length w kind hand→AB r w a∧a.a7=0∧a.bZ=0∧a.gz=0:=fun hand kind hh k2 k8 ha=>by
  have hh':(hand:Int)=0∨(hand:Int)=1:=(by omega);unfold ic at ha;split at ha
  ·simp only [ib,List.mem_map,List.mem_range']at ha;obtain⟨x,⟨i,hi,rfl⟩,rfl⟩:=ha;exact⟨⟨rfl,hw,hh',⟨by simp [b8],by simp [b8]⟩,fun _=>⟨_,rfl,by omega⟩,fun h=>by simp [b8]at h,fun h=>by simp [b8]at h,by simp [nK,b8]⟩,rfl,rfl,rfl⟩
  ·split at ha
   ·simp only [gw,List.mem_map,List.mem_filter,List.mem_range']at ha;obtain⟨x,⟨⟨i,hi,rfl⟩,hne⟩,rfl⟩:=ha;refine⟨⟨rfl,hw,hh',⟨by simp [b8],by simp [b8]⟩,fun h=>by simp [b8]at h,fun _=>⟨_,rfl,by omega,fun e=> ?_⟩,fun h=>by simp [b8]at h,by simp [nK,b8]⟩,rfl,rfl,rfl⟩;rw [e]at hne;simp at hne
   ·rename_i n2 n4;simp only [List.mem_singleton]at ha;subst ha;have m1: ¬(kind:Int)=1:=(by omega);have m2: ¬(kind:Int)=2:=(by omega);have m4: ¬(kind:Int)=4:=(by omega);exact⟨⟨rfl,hw,hh',⟨by simp only [b8];omega,by simp only [b8];omega⟩,fun h=>absurd h m2,fun h=>absurd h m4,fun h=>absurd h m1,by simp [nK,b8,m1,m2,m4]⟩,rfl,rfl,rfl⟩
 unfold bJ at h;rcases List.mem_append.1 h with h|h
 ·simp only [gC,List.mem_map,List.mem_range']at h;obtain⟨x,⟨i,hi,rfl⟩,rfl⟩:=h;refine⟨⟨rfl,hw, .inl rfl,⟨by simp [b8],by simp [b8]⟩,fun h=>by simp [b8]at h,fun h=>by simp [b8]at h,fun _=>⟨?_, ?_⟩,by simp [nK,b8]⟩,rfl,rfl,rfl⟩
  ·simp only [b8];omega
  ·simp only [b8];omega
 ·simp only [fE,List.mem_flatMap,List.mem_range',nR,List.mem_append]at h;obtain⟨k,⟨i,hi,rfl⟩,h⟩:=h;rcases h with h|h
  ·exact one 0 _ (.inl rfl) (by omega) (by omega) h
  ·exact one 1 _ (.inr rfl) (by omega) (by omega) h
end
section
theorem GH {L k:Nat}(hk:fY k=true):((L,6):Nm)≠(L,k)∧((L,7):Nm)≠(L,k)∧((L,8):Nm)≠(L,k):=by
 have ne: ∀j,fY j=false→((L,j):Nm)≠(L,k):=fun j hj e=>by
  have:=(Prod.mk.inj e).2;subst this;rw [hj]at hk;cases hk
 exact⟨ne 6 (by decide),ne 7 (by decide),ne 8 (by decide)⟩
def fy (nm:Nm)(L:Nat)(t:Int)(i:Int):aZ:=[(0, .ay nm 0),(6, .ay (L,6) 0),(7, .ay (L,7) 0),(8, .ay (L,8) 0),(9, .pure (.int .i64 t)),(10, .pure (.int .i64 i))]
theorem uR {nm:Nm}{L:Nat}{t i:Int}(h:nm.1<L)(k:Nat)(hk:fY k=true):ju (L,k) (fy nm L t i)=true:=by
 obtain⟨a,b,c⟩:=GH (L:=L) hk;have d:nm≠(L,k):=fun e=>(by rw [e]at h;simp at h);simp only [fy,ju,eO,decide_eq_true a,decide_eq_true b,decide_eq_true c,decide_eq_true d];rfl
structure B8 (L:Nat)(r0:aA)(m:Nat)(T:Int)(F:Fr)(ai:List ak)(s:aw)(q:Nat)(t:Int):Prop where
 fi:FI L F r0 ai s q
 q2:q≤2
 md:Made r0 ai s t
 ml:ai.length≤m
 tT:t≤T
variable {H:aj}
theorem Cb {nm:Nm} (hlt:nm.1<H.length) (r0:aA) (n:Nat) (hb:RB r0 n) (k:Nat) (hk:k≤1000) (m:Nat) (T:Int) (F:Fr) (ai:List ak) (s:aw) (q:Nat) (t:Int) (wd:Int) (hR:B8 H.length r0 m T F ai s q t) (Q:GX→bN→Prop)
  (w:Nat) (wd1 wd2:Int) (a:ak) (e1:kS wd r0.ah.length=((w:Int),wd1)) (hw:w<r0.ah.length) (e2:fV (jA r0 ai) s w (bJ n r0.aa.length r0.ah.length w) wd1=((a,false),wd2))
  (ih: ∀F' wd',B8 H.length r0 m T F' ai s q t→uk KC au 11 (lp Tryz.f11 0) [0,6,7,8,9,10] [6,7,8,9] Q (fy nm H.length t k) (F'::H.set nm (bz wd')) 174):
  uk KC au 11 (lp Tryz.f11 0) [0,6,7,8,9,10] [6,7,8,9] Q (fy nm H.length t ((k+1:Nat):Int)) (F::H.set nm (bz wd)) 174:=by
 have hne: ¬nm.1=H.length:=(by omega);have hne2: ¬nm.1=H.length+1:=(by omega);have hne3: ¬nm.1=H.length+1+1:=(by omega);have hle:nm.1≤H.length:=(by omega);have hB:=fun w f0 f1=>EF hlt w f0 f1;have hW:=fun w f0 f1=>xl hlt w f0 f1;have g7:=hR.fi.g7;have g8:=hR.fi.g8;have M:=fun f0 c=>uS (f0:=f0) (c:=c) hlt hb hR.fi.toFB hR.fi.sc hR.md.snd.toFN w hw wd1;rw [e2]at M;have hk1:(0:Int)<(k:Int)+1:=(by omega);have hw1:=dh (x:=(k:Int)) (by omega) (by omega);have hkk:((k:Int)+1-1)=k:=(by omega);have pl:=hb.pl;have hpl:((r0.ah.length:Int))≤9223372036854775807:=(by omega);simp only [gA,dA]at g7 g8;simp only [rb,lD,ak.row]at M;have hl: ∀w,(H.set nm (bz w)).length=H.length:=fun w=>aj.length_set _ _ _;apply sv;conv=>arg 4;whnf
 simp [fy,hk1,hl,kv,hB,hW,hlt,hne,hne2,aj.dQ,hle,g7,g8,e1,hpl,M,hkk,hw1];obtain⟨F',eg,hF⟩:=FI.same (H:=H.set nm (bz wd2)) (nt:=174) (sl:=fy nm H.length t k) hR.q2 (by rw [hl];omega) (by rw [hl];exact hR.fi) (fun j hj=>by rw [hl];exact uR hlt j hj);rw [hl]at hF;simp only [fy]at eg;rw [eg,jf];exact ih F' wd2 ⟨hF,hR.q2,hR.md,hR.ml,hR.tT⟩
section
variable {F:Fr} {r0:aA} {ai:List ak} {s t:aw} {q:Nat} {H0:aj}
theorem Q0 (hl:H0.length=H.length)(hq:q≤2)(h:FI H.length F r0 ai s q)(hS:FN r0 s){n:Nat}(hb:RB r0 n)(a:ak):
  ∃F1 z,FM H.length F1 r0 ai s q s∧aL KC (aE KC) 50 [GS H.length q s] 54 ([(12,bW a)]::F::H0)=some z∧
   rV ([(12,bW a)]::F::H0) (.ay (H.length,8) 0) z=some (GS H.length (kj q) s,[(12,bW a)]::F1::H0):=by
 have e:=U7 hl hq h hS hb.p0 hb.t0 (by have:=hb.pl;omega) (by have:=hb.tl;omega) a
 cases hg:aL KC (aE KC) 50 [GS H.length q s] 54 ([(12,bW a)]::F::H0)with
 |none=>rw [hg]at e;cases e
 |some z=>
  rw [hg]at e;exact⟨_,z,h.own hq,rfl,e⟩
theorem Od (hl:H0.length=H.length)(hq:q≤2)(h:FM H.length F r0 ai s q t){w:Nat}{a:ak}(hb:EI t w a)(hhl:t.ao.length≤1000000)(f0:Fr)(c:Nat):
  ∃F2,FM H.length F2 r0 ai s q (cR t w a)∧aL KC (aE KC) 51 [GS H.length (kj q) t, .pure (.agg a.row)] c (f0::F::H0)=some (.pure (.tuple []),f0::F2::H0):=by
 have hp:=su q;obtain⟨n1,n2,n3,_⟩:=pt (kj q) hp.2;obtain⟨v1,v2,v3,a1,a2,a3,e⟩:=aaG (c:=c) (f0:=f0) hl h.ji h.nx n1 n2 n3 hb hhl;have L:=kA (s:=t) (w:=w) hb.kind;exact⟨_,h.Q1 hq (by omega) (by omega) (by omega),e⟩
theorem GR (hl:H0.length=H.length)(hq:q≤2)(h:FM H.length F r0 ai s q t)(a:ak)(hn:ai.length≤1000000):
  ∃F2 F3,FM H.length F3 r0 (ai++[a]) s q t∧(∀(f0:Fr) (ka:Nat),(ai=[]→ka=62)→zW H.length ka (dG (H.length,62) 9 (ai.map ak.row)) 9 72 [a.row] (f0::F::H0)=some (dG (H.length,62) 9 ((ai++[a]).map ak.row),f0::F2::H0))∧
   F2.get 7=some (gA H.length r0 ai)∧F2.ins 7 (gA H.length r0 (ai++[a]))=F3:=by
 have ne: ¬H.length=H.length+1:=(by omega);refine⟨F.ins 62 (.arr 9 ((ai++[a]).map ak.row) 0 false),_,h.app hq (acts':=ai++[a]) (by simp),fun f0 ka hka=> ?_, ?_,rfl⟩
 ·have ek:zW H.length ka (dG (H.length,62) 9 (ai.map ak.row)) 9 72 [a.row] (f0::F::H0)=zW H.length 62 (dG (H.length,62) 9 (ai.map ak.row)) 9 72 [a.row] (f0::F::H0):=by
   by_cases e:ai=[]
   ·rw [hka e]
   ·unfold dG;rw [if_neg (by simpa using e)];rfl
  rw [ek,rf (fun hr=> ?_) (fun hr=> ?_) (by simp [hl];omega) (by simp;omega)]
  ·simp [hl,ne]
  ·have:ai=[]:=(by simpa using hr);simp [hl,ne,h.JY this]
  ·have:ai≠[]:=(by intro e;subst e;exact hr rfl);simp [hl,ne,h.ga this]
 ·rw [Fr.az _ (by decide)];exact h.g7
end
end
end Go.Gh
