/- Texts joined: the evaluator over ghost values, its soundness, the walks. Spaces struck and names made short by a program, for the size. -/
import Derived.Test.YtkcmcjohoockcaaGreatGc6g
namespace Go.Gh
open Go.Proofs
set_option linter.unusedVariables false
set_option linter.unusedSimpArgs false
set_option linter.unnecessarySimpa false
set_option maxRecDepth 100000
set_option maxHeartbeats 8000000
section
variable {c:Nat} {H:ai}
def E3 (H:ai):GV→PV→Prop
 | .pure p,q=>p=q
 | .aS,q=>q= .slice []
 | .bd nm es top lo len,q=> ∃rows v ro,H.get nm=some (.arr es rows v ro)∧v≤top∧rows.length=top∧lo=0∧len=top∧q= .slice rows
 |_,_=>False
def Ob (H:ai):List GV→List PV→Prop
 | [],[]=>True
 |g::l,q::m=>E3 H g q∧Ob H l m
 |_,_=>False
def oP (H:ai):GV→PV→Prop
 | .agg l, .agg m=>Ob H l m
 | .pure p,q=>p=q
 |_,_=>False
@[simp] theorem rZ {p q:PV}:E3 H (.pure p) q=(p=q):= .trans rfl rfl
@[simp] theorem aaK {q:PV}:E3 H .aS q=(q= .slice []):= .trans rfl rfl
@[simp] theorem uN:Ob H [] []=True:= .trans rfl rfl
@[simp] theorem rY {g:GV}{q:PV}{l:List GV}{m:List PV}:Ob H (g::l) (q::m)=(E3 H g q∧Ob H l m):= .trans rfl rfl
@[simp] theorem uM {l:List GV}{m:List PV}:oP H (.agg l) (.agg m)=Ob H l m:= .trans rfl rfl
def j7 (H1 H2:ai):Prop:= ∀nm es rows v ro,H1.get nm=some (.arr es rows v ro)→ ∃ro',H2.get nm=some (.arr es rows v ro')
theorem j7.refl (H:ai):j7 H H:=fun _ _ _ _ ro h=>⟨ro,h⟩
theorem j7.trans {A B C:ai}(h1:j7 A B)(h2:j7 B C):j7 A C:=fun nm es rows v ro h=>by
 obtain⟨r1,a⟩:=h1 nm es rows v ro h;exact h2 nm es rows v r1 a
theorem Ec {H1 H2:ai}(h:j7 H1 H2): ∀{g:GV} {q:PV},E3 H1 g q→E3 H2 g q:=by
 intro g q hg
 cases g with
 |bd nm es top lo len=>
  obtain⟨rows,v,ro,a,b,d⟩:=hg;obtain⟨ro',e⟩:=h _ _ _ _ _ a;exact⟨rows,v,ro',e,b,d⟩
 |pure p=>exact hg
 |aS=>exact hg
 |_=>exact hg.elim
theorem zK {H1 H2:ai}(h:j7 H1 H2): ∀{l:List GV} {m:List PV},Ob H1 l m→Ob H2 l m
 | [],[],_=>trivial
 |g::l,q::m,hl=>⟨Ec h hl.1,zK h hl.2⟩
 | [],_::_,hl=>hl.elim
 |_::_,[],hl=>hl.elim
theorem rG {H1 H2:ai}(h:j7 H1 H2){g:GV}{q:PV}(hg:oP H1 g q):oP H2 g q:=by
 cases g with
 |agg l=>
  cases q with
  |agg m=>exact zK h hg
  |_=>exact hg.elim
 |pure p=>exact hg
 |_=>cases q<;>exact hg.elim
theorem qk {g:GV}{q:PV}(h:E3 H g q):cg (dY H g).1= .pure q∧j7 H (dY H g).2:=by
 cases g with
 |bd nm es top lo len=>
  obtain⟨rows,v,ro,h1,h2,h3,rfl,rfl,rfl⟩:=h;subst h3;have e:dG H (.bd nm es rows.length 0 rows.length)=(.slice rows,H.set nm (.arr es rows v true)):=(by simp [h1,h2]);simp only [dY,e];refine⟨rfl,fun nm' es' rows' v' ro' hg=> ?_⟩;by_cases hn:nm'=nm
  ·subst hn;rw [h1]at hg;cases hg;exact⟨true,ai.dX _ (ai.bQ h1)⟩
  ·exact⟨ro',(ai.aG _ hn).trans hg⟩
 |pure p=>cases h;exact⟨rfl,j7.refl _⟩
 |aS=>cases h;exact⟨rfl,j7.refl _⟩
 |_=>exact h.elim
theorem uk: ∀{l:List GV} {m:List PV} {H:ai},Ob H l m→(gB H l).1.map cg=m.map .pure∧j7 H (gB H l).2
 | [],[],H,_=>⟨rfl,j7.refl _⟩
 |g::l,q::m,H,h=>by
  obtain⟨a,b⟩:=qk h.1;obtain⟨d,e⟩:=uk (zK b h.2);simp only [gB,List.map_cons,a,d];exact⟨trivial,b.trans e⟩
 | [],_::_,_,hl=>hl.elim
 |_::_,[],_,hl=>hl.elim
theorem sk: ∀{l:List GV} {ps:List PV},bp l=some ps→l=ps.map .pure
 | [],ps,h=>by cases h;rfl
 |g::l,ps,h=>by
  cases g with
  |pure p=>
   rw [yH]at h
   cases hl:bp l with
   |none=>rw [hl]at h;cases h
   |some qs=>rw [hl]at h;cases h;rw [sk hl];rfl
  |_=>simp [bp]at h
theorem mU {l:List GV}{m:List PV}(h:l.map cg=m.map .pure):canon (cR l)= .pure (.agg m):=by
 rw [ER]
 cases hl:bp l with
 |some ps=>
  have e:=sk hl;subst e;have:ps=m:=by
   have h':ps.map GV.pure=m.map .pure:=(by simpa [cg,Function.comp_def]using h);exact(List.map_inj_right (fun a b e=>by cases e;rfl)).1 h'
  rw [this];rfl
 |none=>
  show canon (.agg l)=_
  rw [ES,h];simp
theorem nv {g:GV}{q:PV}(h:oP H g q):canon (dx H g).1= .pure q∧j7 H (dx H g).2:=by
 cases g with
 |agg l=>
  cases q with
  |agg m=>
   obtain⟨a,b⟩:=uk (H:=H) (l:=l) (m:=m) h;exact⟨mU a,b⟩
  |_=>exact h.elim
 |pure p=>cases h;exact⟨rfl,j7.refl _⟩
 |_=>cases q<;>exact h.elim
theorem acL {g:GV}{q:PV}(h:oP H g q):(bz H [g]).1.map canon=[.pure q]:=by
 simp only [bz,List.map_cons,List.map_nil,(nv h).1]
theorem iB {g:GV}{r:List GV}:(bz H (g::r)).1.map canon=canon (dx H g).1::(bz (dx H g).2 r).1.map canon:=rfl
theorem aaL {a b d:GV}{p q r:PV}(h1:oP H a p)(h2:oP H b q)(h3:oP H d r):(bz H [a,b,d]).1.map canon=[.pure p, .pure q, .pure r]:=by
 obtain⟨x1,y1⟩:=nv h1;obtain⟨x2,y2⟩:=nv (rG y1 h2);obtain⟨x3,y3⟩:=nv (rG y2 (rG y1 h3));rw [iB,x1,iB,x2,iB,x3];rfl
theorem aaM {nm:Nm}{b d e:GV}{q r p:PV}(h2:oP H b q)(h3:oP H d r)(h4:oP H e p):(bz H [.aA nm 0,b,d,e]).1.map canon=[.aA nm 0, .pure q, .pure r, .pure p]:=by
 rw [iB,Ak,aaL h2 h3 h4];rfl
theorem GJ {rg sg:GV}(r:aC)(s:ay)(w n:Nat)(hR:oP H rg (.agg r.row))(hS:oP H sg (.agg s.row))(hs:Ff r s)(hw:w<r.ae.length)(hpl:r.ae.length≤1000000)(htl:r.aa.length≤1000000)(hwide:r.wide≠0)(hn:IntKind.i64.wrap (r.wide*r.deep)=n)(hn0:0<n)(hnb:n≤1000000){nm:Nm}(hB:fI H nm):
  aN KC (aF KC) 49 [.aA nm 0,rg,sg, .pure (.int .i64 w)] c H=
   some (.pure (.tuple [.agg (gf r s w (bK n r.aa.length r.ae.length w) (bE H nm)).1.1.row, .bool (gf r s w (bK n r.aa.length r.ae.length w) (bE H nm)).1.2]),H.set nm (bw (gf r s w (bK n r.aa.length r.ae.length w) (bE H nm)).2)):=by
 have hlt:=gE hB;rw [sA KC rfl rfl,aaM hR hS (show oP H (.pure (.int .i64 w)) (.int .i64 w)from rfl)]
 have hget:=yp hB;have hE:fI ((hZ H).set nm (bw (bE H nm))) nm:=lk (by rw [dC];exact hlt);have hWE:bE ((hZ H).set nm (bw (bE H nm))) nm=bE H nm:=lq (by rw [dC];exact hlt);have M:=Ig (c:=c) (H:=(hZ H).set nm (bw (bE H nm))) r s w n hs hw hpl htl hwide hn hn0 hnb hE;rw [hWE]at M;generalize gf r s w (bK n r.aa.length r.ae.length w) (bE H nm)=res at M⊢;have hgs:((hZ H).set nm (bw res.2)).get nm=some (bw res.2):=ai.il (by rw [dC];exact hlt);have hfl: ∀w,oW [.pure (.int .u64 w)]=true:=fun w=>rfl;unfold iO;simp only [ni,hget,bw];simp only [bw]at M hgs;simp [oW,Bb,iY,M,hgs,lN,uY,sR,pV,oB,mm,refs,dN,cY,dedup,lO,ai.length_set,au.row]
theorem Oc (L k1 k2 k3:Nat)(s:ay):Su L k1 k2 k3 s=kJ (L,k1) (L,k2) (L,k3) s:=rfl
theorem Gg {rg:GV} (r:aC) (hR:oP H rg (.agg r.row)) (hp0:r.ae≠[]) (ht0:r.aa≠[]) (hpl:r.ae.length≤1000000) (htl:r.aa.length≤1000000) (hH:0<H.length)
  (hf1:H.get (H.length-1,ak c 22)=none) (hf2:H.get (H.length-1,ak c 27)=none) (hf3:H.get (H.length-1,ak c 53)=none):
  aN KC (aF KC) 48 [rg] c H=some (kJ (H.length-1,ak c 22) (H.length-1,ak c 27) (H.length-1,ak c 53) (aL r),
   cu H (H.length-1,ak c 22) (H.length-1,ak c 27) (H.length-1,ak c 53) 0 0 0 (aL r)):=by
 rw [sA KC rfl rfl,acL hR];have F:=Fh (c:=c) (H:=hZ H) r hp0 ht0 hpl htl (by rw [dC];exact hH) (nB _ _) (nB _ _) (nB _ _);simp only [dC]at F;have hL:H.length-1<(hZ H).length:=(by rw [dC];omega);have hL':H.length-1<H.length:=(by omega);have mz:ak c 22≠ak c 27:=(by unfold ak;omega);have mc:ak c 22≠ak c 53:=(by unfold ak;omega);have kK:ak c 27≠ak c 53:=(by unfold ak;omega);have k1:(H.length-1,ak c 27)≠((H.length-1,ak c 22):Nm):=fun e=>mz (Prod.mk.inj e).2.symm;have k2:(H.length-1,ak c 53)≠((H.length-1,ak c 22):Nm):=fun e=>mc (Prod.mk.inj e).2.symm;have k3:(H.length-1,ak c 53)≠((H.length-1,ak c 27):Nm):=fun e=>kK (Prod.mk.inj e).2.symm;generalize hE:((((hZ H).set (H.length-1,ak c 22) (.arr 1 ((aL r).ae.map aD) 0 false)).set (H.length-1,ak c 27) (.arr 2 ((aL r).ao.map aI.row) 0 false)).set (H.length-1,ak c 53) (.arr 2 ((aL r).aa.map br.row) 0 false))=E at F;have q1:E.get (H.length-1,ak c 22)=some (.arr 1 ((aL r).ae.map aD) 0 false):=(by rw [←hE,ai.aG _ k2.symm,ai.aG _ k1.symm];exact ai.il hL);have q2:E.get (H.length-1,ak c 27)=some (.arr 2 ((aL r).ao.map aI.row) 0 false):=(by rw [←hE,ai.aG _ k3.symm];exact ai.il (by rw [ai.length_set];exact hL));have q3:E.get (H.length-1,ak c 53)=some (.arr 2 ((aL r).aa.map br.row) 0 false):=(by rw [←hE];exact ai.il (by rw [ai.length_set,ai.length_set];exact hL));have g2: ∀b,(H.set (H.length-1,ak c 22) b).get (H.length-1,ak c 27)=none:=fun b=>(ai.aG b k1).trans hf2;have g3: ∀b b',((H.set (H.length-1,ak c 22) b).set (H.length-1,ak c 27) b').get (H.length-1,ak c 53)=none:=fun b b'=>(ai.aG b' k3).trans ((ai.aG b k2).trans hf3);have fr1: ∀l:List Int,im (l.map aD)=true:=fun l=>by induction l with|nil=>rfl|cons a l ih=>simp [im,mm,iY,aD,ih]
 have fr2: ∀l:List aI,im (l.map aI.row)=true:=fun l=>by induction l with|nil=>rfl|cons a l ih=>simp [im,mm,iY,aI.row,ih]
 have fr3: ∀l:List br,im (l.map br.row)=true:=fun l=>by induction l with|nil=>rfl|cons a l ih=>simp [im,mm,iY,br.row,ih]
 unfold iO;simp [ni,F,Oc,kJ,lN,uY,sR,Bc,pV,oB,refs,dN,cY,dedup,lO,mz,mc,kK,mz.symm,mc.symm,kK.symm,q1,q2,q3,hf1,g2,g3,fr1,fr2,fr3,cu]
theorem GK {sg ag bg:GV} {s:ay} {w v:Nat} {a b:au} (hS:oP H sg (.agg s.row)) (hA:oP H ag (.agg a.row)) (hB:oP H bg (.agg b.row)) (hp:w<s.ae.length) (hh:w<s.ao.length) (hw:a.aR=w) (ha:a.hand=0∨a.hand=1)
  (hp2:v<s.ae.length) (hh2:v<s.ao.length) (hw2:b.aR=v) (hb:b.hand=0∨b.hand=1) (hH:0<H.length):
  aN KC (aF KC) 53 [sg,ag,bg] c H=some (.pure (.bool (qt s w a v b)),H):=
 fO KC rfl rfl (aaL hS hA hB) rfl hH (fun H hH=>Ii (c:=c) hp hh hw ha hp2 hh2 hw2 hb hH) rfl
end
section
variable {c:Nat} {H:ai}
theorem Jz (l:List Int)(hn:l.length≤1000000)(Q:GX→bM→Prop)(hH:0<H.length): ∀k i:Nat,i+k=l.length→
  Q (.exit 0) ⟨[(4,aO)],H,26⟩→
  gZ KC aw 68 (lp Tryz.f68 0) [0,1,5] [4] Q [(0, .pure (.slice (l.map aD))),(1, .pure (.slice (l.map aD))),(5, .pure (.int .i64 i))] H 26:=by
 intro k
 induction k with
 |zero=>
  intro i hi h1;apply az;conv=>arg 4;whnf
  have: ¬i<l.length:=(by omega);simp [this,hH];exact h1
 |succ k ih=>
  intro i hi h1;have hia:i<l.length:=(by omega);have hw:=c8 (x:=(i:Int)+1) (by omega) (by omega);have ih':=ih (i+1) (by omega) h1;apply az;conv=>arg 4;whnf
  simp [hia,hH,aD,hw];simpa [aD]using ih'
theorem Vb (l:List Int)(hn:l.length≤1000000)(hH:0<H.length):
  aN KC (aF KC) 68 [.pure (.slice (l.map aD)), .pure (.slice (l.map aD))] c H=some (.pure (.bool true),H):=by
 refine eC rfl rfl rfl rfl rfl hH fun H hH=> ?_;refine aM (aK KC aw Tryz.func68 rfl rfl U7 (by simp) hH ?_);simp;refine Jz (H:=[]::H) l hn _ (by simp) l.length 0 (by omega) ?_;simp [ah]
theorem zL (r:ay)(hn:r.ao.length≤1000000)(Q:GX→bM→Prop): ∀k i:Nat,i+k=r.ao.length→
  Q (.exit 0) ⟨[(2, .aA (H.length,2) 0),(3, .aA (H.length,3) 0),(4,aO)],[(2,c7 r),(3,c7 r)]::H,67⟩→
  gZ KC aw 21 (lp Tryz.f21 0) [2,3,5] [2,3,4] Q [(2, .aA (H.length,2) 0),(3, .aA (H.length,3) 0),(5, .pure (.int .i64 i))] ([(2,c7 r),(3,c7 r)]::H) 67:=by
 intro k
 induction k with
 |zero=>
  intro i hi h1;apply az;conv=>arg 4;whnf
  have: ¬i<r.ao.length:=(by omega);simp [this,c7];simpa [c7]using h1
 |succ k ih=>
  intro i hi h1;have hia:i<r.ao.length:=(by omega);have hw:=c8 (x:=(i:Int)+1) (by omega) (by omega);have ih':=ih (i+1) (by omega) h1;apply az;conv=>arg 4;whnf
  simp [hia,aI.row,hw,c7];simpa [aI.row,c7]using ih'
theorem zM (r:ay)(hn:r.aa.length≤1000000)(Q:GX→bM→Prop): ∀k i:Nat,i+k=r.aa.length→
  Q (.exit 2) ⟨[(4,aO)],[(2,c7 r),(3,c7 r)]::H,67⟩→
  gZ KC aw 21 (lp Tryz.f21 1) [2,3,6] [4] Q [(2, .aA (H.length,2) 0),(3, .aA (H.length,3) 0),(6, .pure (.int .i64 i))] ([(2,c7 r),(3,c7 r)]::H) 67:=by
 intro k
 induction k with
 |zero=>
  intro i hi h1;apply az;conv=>arg 4;whnf
  have: ¬i<r.aa.length:=(by omega);simp [this,c7];simpa [c7]using h1
 |succ k ih=>
  intro i hi h1;have hia:i<r.aa.length:=(by omega);have hw:=c8 (x:=(i:Int)+1) (by omega) (by omega);have ih':=ih (i+1) (by omega) h1;apply az;conv=>arg 4;whnf
  simp [hia,br.row,hw,c7];simpa [br.row,c7]using ih'
structure gA (r:aC):Prop where
 p:r.ae.length≤1000000
 t:r.aa.length≤1000000
 s:r.seen.length≤1000000
 l:r.a7.length≤1000000
 a:r.aj.length≤1000000
theorem IG {a b:GV}{p q:PV}(h1:oP H a p)(h2:oP H b q):(bz H [a,b]).1.map canon=[.pure p, .pure q]:=by
 obtain⟨x1,y1⟩:=nv h1;obtain⟨x2,y2⟩:=nv (rG y1 h2);rw [iB,x1,iB,x2];rfl
structure CZ (s:ay):Prop where
 p:s.ae.length≤1000000
 h:s.ao.length≤1000000
 t:s.aa.length≤1000000
theorem zN (s:ay)(h:CZ s)(hH:0<H.length):
  bJ KC (aF KC) 21 [.pure (.agg s.row), .pure (.agg s.row)] c H=some (.pure (.bool true),H):=by
 refine aM (aK KC aw Tryz.func21 rfl rfl U0 (by simp) hH ?_);unfold ay.row;have E1:=fun c (H:ai) (hH:0<H.length)=>Vb (c:=c) (H:=H) s.ae h.p hH;simp [E1];have L1:=fun Q h1=>zL (H:=H) s h.h Q s.ao.length 0 (by omega) h1;simp [c7]at L1;refine L1 _ ?_;simp;have L2:=fun Q h1=>zM (H:=H) s h.t Q s.aa.length 0 (by omega) h1;simp [c7]at L2;refine L2 _ ?_;simp [ah]
theorem A8 {g1 g2:GV}(s:ay)(h:CZ s)(r1:oP H g1 (.agg s.row))(r2:oP H g2 (.agg s.row))(hH:0<H.length):
  aN KC (aF KC) 21 [g1,g2] c H=some (.pure (.bool true),H):=
 fO KC rfl rfl (IG r1 r2) rfl hH (fun H hH=>zN (c:=c) s h hH) rfl
end
section
def aU (hs:List aI)(w:Nat)(hand:Int):Int:=if hand=0 then (hs.getD w bD).l else (hs.getD w bD).r
theorem cB (s:ay)(w:Nat)(hand:Int):bC s w hand=aU s.ao w hand:=rfl
def ur (h:aI)(t:Int):Nat:=(if h.l=t then 1 else 0)+(if h.r=t then 1 else 0)
def fR:List aI→Int→Nat
 | [],_=>0
 |h::l,t=>ur h t+fR l t
theorem BO: ∀(l:List aI) (w:Nat) (h:aI) (t:Int),w<l.length→fR (l.set w h) t+ur (l.getD w bD) t=fR l t+ur h t
 | [],w,h,t,hw=>by simp at hw
 |x::l,0,h,t,hw=>by simp [fR];omega
 |x::l,w+1,h,t,hw=>by
  have:=BO l w h t (by simpa using hw);simp only [List.set_cons_succ,fR,List.getD_cons_succ]at this⊢;omega
theorem sm (l:List aI)(w:Nat)(hand v t:Int)(hw:w<l.length):fR (bs l w hand v) t+(if aU l w hand=t then 1 else 0)=fR l t+(if v=t then 1 else 0):=by
 unfold bs;have:=BO l w (if hand=0 then ⟨v,(l.getD w bD).r⟩else ⟨(l.getD w bD).l,v⟩) t hw;unfold aU;by_cases h:hand=0
 ·simp only [h,if_true,ur]at this⊢;omega
 ·simp only [h,if_false,ur]at this⊢;omega
theorem BP: ∀(l:List aI) (w:Nat) (t:Int),w<l.length→ur (l.getD w bD) t≤fR l t
 | [],w,t,hw=>by simp at hw
 |x::l,0,t,hw=>by simp [fR]
 |x::l,w+1,t,hw=>by
  have:=BP l w t (by simpa using hw);simp only [fR,List.getD_cons_succ]at this⊢;omega
theorem Od (l:List aI)(w:Nat)(hand t:Int)(hw:w<l.length)(h:aU l w hand=t):1≤fR l t:=by
 have:=BP l w t hw;unfold aU at h;unfold ur at this;split at h
 ·rw [if_pos h]at this;omega
 ·rw [if_pos h]at this;omega
theorem jV (l:List aI)(w:Nat)(hand v:Int):(bs l w hand v).length=l.length:=by simp [bs]
theorem eT {l:List aI}{w:Nat}{hand v:Int}(p:Nat)(hw:w<l.length):(bs l w hand v).getD p bD=if p=w then (if hand=0 then ⟨v,(l.getD w bD).r⟩else ⟨(l.getD w bD).l,v⟩)else l.getD p bD:=by
 unfold bs;by_cases h:p=w
 ·subst h;simp [List.getD_eq_getElem?_getD,hw]
 ·have h': ¬w=p:=fun e=>h e.symm;simp [List.getD_eq_getElem?_getD,List.getElem?_set,h,h']
theorem Dh {l:List aI}{w:Nat}{hand v:Int}(p:Nat)(hd:Int)(hw:w<l.length)(h0:hand=0∨hand=1)(h1:hd=0∨hd=1):aU (bs l w hand v) p hd=if p=w∧hd=hand then v else aU l p hd:=by
 unfold aU;rw [eT p hw];by_cases h:p=w
 ·subst h;rcases h0 with rfl|rfl<;>rcases h1 with rfl|rfl<;>simp
 ·simp [h]
theorem aW {α:Type}{l:List α}{i:Nat}{d:α}(h:i<l.length):l.getD i d=l[i]:=by simp [List.getD_eq_getElem?_getD,h]
theorem wJ {α:Type}(l:List α)(i:Nat)(d:α):l.set i (l.getD i d)=l:=by
 by_cases h:i<l.length
 ·rw [aW h];simp
 ·exact List.set_eq_of_length_le (by omega)
theorem Vc: ∀q:Fin 16,∀b∈[(1:Int),2,4],(if ((IntKind.i64.wrap (((q.1:Nat):Int).tdiv b)).tmod 2==1)then 0≤IntKind.i64.wrap (((q.1:Nat):Int)-b)∧IntKind.i64.wrap (((q.1:Nat):Int)-b)<16 else 0≤IntKind.i64.wrap (((q.1:Nat):Int)+b)∧IntKind.i64.wrap (((q.1:Nat):Int)+b)<16):=by decide
theorem JA {ts:List br}{t:Nat}{bit:Int}{on:Bool}(ht:t<ts.length)(hs:0≤(ts.getD t aQ).state∧(ts.getD t aQ).state<16)(hb:bit=1∨bit=2∨bit=4):
  ∃st,0≤st∧st<16∧dc ts t bit on=ts.set t ⟨(ts.getD t aQ).cell,st⟩:=by
 rw [ik];by_cases h:eF ts t bit=on
 ·rw [if_pos h];refine⟨_,hs.1,hs.2, ?_⟩;exact(wJ ts t aQ).symm
 ·rw [if_neg h];have hm:bit∈[(1:Int),2,4]:=(by simp;exact hb);have h0:decide ((0:Int)≤t)=true:=(by simp);rw [gD,h0,Bool.true_and]at h;simp only [Int.toNat_natCast]at h;obtain⟨q,hq⟩:=Int.eq_ofNat_of_zero_le hs.1;have hq16:q<16:=(by omega);have B:=Vc ⟨q,hq16⟩ bit hm;simp only [←hq]at B;cases on
  ·have h':((IntKind.i64.wrap ((ts.getD t aQ).state.tdiv bit)).tmod 2==1)=true:=(by simpa using h);rw [if_pos h']at B;exact⟨_,B.1,B.2,by simp⟩
  ·have h': ¬((IntKind.i64.wrap ((ts.getD t aQ).state.tdiv bit)).tmod 2==1)=true:=(by simpa using h);rw [if_neg h']at B;exact⟨_,B.1,B.2,by simp⟩
structure fB (r:aC)(s:ay):Prop extends Ff r s where
 pr: ∀x∈s.ae,0≤x∧x<r.wide*r.deep
 pn:s.ae.Nodup
 th: ∀t:Nat,t<s.aa.length→(fR s.ao t=1∧(s.aa.getD t aQ).cell= -1)∨(fR s.ao t=0∧0≤(s.aa.getD t aQ).cell∧(s.aa.getD t aQ).cell<r.wide*r.deep)
 st: ∀t:Nat,t<s.aa.length→0≤(s.aa.getD t aQ).state∧(s.aa.getD t aQ).state<16
structure AB (r:aC)(w:Nat)(a:au):Prop where
 aR:a.aR=w
 wl:w<r.ae.length
 hand:a.hand=0∨a.hand=1
 kind:1≤a.kind∧a.kind≤8
 take:a.kind=2→ ∃t:Nat,a.bf=t∧t<r.aa.length
 pR:a.kind=4→ ∃o:Nat,a.other=o∧o<r.ae.length∧o≠w
 step:a.kind=1→0≤a.cell∧a.cell<r.wide*r.deep
 form:kY a=true
theorem gn {r:aC}{s:ay}(h:Ff r s){w:Nat}{hand:Int}(hw:w<r.ae.length):aU s.ao w hand<s.aa.length∧ -1≤aU s.ao w hand:=by
 have hl:w<s.ao.length:=(by rw [h.hl];exact hw);have:=h.hr w hl;unfold aU;rw [aW hl];split
 ·exact⟨this.1,this.2.2.1⟩
 ·exact⟨this.2.1,this.2.2.2⟩
theorem DH {l:List Int}(hn:l.Nodup){w:Nat}{c:Int}(hc:c∉l):(l.set w c).Nodup:=by
 induction l generalizing w with
 |nil=>simp
 |cons x l ih=>
  simp only [List.mem_cons,not_or]at hc;rw [List.nodup_cons]at hn
  cases w with
  |zero=>simp [hc.2,hn.2]
  |succ w=>
   rw [List.set_cons_succ,List.nodup_cons];refine⟨fun h=> ?_,ih hn.2 hc.2⟩;rcases List.mem_or_eq_of_mem_set h with h|h
   ·exact hn.1 h
   ·exact hc.1 h.symm
section
variable {r:aC} {s:ay} {w:Nat} {a:au}
theorem lT (h:a.kind=1):dn s w a={s with ae:=s.ae.set w a.cell}:=by rw [iv,if_pos h]
theorem pg (h:a.kind=2):dn s w a={s with ao:=bs s.ao w a.hand a.bf,aa:=s.aa.set a.bf.toNat ⟨-1,(s.aa.getD a.bf.toNat aQ).state⟩}:=by rw [iv,if_neg (by omega),if_pos h]
theorem m7 (h:a.kind=3):dn s w a={s with ao:=bs s.ao w a.hand (-1),aa:=s.aa.set (aU s.ao w a.hand).toNat ⟨s.ae.getD w 0,(s.aa.getD (aU s.ao w a.hand).toNat aQ).state⟩}:=by rw [iv,if_neg (by omega),if_neg (by omega),if_pos h];rfl
theorem pj (h:a.kind=4):dn s w a={s with ao:=bs (bs s.ao a.other.toNat (dU s.ao a.other.toNat) (aU s.ao w a.hand)) w a.hand (-1)}:=by rw [iv,if_neg (by omega),if_neg (by omega),if_neg (by omega),if_pos h];rfl
theorem pk (h:a.kind=5):dn s w a={s with aa:=dc s.aa (aU s.ao w (1-a.hand)).toNat 1 true}:=by rw [iv,if_neg (by omega),if_neg (by omega),if_neg (by omega),if_neg (by omega),if_pos h];rfl
theorem po (h:a.kind=6):dn s w a={s with aa:=dc (dc (dc s.aa (aU s.ao w a.hand).toNat 2 false) (aU s.ao w a.hand).toNat 1 false) (aU s.ao w (1-a.hand)).toNat 2 true}:=by rw [iv,if_neg (by omega),if_neg (by omega),if_neg (by omega),if_neg (by omega),if_neg (by omega),if_pos h];rfl
theorem pq (h:a.kind=7):dn s w a={s with aa:=dc s.aa (aU s.ao w a.hand).toNat 4 true}:=by rw [iv,if_neg (by omega),if_neg (by omega),if_neg (by omega),if_neg (by omega),if_neg (by omega),if_neg (by omega),if_pos h];rfl
theorem pt (h:a.kind=8):dn s w a={s with aa:=dc s.aa (aU s.ao w a.hand).toNat 4 false}:=by rw [iv,if_neg (by omega),if_neg (by omega),if_neg (by omega),if_neg (by omega),if_neg (by omega),if_neg (by omega),if_neg (by omega)];rfl
theorem zO (h:a.kind=1):bV r s w a=(!(s.ae.contains a.cell) && jz r.wide (s.ae.getD w 0) a.cell):=by rw [cT,if_pos h]
theorem DI (h:a.kind=2):bV r s w a=(aU s.ao w a.hand== -1 && (s.aa.getD a.bf.toNat aQ).cell==s.ae.getD w 0):=by rw [cT,if_neg (by omega),if_pos h];rfl
theorem zt (h:a.kind=3):bV r s w a=decide (0≤aU s.ao w a.hand):=by rw [cT,if_neg (by omega),if_neg (by omega),if_pos h];rfl
theorem zP (h:a.kind=4):bV r s w a=(decide (0≤aU s.ao w a.hand) && jz r.wide (s.ae.getD w 0) (s.ae.getD a.other.toNat 0) && decide (0≤dU s.ao a.other.toNat)):=by rw [cT,if_neg (by omega),if_neg (by omega),if_neg (by omega),if_pos h];rfl
theorem zQ (h:a.kind=5):bV r s w a=(decide (0≤aU s.ao w a.hand) && (r.aa.getD (aU s.ao w a.hand).toNat cA).mI && decide (0≤aU s.ao w (1-a.hand))):=by rw [cT,if_neg (by omega),if_neg (by omega),if_neg (by omega),if_neg (by omega),if_pos h];rfl
theorem wK (h:a.kind=6):bV r s w a=(eF s.aa (aU s.ao w a.hand) 2 && !eF s.aa (aU s.ao w a.hand) 4 && decide (0≤aU s.ao w (1-a.hand)) && !eF s.aa (aU s.ao w (1-a.hand)) 2 && !eF s.aa (aU s.ao w (1-a.hand)) 4):=by rw [cT,if_neg (by omega),if_neg (by omega),if_neg (by omega),if_neg (by omega),if_neg (by omega),if_pos h];rfl
theorem zR (h:a.kind=7):bV r s w a=(decide (0≤aU s.ao w a.hand) && !eF s.aa (aU s.ao w a.hand) 4):=by rw [cT,if_neg (by omega),if_neg (by omega),if_neg (by omega),if_neg (by omega),if_neg (by omega),if_neg (by omega),if_pos h];rfl
theorem zS (h:a.kind=8):bV r s w a=eF s.aa (aU s.ao w a.hand) 4:=by rw [cT,if_neg (by omega),if_neg (by omega),if_neg (by omega),if_neg (by omega),if_neg (by omega),if_neg (by omega),if_neg (by omega)];rfl
theorem nJ (h:1≤a.kind∧a.kind≤8):a.kind=1∨a.kind=2∨a.kind=3∨a.kind=4∨a.kind=5∨a.kind=6∨a.kind=7∨a.kind=8:=by omega
theorem BQ {ts:List br}{x b:Int}(h:eF ts x b=true):0≤x:=by
 rw [gD]at h;simp at h;exact h.1
end
theorem o6 {r:aC}{s:ay}{w:Nat}{a:au}(hS:fB r s)(hA:AB r w a)(hp:bV r s w a=true):Fi s w a:=by
 have e1:=hS.pl;have e2:=hS.hl;have e3:=hS.tl;have wl:=hA.wl;have R0:=fun(hd:Int)=>gn hS.toFf (w:=w) (hand:=hd) wl;have nat: ∀x:Int,0≤x→x<s.aa.length→ ∃t:Nat,x=t∧t<s.aa.length:=fun x h1 h2=>⟨x.toNat,by omega,by omega⟩;have held:3≤a.kind→0≤aU s.ao w a.hand:=fun h3=>by
  rcases nJ hA.kind with k|k|k|k|k|k|k|k
  ·omega
  ·omega
  ·rw [zt k]at hp;simpa using hp
  ·rw [zP k]at hp;simp at hp;exact hp.1.1
  ·rw [zQ k]at hp;simp at hp;exact hp.1.1
  ·rw [wK k]at hp;simp at hp;exact BQ hp.1.1.1.1
  ·rw [zR k]at hp;simp at hp;exact hp.1
  ·rw [zS k]at hp;exact BQ hp
 refine⟨by omega,by omega,hA.aR,hA.hand,hA.kind,fun h=> ?_,fun h=>nat _ (held h) (R0 _).1,fun h=> ?_,fun h=>nat _ ?_ (R0 _).1⟩
 ·obtain⟨t,h1,h2⟩:=hA.take h;exact⟨t,h1,by omega⟩
 ·obtain⟨o,h1,h2,h3⟩:=hA.pR h;rw [zP h,h1]at hp;simp at hp;refine⟨o,h1,by omega,h3, ?_⟩;have:=hp.2;unfold dU at this⊢;split
  ·exact .inl rfl
  ·rename_i hh;rw [if_neg hh]at this;split
   ·exact .inr rfl
   ·rename_i hh2;rw [if_neg hh2]at this;omega
 ·show 0≤aU s.ao w (1-a.hand)
  rcases h with h|h
  ·rw [zQ h]at hp;simp at hp;exact hp.2
  ·rw [wK h]at hp;simp at hp;exact hp.1.1.2
theorem cell_of {r:aC}{s:ay}(hS:fB r s){w:Nat}(hw:w<r.ae.length):0≤s.ae.getD w 0∧s.ae.getD w 0<r.wide*r.deep:=by
 have hl:w<s.ae.length:=(by rw [hS.pl];exact hw);rw [aW hl];exact hS.pr _ (List.getElem_mem hl)
theorem fB.Vd {r:aC}{s:ay}(hS:fB r s)(ts:List br)(hl:ts.length=s.aa.length)(hc: ∀t:Nat,t<s.aa.length→(ts.getD t aQ).cell=(s.aa.getD t aQ).cell∧0≤(ts.getD t aQ).state∧(ts.getD t aQ).state<16):fB r {s with aa:=ts} where
 pl:=hS.pl
 hl:=hS.hl
 tl:=hl.trans hS.tl
 hr:=fun i h=>by have:=hS.hr i h;rw [←hl]at this;exact this
 pr:=hS.pr
 pn:=hS.pn
 th:=fun t h=>by
  have h':t<s.aa.length:=(by rw [←hl];exact h);rw [(hc t h').1];exact hS.th t h'
 st:=fun t h=>(hc t (by rw [←hl];exact h)).2
theorem tJ {α:Type}{l:List α}{i j:Nat}{x d:α}(hj:j<l.length):(l.set i x).getD j d=if i=j then x else l.getD j d:=by
 simp only [List.getD_eq_getElem?_getD,List.getElem?_set];split
 ·rename_i h;subst h;simp [hj]
 ·rfl
theorem qP {ts:List br}{t:Nat}{bit:Int}{on:Bool}(hst: ∀t:Nat,t<ts.length→0≤(ts.getD t aQ).state∧(ts.getD t aQ).state<16)(ht:t<ts.length)(hb:bit=1∨bit=2∨bit=4):
  (dc ts t bit on).length=ts.length∧ ∀u:Nat,u<ts.length→((dc ts t bit on).getD u aQ).cell=(ts.getD u aQ).cell∧0≤((dc ts t bit on).getD u aQ).state∧((dc ts t bit on).getD u aQ).state<16:=by
 obtain⟨st,h1,h2,h3⟩:=JA (on:=on) ht (hst t ht) hb;rw [h3];refine⟨by simp,fun u hu=> ?_⟩;rw [tJ hu];split
 ·rename_i e;subst e;exact⟨rfl,h1,h2⟩
 ·exact⟨rfl,hst u hu⟩
theorem fB.set {r:aC}{s:ay}(hS:fB r s){t:Nat}{bit:Int}{on:Bool}(ht:t<s.aa.length)(hb:bit=1∨bit=2∨bit=4):fB r {s with aa:=dc s.aa t bit on}:=by
 obtain⟨a,b⟩:=qP (on:=on) hS.st ht hb;exact hS.Vd _ a b
theorem fB.Si {r : aC} {s : ay} {w : Nat} {a : au} (hS : fB r s) (hA : AB r w a) (hp : bV r s w a = true) : fB r (dn s w a) := by
  have D := o6 hS hA hp
  have e1 := hS.pl
  have e2 := hS.hl
  have e3 := hS.tl
  have wl := hA.wl
  have hh := hA.hand
  have hk := hA.kind
  have hwh : w < s.ao.length := by omega
  have hrp : ∀ v : Int, -1 ≤ v → v < s.aa.length → ∀ i (h : i < (bs s.ao w a.hand v).length), (bs s.ao w a.hand v)[i].l < s.aa.length ∧ (bs s.ao w a.hand v)[i].r < s.aa.length ∧ -1 ≤ (bs s.ao w a.hand v)[i].l ∧ -1 ≤ (bs s.ao w a.hand v)[i].r := fun v h1 h2 i hi => by
    rw [← aW (d := bD) hi, eT i hwh]
    have hi' : i < s.ao.length := by simpa [bs] using hi
    have q := hS.hr i hi'
    split
    · rename_i e; subst e
      rw [aW hi']
      split
      · exact ⟨h2, q.2.1, h1, q.2.2.2⟩
      · exact ⟨q.1, h2, q.2.2.1, h1⟩
    · rw [aW hi']; exact q
  rcases nJ hA.kind with k1 | k2 | k3 | k4 | k5 | k6 | k7 | k8
  · rw [lT k1]
    rw [zO k1] at hp
    obtain ⟨c1, c2⟩ := hA.step k1
    simp only [Bool.and_eq_true, Bool.not_eq_true', List.contains_eq_mem] at hp
    have hnc : a.cell ∉ s.ae := by simpa using hp.1
    exact { pl := by simpa using hS.pl, hl := hS.hl, tl := hS.tl, hr := hS.hr, pr := fun x hx => by
              rcases List.mem_or_eq_of_mem_set hx with h | h
              · exact hS.pr x h
              · subst h; exact ⟨c1, c2⟩
            pn := DH hS.pn hnc, th := hS.th, st := hS.st }
  · obtain ⟨t, ht1, ht2⟩ := D.take k2
    have C := cell_of hS wl
    rw [DI k2] at hp
    rw [pg k2]
    simp only [ht1, Int.toNat_natCast, Bool.and_eq_true, beq_iff_eq] at hp ⊢
    obtain ⟨p1, p2⟩ := hp
    have cnt := fun u => sm s.ao w a.hand t u hwh
    have tt := hS.th t ht2
    have hrt := hrp t (by omega) (by omega)
    refine { pl := hS.pl, hl := by simpa [jV] using hS.hl, tl := by simpa using hS.tl, hr := fun i h => by rw [List.length_set]; exact hrt i h, pr := hS.pr, pn := hS.pn, th := fun u hu => ?_, st := fun u hu => ?_ }
    · have hu' : u < s.aa.length := by simpa using hu
      have q := hS.th u hu'
      have := cnt u
      rw [p1] at this
      rw [tJ hu']
      by_cases e : t = u
      · subst e
        have e1 : ¬ ((-1 : Int) = (t : Int)) := by omega
        simp only [e1, if_true, if_false, eq_self] at this ⊢
        exact .inl ⟨by omega, trivial⟩
      · have e1 : ¬ ((-1 : Int) = (u : Int)) := by omega
        have e2 : ¬ ((t : Int) = (u : Int)) := by omega
        simp only [e, e1, e2, if_false] at this ⊢
        rw [show fR (bs s.ao w a.hand t) u = fR s.ao u by omega]
        exact q
    · have hu' : u < s.aa.length := by simpa using hu
      rw [tJ hu']
      split
      · exact hS.st t ht2
      · exact hS.st u hu'
  · obtain ⟨t, ht1', ht2⟩ := D.held (by omega)
    rw [cB] at ht1'
    have C := cell_of hS wl
    rw [m7 k3]
    simp only [ht1', Int.toNat_natCast]
    have cnt := fun u => sm s.ao w a.hand (-1) u hwh
    have tt := hS.th t ht2
    have hrt := hrp (-1) (by omega) (by omega)
    have ca := Od s.ao w a.hand t hwh ht1'
    refine { pl := hS.pl, hl := by simpa [jV] using hS.hl, tl := by simpa using hS.tl, hr := fun i h => by rw [List.length_set]; exact hrt i h, pr := hS.pr, pn := hS.pn, th := fun u hu => ?_, st := fun u hu => ?_ }
    · have hu' : u < s.aa.length := by simpa using hu
      have q := hS.th u hu'
      have := cnt u
      rw [ht1'] at this
      have e1 : ¬ ((-1 : Int) = (u : Int)) := by omega
      rw [tJ hu']
      by_cases e : t = u
      · subst e
        simp only [e1, if_true, if_false] at this ⊢
        omega
      · have e2 : ¬ ((t : Int) = (u : Int)) := by omega
        simp only [e, e1, e2, if_false] at this ⊢
        rw [show fR (bs s.ao w a.hand (-1)) u = fR s.ao u by omega]
        exact q
    · have hu' : u < s.aa.length := by simpa using hu
      rw [tJ hu']
      split
      · exact hS.st t ht2
      · exact hS.st u hu'
  · obtain ⟨t, ht1', ht2⟩ := D.held (by omega)
    rw [cB] at ht1'
    obtain ⟨o, o1, o2, o3, o4⟩ := D.pR k4
    rw [pj k4]
    simp only [ht1', o1, Int.toNat_natCast]
    obtain ⟨tk, etk⟩ : ∃ tk, dU s.ao o = tk := ⟨_, rfl⟩
    rw [etk] at o4 ⊢
    have tkf : aU s.ao o tk = -1 := by
      unfold dU at etk
      unfold aU
      split at etk
      · subst etk; simpa using ‹_›
      · split at etk
        · subst etk; simpa using ‹_›
        · omega
    have hl1 : w < (bs s.ao o tk t).length := by rw [jV]; exact hwh
    have c1 := fun u => sm s.ao o tk t u o2
    have c2 := fun u => sm (bs s.ao o tk t) w a.hand (-1) u hl1
    have hw2 : aU (bs s.ao o tk t) w a.hand = t := by
      rw [Dh w a.hand o2 o4 hh, if_neg (fun e => o3 e.1.symm)]; exact ht1'
    refine { pl := hS.pl, hl := by simpa [jV] using hS.hl, tl := hS.tl, hr := fun i h => ?_, pr := hS.pr, pn := hS.pn, th := fun u hu => ?_, st := hS.st }
    · rw [← aW (d := bD) h, eT i hl1]
      have hi' : i < s.ao.length := by simpa [bs] using h
      have q := hS.hr i hi'
      have qw := hS.hr w hwh
      have ne : ¬ w = o := fun e => o3 e.symm
      have two : ((bs s.ao o tk t).getD i bD).l < s.aa.length ∧ ((bs s.ao o tk t).getD i bD).r < s.aa.length ∧ -1 ≤ ((bs s.ao o tk t).getD i bD).l ∧ -1 ≤ ((bs s.ao o tk t).getD i bD).r := by
        rw [eT i o2]
        split
        · rename_i e; subst e
          rw [aW hi']
          split
          · exact ⟨by show (t : Int) < _; omega, q.2.1, by show (-1 : Int) ≤ t; omega, q.2.2.2⟩
          · exact ⟨q.1, by show (t : Int) < _; omega, q.2.2.1, by show (-1 : Int) ≤ t; omega⟩
        · rw [aW hi']; exact q
      split
      · rename_i e; subst e
        split
        · exact ⟨by show (-1 : Int) < _; omega, two.2.1, by show (-1 : Int) ≤ -1; omega, two.2.2.2⟩
        · exact ⟨two.1, by show (-1 : Int) < _; omega, two.2.2.1, by show (-1 : Int) ≤ -1; omega⟩
      · exact two
    · have q := hS.th u hu
      have d1 := c1 u
      have d2 := c2 u
      rw [hw2] at d2
      rw [tkf] at d1
      have e1 : ¬ ((-1 : Int) = (u : Int)) := by omega
      simp only [e1, if_false] at d1 d2
      show (fR (bs (bs s.ao o tk t) w a.hand (-1)) u = 1 ∧ _) ∨ (fR (bs (bs s.ao o tk t) w a.hand (-1)) u = 0 ∧ _)
      rw [show fR (bs (bs s.ao o tk t) w a.hand (-1)) u = fR s.ao u by omega]
      exact q
  · obtain ⟨q, q1, q2⟩ := D.xF (.inl k5)
    rw [cB] at q1
    rw [pk k5]
    simp only [q1, Int.toNat_natCast]
    exact hS.set q2 (.inl rfl)
  · obtain ⟨t, ht1', ht2⟩ := D.held (by omega)
    rw [cB] at ht1'
    obtain ⟨q, q1, q2⟩ := D.xF (.inr k6)
    rw [cB] at q1
    rw [po k6]
    simp only [q1, ht1', Int.toNat_natCast]
    have S1 := hS.set (on := false) ht2 (.inr (.inl rfl) : (2 : Int) = 1 ∨ (2 : Int) = 2 ∨ (2 : Int) = 4)
    have S2 := S1.set (t := t) (on := false) (by simpa [dw] using ht2) (.inl rfl : (1 : Int) = 1 ∨ (1 : Int) = 2 ∨ (1 : Int) = 4)
    exact S2.set (t := q) (on := true) (by simpa [dw] using q2) (.inr (.inl rfl))
  · obtain ⟨t, ht1', ht2⟩ := D.held (by omega)
    rw [cB] at ht1'
    rw [pq k7]
    simp only [ht1', Int.toNat_natCast]
    exact hS.set ht2 (.inr (.inr rfl))
  · obtain ⟨t, ht1', ht2⟩ := D.held (by omega)
    rw [cB] at ht1'
    rw [pt k8]
    simp only [ht1', Int.toNat_natCast]
    exact hS.set ht2 (.inr (.inr rfl))
end
section
variable {c:Nat} {H:ai}
def lZ (a b:Int):Int:=IntKind.i64.wrap (BitVec.ofInt 64 a &&& ~~~(BitVec.ofInt 64 b)).toNat
@[simp] theorem Rb {K:Ctx}{t:TypeId}{a b:Int}:fL K .andNot t (.pure (.int .i64 a)) (.pure (.int .i64 b))=some (.int .i64 (lZ a b)):=by
 simp only [fL,oE,lZ];rfl
theorem JB: ∀q:Fin 16,∀b∈[(2:Int),4],(RH .i64 ((q.1:Nat):Int) b==b)=((IntKind.i64.wrap (((q.1:Nat):Int).tdiv b)).tmod 2==1):=by decide+kernel
def aP (r:aC)(s:ay):List PV:=[.int .i64 r.wide, .int .i64 r.deep, .slice (r.ae.map aV.row), .slice (r.aa.map a8.row), .slice (r.seen.map aD), .slice (r.a7.map aD), .slice (r.aj.map au.row), .slice (s.ae.map aD), .slice (s.ao.map aI.row), .slice (s.aa.map br.row)]
theorem bH (a:au):a.row=[.int .i64 a.bR, .int .i64 a.aR, .int .i64 a.kind, .int .i64 a.hand, .int .i64 a.bf, .int .i64 a.cell, .int .i64 a.other, .int .i64 a.dQ, .int .i64 a.mH]:=rfl
theorem BR {r:aC}{s:ay}{w:Nat}{a:au}(hw:w<s.ao.length)(h1:a.aR=w)(h2:a.hand=0∨a.hand=1)(hH:0<H.length):
  bJ KC (aF KC) 154 [.pure (.agg (aP r s)), .pure (.agg a.row)] c H=some (.pure (.int .i64 (aU s.ao w a.hand)),H):=by
 refine aM (aK KC aw Tryz.func154 rfl rfl NV (by simp) hH ?_);rw [bH];unfold aP aU;rw [aW hw];rcases h2 with h2|h2
 ·simp [h1,h2,hw,aI.row,ah]
 ·simp [h1,h2,hw,aI.row,ah]
theorem wL {r:aC}{s:ay}{w:Nat}{a:au}(hw:w<s.ao.length)(h1:a.aR=w)(h2:a.hand=0∨a.hand=1)(hH:0<H.length):
  bJ KC (aF KC) 153 [.pure (.agg (aP r s)), .pure (.agg a.row)] c H=some (.pure (.int .i64 (aU s.ao w (1-a.hand))),H):=by
 refine aM (aK KC aw Tryz.func153 rfl rfl NU (by simp) hH ?_);rw [bH];unfold aP aU;rw [aW hw];have w0:IntKind.i64.wrap (1-0)=1:=rfl;have w1:IntKind.i64.wrap (1-1)=0:=rfl;rcases h2 with h2|h2
 ·simp [h1,h2,hw,aI.row,ah,w0]
 ·simp [h1,h2,hw,aI.row,ah,w1]
theorem JC {r:aC}{s:ay}{t:Nat}{b:Int}(ht:t<s.aa.length)(hs:0≤(s.aa.getD t aQ).state∧(s.aa.getD t aQ).state<16)(hb:b=2∨b=4)(hH:0<H.length):
  bJ KC (aF KC) 157 [.pure (.agg (aP r s)), .pure (.int .i64 t), .pure (.int .i64 b)] c H=some (.pure (.bool (eF s.aa t b)),H):=by
 refine aM (aK KC aw Tryz.func157 rfl rfl NY (by simp) hH ?_);have hd:=gD s.aa t b;simp only [Int.toNat_natCast,aW ht]at hd hs;obtain⟨q,hq⟩:=Int.eq_ofNat_of_zero_le hs.1;have e:=JB ⟨q,by omega⟩ b (by simp;exact hb);simp only [←hq]at e;have h0:decide ((0:Int)≤t)=true:=(by simp);rw [h0,Bool.true_and,←e]at hd;unfold aP;simp [ht,br.row,ah,hd]
theorem BS (x:Int):(x=0∧x*x=0)∨(x=1∧x*x=1)∨(x= -1∧x*x=1)∨((x≠0∧x≠1∧x≠ -1)∧4≤x*x):=by
 by_cases h0:x=0
 ·subst h0;exact .inl ⟨rfl,rfl⟩
 by_cases h1:x=1
 ·subst h1;exact .inr (.inl ⟨rfl,rfl⟩)
 by_cases h2:x= -1
 ·subst h2;exact .inr (.inr (.inl ⟨rfl,rfl⟩))
 refine .inr (.inr (.inr ⟨⟨h0,h1,h2⟩, ?_⟩));rw [←Int.natAbs_mul_self];have:2≤x.natAbs:=(by omega);have:=Nat.mul_le_mul this this;omega
theorem Rc {x:Int}{n:Nat}(h1: -(n:Int)≤x)(h2:x≤n):0≤x*x∧x*x≤((n*n:Nat):Int):=by
 rw [←Int.natAbs_mul_self];have:x.natAbs≤n:=(by omega);have:=Nat.mul_le_mul this this;omega
theorem Oe {w a b:Int}(hw:1≤w)(hw6:w≤1000)(ha:0≤a)(ha2:a<1000000)(hb:0≤b)(hb2:b<1000000):
  (IntKind.i64.wrap (IntKind.i64.wrap (IntKind.i64.wrap (a.tmod w-b.tmod w)*IntKind.i64.wrap (a.tmod w-b.tmod w))+IntKind.i64.wrap (IntKind.i64.wrap (IntKind.i64.wrap (a.tdiv w)-IntKind.i64.wrap (b.tdiv w))*IntKind.i64.wrap (IntKind.i64.wrap (a.tdiv w)-IntKind.i64.wrap (b.tdiv w))))==1)=jz w a b:=by
 rw [pB];have h1:0≤a.tmod w:=Int.tmod_nonneg _ ha;have h2:a.tmod w<w:=Int.tmod_lt_of_pos _ (by omega);have h3:0≤b.tmod w:=Int.tmod_nonneg _ hb;have h4:b.tmod w<w:=Int.tmod_lt_of_pos _ (by omega);have h5:0≤a.tdiv w:=Int.tdiv_nonneg ha (by omega);have h6:a.tdiv w≤a:=Int.tdiv_le_self _ ha;have h7:0≤b.tdiv w:=Int.tdiv_nonneg hb (by omega);have h8:b.tdiv w≤b:=Int.tdiv_le_self _ hb;rw [c8 (x:=a.tmod w-b.tmod w) (by omega) (by omega),c8 (x:=a.tdiv w) (by omega) (by omega),c8 (x:=b.tdiv w) (by omega) (by omega),c8 (x:=a.tdiv w-b.tdiv w) (by omega) (by omega)];have hx1: -(1000:Int)≤a.tmod w-b.tmod w:=(by omega);have hx2:a.tmod w-b.tmod w≤1000:=(by omega);have hy1: -(1000000:Int)≤a.tdiv w-b.tdiv w:=(by omega);have hy2:a.tdiv w-b.tdiv w≤1000000:=(by omega);generalize a.tmod w-b.tmod w=x at hx1 hx2⊢;generalize a.tdiv w-b.tdiv w=y at hy1 hy2⊢;have qx:=Rc (n:=1000) hx1 hx2;have qy:=Rc (n:=1000000) hy1 hy2;rw [c8 (x:=x*x) (by omega) (by omega),c8 (x:=y*y) (by omega) (by omega),c8 (x:=x*x+y*y) (by omega) (by omega)];have cx:=BS x;have cy:=BS y;rw [Bool.eq_iff_iff];simp only [Bool.or_eq_true,Bool.and_eq_true,beq_iff_eq];omega
theorem GL {w d a b:Int}{x1 x2 x3 x4 x5:PV}(hw:1≤w)(hw6:w≤1000)(ha:0≤a)(ha2:a<1000000)(hb:0≤b)(hb2:b<1000000)(hH:0<H.length):
  bJ KC (aF KC) 155 [.pure (.agg [.int .i64 w, .int .i64 d,x1,x2,x3,x4,x5]), .pure (.int .i64 a), .pure (.int .i64 b)] c H=some (.pure (.bool (jz w a b)),H):=by
 refine aM (aK KC aw Tryz.func155 rfl rfl NW (by simp) hH ?_);have e:=Oe hw hw6 ha ha2 hb hb2;have w0: ¬w=0:=(by omega);simp [w0,ah];exact e
theorem BT {w d a b:Int}{x1 x2 x3 x4 x5:PV}(hw:1≤w)(hw6:w≤1000)(ha:0≤a)(ha2:a<1000000)(hb:0≤b)(hb2:b<1000000)(hH:0<H.length):
  aN KC (aF KC) 155 [.pure (.agg [.int .i64 w, .int .i64 d,x1,x2,x3,x4,x5]), .pure (.int .i64 a), .pure (.int .i64 b)] c H=some (.pure (.bool (jz w a b)),H):=
 eC rfl rfl rfl rfl rfl hH fun H hH=>GL hw hw6 ha ha2 hb hb2 hH
noncomputable def JD:List Int→Int→Int:=ov fun l x=>oQ (fun j=>l.getD j 0==x) l.length 0
theorem wM (l:List Int)(x:Int):JD l x=oQ (fun j=>l.getD j 0==x) l.length 0:=by rw [JD,cN]
theorem DJ (l:List Int)(x:Int)(hn:l.length≤1000000)(Q:GX→bM→Prop)(hH:0<H.length): ∀k i:Nat,i+k=l.length→
  (oQ (fun j=>l.getD j 0==x) k i= -1→Q (.exit 0) ⟨[(4,aO)],H,19⟩)→(0≤oQ (fun j=>l.getD j 0==x) k i→Q .ret ⟨[(4, .pure (.int .i64 (oQ (fun j=>l.getD j 0==x) k i)))],H,19⟩)→
  gZ KC aw 131 (lp Tryz.f131 0) [0,1,7,8] [4] Q [(0, .pure (.slice (l.map aD))),(1, .pure (.int .i64 x)),(7, .pure (.int .i64 l.length)),(8, .pure (.int .i64 i))] H 19:=by
 intro k
 induction k with
 |zero=>
  intro i hi h1 h2;apply az;conv=>arg 4;whnf
  have: ¬i<l.length:=(by omega);simp [this,hH];exact h1 rfl
 |succ k ih=>
  intro i hi h1 h2;have hia:i<l.length:=(by omega);have hw:=c8 (x:=(i:Int)+1) (by omega) (by omega);have ih':=ih (i+1) (by omega);have hg:l.getD i 0=l[i]:=aW hia;unfold oQ at h1 h2;simp only [hg]at h1 h2;apply az;conv=>arg 4;whnf
  by_cases he:x=l[i]
  ·have he2:(l[i]==x)=true:=(by simp [he]);simp only [he2,if_true]at h1 h2;simp [hia,hH,aD,he];exact h2 (by omega)
  ·have he':(x==l[i])=false:=(by simpa using he);have he2: ¬(l[i]==x)=true:=(by simp;exact fun e=>he e.symm);rw [if_neg he2]at h1 h2;simp [hia,hH,aD,he',hw];simpa [aD]using ih' h1 h2
theorem so (l:List Int)(x:Int)(hn:l.length≤1000000)(hH:0<H.length):aN KC (aF KC) 131 [.pure (.slice (l.map aD)), .pure (.int .i64 x)] c H=some (.pure (.int .i64 (JD l x)),H):=by
 refine eC rfl rfl rfl rfl rfl hH fun H hH=> ?_;refine aM (aK KC aw Tryz.func131 rfl rfl ND (by simp) hH ?_);have hd:=wM l x;simp;refine DJ (H:=[]::H) l x hn _ (by simp) l.length 0 (by omega) (fun h=> ?_) (fun h=> ?_)
 ·rw [←hd]at h;simp [h,ah]
 ·rw [←hd];simp [ah]
theorem od (l:List Int)(x:Int)(hn:l.length≤1000000)(hH:0<H.length):aN KC (aF KC) 115 [.pure (.slice (l.map aD)), .pure (.int .i64 x)] c H=some (.pure (.bool (l.contains x)),H):=by
 refine eC rfl rfl rfl rfl rfl hH fun H hH=> ?_;refine aM (aK KC aw Tryz.func115 rfl rfl Nx (by simp) hH ?_);have I:=fun c (H:ai) (hH:0<H.length)=>so (c:=c) (H:=H) l x hn hH;have e:decide (0≤JD l x)=l.contains x:=by
  rw [wM,Bool.eq_iff_iff,decide_eq_true_eq,oS,List.contains_iff_mem];constructor
  ·rintro⟨j,_,h2,h3⟩;have hj:j<l.length:=(by omega);rw [aW hj]at h3;have:l[j]=x:=(by simpa using h3);exact this▸List.getElem_mem hj
  ·intro h;obtain⟨j,hj,rfl⟩:=List.getElem_of_mem h;exact⟨j,by omega,by omega,by rw [aW hj];simp⟩
 simp only [List.contains_eq_mem]at e;simp [I,ah];simpa using e
theorem BU {r:aC}{s:ay}{w:Nat}(hw:w<s.ao.length)(hH:0<H.length):
  bJ KC (aF KC) 156 [.pure (.agg (aP r s)), .pure (.int .i64 w)] c H=some (.pure (.int .i64 (dU s.ao w)),H):=by
 refine aM (aK KC aw Tryz.func156 rfl rfl NX (by simp) hH ?_);have I:=fun c (H:ai) (hH:0<H.length)=>so (c:=c) (H:=H) [s.ao[w].l,s.ao[w].r] (-1) (by simp) hH;have e:JD [s.ao[w].l,s.ao[w].r] (-1)=dU s.ao w:=by
  rw [wM];unfold dU;rw [aW hw];simp [oQ]
 rw [e]at I;simp [aD]at I;have gs: ∀a b:PV,kq KC 84 (.bX [a,b]) none none none=some (.pure (.slice [[a],[b]])):=fun a b=>by
  have t53:uo Tryz.prog 84=some (2,3):=(by kernel_rfl);unfold kq;simp [chunks,t53]
 unfold aP;simp [hw,aI.row,gs,I,ah]
end
section
variable {c:Nat} {H:ai}
structure WB (r:aC):Prop where
 w1:1≤r.wide
 w6:r.wide≤1000
 n6:r.wide*r.deep<1000000
 pl:r.ae.length≤1000000
 tl:r.aa.length≤1000000
section
variable {r:aC} {s:ay} {w:Nat} {a:au}
theorem ma (hS:Ff r s)(hA:AB r w a)(hH:0<H.length):aN KC (aF KC) 154 [.pure (.agg (aP r s)), .pure (.agg a.row)] c H=some (.pure (.int .i64 (aU s.ao w a.hand)),H):=
 eC rfl rfl rfl rfl rfl hH fun H hH=>BR (by rw [hS.hl];exact hA.wl) hA.aR hA.hand hH
theorem ti (hS:Ff r s)(hA:AB r w a)(hH:0<H.length):aN KC (aF KC) 153 [.pure (.agg (aP r s)), .pure (.agg a.row)] c H=some (.pure (.int .i64 (aU s.ao w (1-a.hand))),H):=
 eC rfl rfl rfl rfl rfl hH fun H hH=>wL (by rw [hS.hl];exact hA.wl) hA.aR hA.hand hH
theorem wN (hS:fB r s){t:Nat}{b:Int}(ht:t<s.aa.length)(hb:b=2∨b=4)(hH:0<H.length):aN KC (aF KC) 157 [.pure (.agg (aP r s)), .pure (.int .i64 t), .pure (.int .i64 b)] c H=some (.pure (.bool (eF s.aa t b)),H):=
 eC rfl rfl rfl rfl rfl hH fun H hH=>JC ht (hS.st t ht) hb hH
theorem Og {o:Nat}(ho:o<s.ao.length)(hH:0<H.length):aN KC (aF KC) 156 [.pure (.agg (aP r s)), .pure (.int .i64 o)] c H=some (.pure (.int .i64 (dU s.ao o)),H):=
 eC rfl rfl rfl rfl rfl hH fun H hH=>BU ho hH
theorem DK (hS:fB r s)(hW:WB r)(hA:AB r w a)(hk:a.kind=1)(hH:0<H.length):
  aN KC (aF KC) 135 [.pure (.agg (aP r s)), .pure (.agg a.row)] c H=some (.pure (.bool (bV r s w a)),H):=by
 refine eC rfl rfl rfl rfl rfl hH fun H hH=> ?_;refine aM (aK KC aw Tryz.func135 rfl rfl NG (by simp) hH ?_);have hwp:w<s.ae.length:=(by rw [hS.pl];exact hA.wl);have C1:=cell_of hS hA.wl;have C2:=hA.step hk;have n6:=hW.n6;have hd:=zO (r:=r) (s:=s) (w:=w) hk;rw [aW hwp]at hd C1;have N:=fun c (H:ai) (hH:0<H.length)=>BT (c:=c) (H:=H) (w:=r.wide) (d:=r.deep) (a:=s.ae[w]) (b:=a.cell) (x1:= .slice (r.ae.map aV.row)) (x2:= .slice (r.aa.map a8.row)) (x3:= .slice (r.seen.map aD)) (x4:= .slice (r.a7.map aD)) (x5:= .slice (r.aj.map au.row)) hW.w1 hW.w6 C1.1 (by omega) C2.1 (by omega) hH;have CT:=fun c (H:ai) (hH:0<H.length)=>od (c:=c) (H:=H) s.ae a.cell (by rw [hS.pl];exact hW.pl) hH;rw [bH];unfold aP
 cases hn:jz r.wide s.ae[w] a.cell with
 |false=>
  simp [hn]at hd;simp [hA.aR,hwp,aD,N,hn,ah,hd]
 |true=>
  rw [hn,Bool.and_true]at hd
  cases hc:s.ae.contains a.cell with
  |false=>
   rw [hc]at hd CT;simp [hA.aR,hwp,aD,N,hn,CT,ah,hd]
  |true=>
   rw [hc]at hd CT;simp [hA.aR,hwp,aD,N,hn,CT,ah,hd]
theorem DL (hS:fB r s)(hA:AB r w a)(hk:a.kind=2)(hH:0<H.length):
  aN KC (aF KC) 137 [.pure (.agg (aP r s)), .pure (.agg a.row)] c H=some (.pure (.bool (bV r s w a)),H):=by
 refine eC rfl rfl rfl rfl rfl hH fun H hH=> ?_;refine aM (aK KC aw Tryz.func137 rfl rfl NH (by simp) hH ?_);have hwp:w<s.ae.length:=(by rw [hS.pl];exact hA.wl);obtain⟨t,ht,htl⟩:=hA.take hk;have htl':t<s.aa.length:=(by rw [hS.tl];exact htl);have R:=gn hS.toFf (w:=w) (hand:=a.hand) hA.wl;have hd:=DI (r:=r) (s:=s) (w:=w) hk;rw [aW hwp,ht,Int.toNat_natCast,aW htl']at hd;have E:=fun c (H:ai) (hH:0<H.length)=>ma (c:=c) (H:=H) hS.toFf hA hH;rw [bH]at E⊢;unfold aP at E⊢;by_cases h0:aU s.ao w a.hand<0
 ·have h1:aU s.ao w a.hand= -1:=(by omega);rw [h1]at hd E;simp at hd;simp [hA.aR,ht]at E;simp [hA.aR,hwp,aD,E,br.row,ht,htl',ah,hd]
 ·have h1: ¬aU s.ao w a.hand= -1:=(by omega);have h1':(aU s.ao w a.hand== -1)=false:=(by simpa using h1);rw [h1',Bool.false_and]at hd;simp [hA.aR,ht]at E;simp [hA.aR,ht,E,h0,ah,hd]
theorem GM (hS:fB r s)(hA:AB r w a)(hk:a.kind=3)(hH:0<H.length):
  aN KC (aF KC) 139 [.pure (.agg (aP r s)), .pure (.agg a.row)] c H=some (.pure (.bool (bV r s w a)),H):=by
 refine eC rfl rfl rfl rfl rfl hH fun H hH=> ?_;refine aM (aK KC aw Tryz.func139 rfl rfl NJ (by simp) hH ?_);have hd:=zt (r:=r) (s:=s) (w:=w) hk;have E:=fun c (H:ai) (hH:0<H.length)=>ma (c:=c) (H:=H) hS.toFf hA hH;rw [bH]at E⊢;unfold aP at E⊢;simp [E,ah,hd]
theorem DM (hS:fB r s)(hW:WB r)(hA:AB r w a)(hk:a.kind=4)(hH:0<H.length):
  aN KC (aF KC) 141 [.pure (.agg (aP r s)), .pure (.agg a.row)] c H=some (.pure (.bool (bV r s w a)),H):=by
 refine eC rfl rfl rfl rfl rfl hH fun H hH=> ?_;refine aM (aK KC aw Tryz.func141 rfl rfl NL (by simp) hH ?_);have hwp:w<s.ae.length:=(by rw [hS.pl];exact hA.wl);obtain⟨o,ho,hol,_⟩:=hA.pR hk;have hop:o<s.ae.length:=(by rw [hS.pl];exact hol);have hoh:o<s.ao.length:=(by rw [hS.hl];exact hol);have C1:=cell_of hS hA.wl;have C2:=cell_of hS hol;have n6:=hW.n6;have hd:=zP (r:=r) (s:=s) (w:=w) hk;rw [aW hwp,ho,Int.toNat_natCast,aW hop]at hd;rw [aW hwp]at C1;rw [aW hop]at C2;have N:=fun c (H:ai) (hH:0<H.length)=>BT (c:=c) (H:=H) (w:=r.wide) (d:=r.deep) (a:=s.ae[w]) (b:=s.ae[o]) (x1:= .slice (r.ae.map aV.row)) (x2:= .slice (r.aa.map a8.row)) (x3:= .slice (r.seen.map aD)) (x4:= .slice (r.a7.map aD)) (x5:= .slice (r.aj.map au.row)) hW.w1 hW.w6 C1.1 (by omega) C2.1 (by omega) hH;have E:=fun c (H:ai) (hH:0<H.length)=>ma (c:=c) (H:=H) hS.toFf hA hH;have G:=fun c (H:ai) (hH:0<H.length)=>Og (c:=c) (H:=H) (r:=r) hoh hH;rw [bH]at E⊢;unfold aP at E G⊢;by_cases h0:0≤aU s.ao w a.hand
 ·cases hn:jz r.wide s.ae[w] s.ae[o]with
  |false=>
   simp [hn]at hd;simp [hA.aR,ho]at E;simp [hA.aR,hwp,aD,E,h0,N,hn,ho,hop,ah,hd]
  |true=>
   simp [hn,h0]at hd;simp [hA.aR,ho]at E;simp [hA.aR,hwp,aD,E,h0,N,hn,ho,hop,G,ah,hd]
 ·simp [h0]at hd;simp [hA.aR,ho]at E;simp [hA.aR,ho,E,h0,ah,hd]
theorem DN (hS:fB r s)(hA:AB r w a)(hk:a.kind=5)(hH:0<H.length):
  aN KC (aF KC) 143 [.pure (.agg (aP r s)), .pure (.agg a.row)] c H=some (.pure (.bool (bV r s w a)),H):=by
 refine eC rfl rfl rfl rfl rfl hH fun H hH=> ?_;refine aM (aK KC aw Tryz.func143 rfl rfl NM (by simp) hH ?_);have R:=gn hS.toFf (w:=w) (hand:=a.hand) hA.wl;have hd:=zQ (r:=r) (s:=s) (w:=w) hk;have E:=fun c (H:ai) (hH:0<H.length)=>ma (c:=c) (H:=H) hS.toFf hA hH;have G:=fun c (H:ai) (hH:0<H.length)=>ti (c:=c) (H:=H) hS.toFf hA hH;rw [bH]at E G⊢;unfold aP at E G⊢;by_cases h0:0≤aU s.ao w a.hand
 ·obtain⟨t,ht⟩:=Int.eq_ofNat_of_zero_le h0;have htl:t<r.aa.length:=(by have:=hS.tl;omega);rw [ht,Int.toNat_natCast,aW htl]at hd;rw [ht]at E;have ht0:(0:Int)≤t:=by omega
  cases hc:r.aa[t].mI with
  |false=>
   simp [hc]at hd;simp [E,ht0,htl,a8.row,hc,ah,hd]
  |true=>
   simp [hc]at hd;simp [E,G,ht0,htl,a8.row,hc,ah,hd]
 ·simp [h0]at hd;simp [E,h0,ah,hd]
theorem DP (hS:fB r s)(hA:AB r w a)(hk:a.kind=6)(hH:0<H.length):
  aN KC (aF KC) 145 [.pure (.agg (aP r s)), .pure (.agg a.row)] c H=some (.pure (.bool (bV r s w a)),H):=by
 refine eC rfl rfl rfl rfl rfl hH fun H hH=> ?_;refine aM (aK KC aw Tryz.func145 rfl rfl NO (by simp) hH ?_);have R:=gn hS.toFf (w:=w) (hand:=a.hand) hA.wl;have R2:=gn hS.toFf (w:=w) (hand:=1-a.hand) hA.wl;have hd:=wK (r:=r) (s:=s) (w:=w) hk;have E:=fun c (H:ai) (hH:0<H.length)=>ma (c:=c) (H:=H) hS.toFf hA hH;have G:=fun c (H:ai) (hH:0<H.length)=>ti (c:=c) (H:=H) hS.toFf hA hH;have V:=fun(t:Nat) (ht:t<s.aa.length) (b:Int) (hb:b=2∨b=4) c (H:ai) (hH:0<H.length)=>wN (c:=c) (H:=H) hS ht hb hH;rw [bH]at E G⊢;unfold aP at E G V⊢;have neg: ∀x b:Int,¬0≤x→eF s.aa x b=false:=fun x b h=>(by rw [gD,decide_eq_false h];rfl);by_cases h0:0≤aU s.ao w a.hand
 ·obtain⟨t,ht⟩:=Int.eq_ofNat_of_zero_le h0;have htl:t<s.aa.length:=(by omega);rw [ht]at hd E;have ht0:(0:Int)≤t:=(by omega);have V1:=V t htl 2 (.inl rfl);have V2:=V t htl 4 (.inr rfl);by_cases k0:0≤aU s.ao w (1-a.hand)
  ·obtain⟨u,hu⟩:=Int.eq_ofNat_of_zero_le k0;have hul:u<s.aa.length:=(by omega);rw [hu]at hd G;have hu0:(0:Int)≤u:=(by omega);have V3:=V u hul 2 (.inl rfl);have V4:=V u hul 4 (.inr rfl)
   cases x1:eF s.aa t 2 with
   |false=>
    rw [x1]at hd V1;simp at hd;simp [E,G,ht0,hu0,V1,ah,hd]
   |true=>
    cases x2:eF s.aa t 4 with
    |true=>
     rw [x1,x2]at hd;rw [x1]at V1;rw [x2]at V2;simp at hd;simp [E,G,ht0,hu0,V1,V2,ah,hd]
    |false=>
     cases x3:eF s.aa u 2 with
     |true=>
      rw [x1,x2,x3]at hd;rw [x1]at V1;rw [x2]at V2;rw [x3]at V3;simp at hd;simp [E,G,ht0,hu0,V1,V2,V3,ah,hd]
     |false=>
      rw [x1,x2,x3]at hd;rw [x1]at V1;rw [x2]at V2;rw [x3]at V3;simp at hd;simp [E,G,ht0,hu0,V1,V2,V3,V4,ah,hd]
  ·simp [k0]at hd;simp [E,G,ht0,k0,ah,hd]
 ·rw [neg _ _ h0]at hd;simp at hd;simp [E,h0,ah,hd]
theorem BV (hS:fB r s)(hA:AB r w a)(hk:a.kind=7)(hH:0<H.length):
  aN KC (aF KC) 147 [.pure (.agg (aP r s)), .pure (.agg a.row)] c H=some (.pure (.bool (bV r s w a)),H):=by
 refine eC rfl rfl rfl rfl rfl hH fun H hH=> ?_;refine aM (aK KC aw Tryz.func147 rfl rfl NQ (by simp) hH ?_);have R:=gn hS.toFf (w:=w) (hand:=a.hand) hA.wl;have hd:=zR (r:=r) (s:=s) (w:=w) hk;have E:=fun c (H:ai) (hH:0<H.length)=>ma (c:=c) (H:=H) hS.toFf hA hH;have V:=fun(t:Nat) (ht:t<s.aa.length) c (H:ai) (hH:0<H.length)=>wN (c:=c) (H:=H) hS ht (b:=4) (.inr rfl) hH;rw [bH]at E⊢;unfold aP at E V⊢;by_cases h0:0≤aU s.ao w a.hand
 ·obtain⟨t,ht⟩:=Int.eq_ofNat_of_zero_le h0;have htl:t<s.aa.length:=(by omega);rw [ht]at hd E;have ht0:(0:Int)≤t:=(by omega);have V1:=V t htl;simp at hd;simp [E,ht0,V1,ah,hd]
 ·simp [h0]at hd;simp [E,h0,ah,hd]
theorem DQ (hS:fB r s)(hA:AB r w a)(hk:a.kind=8)(hH:0<H.length):
  aN KC (aF KC) 149 [.pure (.agg (aP r s)), .pure (.agg a.row)] c H=some (.pure (.bool (bV r s w a)),H):=by
 refine eC rfl rfl rfl rfl rfl hH fun H hH=> ?_;refine aM (aK KC aw Tryz.func149 rfl rfl NS (by simp) hH ?_);have R:=gn hS.toFf (w:=w) (hand:=a.hand) hA.wl;have hd:=zS (r:=r) (s:=s) (w:=w) hk;have E:=fun c (H:ai) (hH:0<H.length)=>ma (c:=c) (H:=H) hS.toFf hA hH;have V:=fun(t:Nat) (ht:t<s.aa.length) c (H:ai) (hH:0<H.length)=>wN (c:=c) (H:=H) hS ht (b:=4) (.inr rfl) hH;rw [bH]at E⊢;unfold aP at E V⊢;by_cases h0:0≤aU s.ao w a.hand
 ·obtain⟨t,ht⟩:=Int.eq_ofNat_of_zero_le h0;have htl:t<s.aa.length:=(by omega);rw [ht]at hd E;have ht0:(0:Int)≤t:=(by omega);have V1:=V t htl;simp [E,ht0,V1,ah,hd]
 ·rw [gD,decide_eq_false h0]at hd;simp at hd;simp [E,h0,ah,hd]
theorem Dk {k:Nat}(hk:1≤k∧k≤8)(hH:0<H.length):aN KC (aF KC) 127 [.pure (.int .i64 k)] c H=some (.pure (.agg [.fn (135+2*(k-1)), .fn (136+2*(k-1))]),H):=by
 refine aM (ba KC aw Tryz.func127 rfl rfl NB rfl rfl rfl (by simp) hH ?_);obtain⟨k1,k8⟩:=hk
 match k,k1,k8 with
 |1,_,_=>simp [ah]
 |2,_,_=>simp [ah]
 |3,_,_=>simp [ah]
 |4,_,_=>simp [ah]
 |5,_,_=>simp [ah]
 |6,_,_=>simp [ah]
 |7,_,_=>simp [ah]
 |8,_,_=>simp [ah]
end
end
theorem BW {l m:List Int}:eQ l m=true↔ ∃x,x∈l∧x∈m:=by
 rw [ke];simp
theorem xn {l m:List Int}:eQ l m=false↔ ∀x,x∈l→x∉m:=by
 rw [←Bool.not_eq_true,BW];constructor
 ·intro h x h1 h2;exact h ⟨x,h1,h2⟩
 ·rintro h ⟨x,h1,h2⟩;exact h x h1 h2
structure JZ (t u:Touch):Prop where
 ap: ∀x,x∈t.ae→x∉u.ae
 bR: ∀x,x∈t.aa→x∉u.aa
 ac: ∀x,x∈t.cells→x∉u.cells
theorem JZ.symm {t u:Touch}(h:JZ t u):JZ u t:=⟨fun x a b=>h.ap x b a,fun x a b=>h.bR x b a,fun x a b=>h.ac x b a⟩
theorem GN {t u:Touch}:xG t u=false↔JZ t u:=by
 rw [xH];simp only [Bool.or_eq_false_iff,xn];exact⟨fun h=>⟨h.1,h.2.1,h.2.2⟩,fun h=>⟨h.ap,h.bR,h.ac⟩⟩
theorem Gb {s:ay}{w v:Nat}{a b:au}:qt s w a v b=true↔JZ (b8 s w a) (b8 s v b):=by
 rw [vE,←GN];simp
theorem py {s:ay}{w:Nat}{a:au}(h:a.kind=1):b8 s w a=⟨[a.aR],[],[s.ae.getD w 0,a.cell]⟩:=by rw [dS,if_pos h]
theorem wO {s:ay}{w:Nat}{a:au}(h:a.kind=2):b8 s w a=⟨[a.aR],[a.bf],[]⟩:=by rw [dS,if_neg (by omega),if_pos h]
theorem wQ {s:ay}{w:Nat}{a:au}(h:a.kind=4):b8 s w a=⟨[a.aR,a.other],[aU s.ao w a.hand],[]⟩:=by rw [dS,if_neg (by omega),if_neg (by omega),if_pos h];rfl
theorem kT {s:ay}{w:Nat}{a:au}(h:a.kind=5∨a.kind=6):b8 s w a=⟨[a.aR],[aU s.ao w a.hand,aU s.ao w (1-a.hand)],[]⟩:=by rw [dS,if_neg (by omega),if_neg (by omega),if_neg (by omega),if_pos h];rfl
theorem gy {s:ay}{w:Nat}{a:au}(h:a.kind=3∨a.kind=7∨a.kind=8):b8 s w a=⟨[a.aR],[aU s.ao w a.hand],[]⟩:=by rw [dS,if_neg (by omega),if_neg (by omega),if_neg (by omega),if_neg (by omega)];rfl
theorem iC {α:Type}{l:List α}{i j:Nat}{x d:α}:(l.set i x).getD j d=if i=j∧j<l.length then x else l.getD j d:=by
 simp only [List.getD_eq_getElem?_getD,List.getElem?_set];by_cases h:i=j
 ·subst h;by_cases h2:i<l.length
  ·simp [h2]
  ·simp [h2]
 ·simp [h]
theorem gW {ts:List br}{t u:Nat}{bit:Int}{on:Bool}:(dc ts t bit on).getD u aQ=if u=t∧u<ts.length then (dc ts t bit on).getD t aQ else ts.getD u aQ:=by
 rw [ik];by_cases h:eF ts t bit=on
 ·rw [if_pos h];split
  ·rename_i e;rw [e.1]
  ·rfl
 ·rw [if_neg h,iC,iC];by_cases e:u=t
  ·subst e;by_cases h2:u<ts.length<;>simp [h2]
  ·have: ¬t=u:=fun x=>e x.symm;simp [e,this]
theorem iW {ts us:List br}{t:Nat}{b:Int}(h:us.getD t aQ=ts.getD t aQ):eF us t b=eF ts t b:=by
 rw [gD,gD];simp only [Int.toNat_natCast,h]
theorem nX {ts us:List br}{t:Nat}{b:Int}{on:Bool}(hl:us.length=ts.length)(h:us.getD t aQ=ts.getD t aQ):(dc us t b on).getD t aQ=(dc ts t b on).getD t aQ:=by
 rw [ik,ik,iW h];split
 ·exact h
 ·rw [iC,iC,h,hl]
structure Ag (s s':ay)(P T:List Int):Prop where
 pl:s'.ae.length=s.ae.length
 hl:s'.ao.length=s.ao.length
 tl:s'.aa.length=s.aa.length
 pp: ∀i:Nat,(i:Int)∈P→s'.ae.getD i 0=s.ae.getD i 0
 ph: ∀i:Nat,(i:Int)∈P→s'.ao.getD i bD=s.ao.getD i bD
 tt: ∀i:Nat,(i:Int)∈T→s'.aa.getD i aQ=s.aa.getD i aQ
theorem kD {s:ay}{w:Nat}{a:au}(hk:1≤a.kind∧a.kind≤8):(dn s w a).ae.length=s.ae.length∧(dn s w a).ao.length=s.ao.length∧(dn s w a).aa.length=s.aa.length:=by
 rcases nJ hk with k|k|k|k|k|k|k|k
 ·rw [lT k];simp
 ·rw [pg k];simp [jV]
 ·rw [m7 k];simp [jV]
 ·rw [pj k];simp [jV]
 ·rw [pk k];simp [dw]
 ·rw [po k];simp [dw]
 ·rw [pq k];simp [dw]
 ·rw [pt k];simp [dw]
theorem GO {s:ay}{w:Nat}{a:au}(D:Fi s w a):
  (∀i:Nat,(i:Int)∉(b8 s w a).ae→(dn s w a).ae.getD i 0=s.ae.getD i 0∧(dn s w a).ao.getD i bD=s.ao.getD i bD)∧
  (∀i:Nat,(i:Int)∉(b8 s w a).aa→(dn s w a).aa.getD i aQ=s.aa.getD i aQ):=by
 have hw:=D.aR;have hh:=D.hh;have ne: ∀i:Nat,¬(i:Int)=a.aR→ ¬i=w:=fun i h e=>h (by rw [hw,e]);have ne': ∀i:Nat,¬(i:Int)=a.aR→ ¬w=i:=fun i h e=>h (by rw [hw,e]);rcases nJ D.kind with k|k|k|k|k|k|k|k
 ·rw [lT k,py k];refine⟨fun i hi=> ?_,fun i hi=>rfl⟩;simp only [List.mem_singleton]at hi;exact⟨by show (s.ae.set w a.cell).getD i 0=_;rw [iC,if_neg (fun h=>ne' i hi h.1)],rfl⟩
 ·obtain⟨t,e,_⟩:=D.take k;rw [pg k,wO k];refine⟨fun i hi=> ?_,fun i hi=> ?_⟩
  ·simp only [List.mem_singleton]at hi;exact⟨rfl,by show (bs s.ao w a.hand a.bf).getD i bD=_;rw [eT i hh,if_neg (ne i hi)]⟩
  ·simp only [List.mem_singleton,e]at hi;show (s.aa.set a.bf.toNat _).getD i aQ=_
   rw [iC,e,if_neg (fun h=>hi (by have:=h.1;omega))]
 ·obtain⟨t,e,_⟩:=D.held (by omega);rw [cB]at e;rw [m7 k,gy (.inl k)];refine⟨fun i hi=> ?_,fun i hi=> ?_⟩
  ·simp only [List.mem_singleton]at hi;exact⟨rfl,by show (bs s.ao w a.hand (-1)).getD i bD=_;rw [eT i hh,if_neg (ne i hi)]⟩
  ·simp only [List.mem_singleton,e]at hi;show (s.aa.set (aU s.ao w a.hand).toNat _).getD i aQ=_
   rw [iC,e,if_neg (fun h=>hi (by have:=h.1;omega))]
 ·obtain⟨o,e,o2,o3,o4⟩:=D.pR k;rw [pj k,wQ k];refine⟨fun i hi=> ?_,fun i hi=>rfl⟩;simp only [List.mem_cons,List.not_mem_nil,or_false,not_or]at hi;refine⟨rfl, ?_⟩;show (bs (bs s.ao a.other.toNat _ _) w a.hand (-1)).getD i bD=_
  have: ¬i=a.other.toNat:=fun h=>hi.2 (by rw [h,e];simp);rw [eT i (by rw [jV];exact hh),if_neg (ne i hi.1),eT i (by rw [e];simpa using o2),if_neg this]
 ·obtain⟨t,e,_⟩:=D.xF (.inl k);rw [cB]at e;rw [pk k,kT (.inl k)];refine⟨fun i hi=>⟨rfl,rfl⟩,fun i hi=> ?_⟩;simp only [List.mem_cons,List.not_mem_nil,or_false,not_or,e]at hi;show (dc s.aa (aU s.ao w (1-a.hand)).toNat 1 true).getD i aQ=_
  rw [gW,e,if_neg (fun h=>hi.2 (by rw [h.1];simp))]
 ·obtain⟨t,e,_⟩:=D.held (by omega);obtain⟨q,f,_⟩:=D.xF (.inr k);rw [cB]at e f;rw [po k,kT (.inr k)];refine⟨fun i hi=>⟨rfl,rfl⟩,fun i hi=> ?_⟩;simp only [List.mem_cons,List.not_mem_nil,or_false,not_or,e,f]at hi;have h1: ¬i=t:=fun h=>hi.1 (by rw [h]);have h2: ¬i=q:=fun h=>hi.2 (by rw [h]);simp only [e,f,Int.toNat_natCast];rw [gW,if_neg (fun h=>h2 h.1),gW,if_neg (fun h=>h1 h.1),gW,if_neg (fun h=>h1 h.1)]
 ·obtain⟨t,e,_⟩:=D.held (by omega);rw [cB]at e;rw [pq k,gy (.inr (.inl k))];refine⟨fun i hi=>⟨rfl,rfl⟩,fun i hi=> ?_⟩;simp only [List.mem_singleton,e]at hi;have h1: ¬i=t:=fun h=>hi (by rw [h]);simp only [e,Int.toNat_natCast];rw [gW,if_neg (fun h=>h1 h.1)]
 ·obtain⟨t,e,_⟩:=D.held (by omega);rw [cB]at e;rw [pt k,gy (.inr (.inr k))];refine⟨fun i hi=>⟨rfl,rfl⟩,fun i hi=> ?_⟩;simp only [List.mem_singleton,e]at hi;have h1: ¬i=t:=fun h=>hi (by rw [h]);simp only [e,Int.toNat_natCast];rw [gW,if_neg (fun h=>h1 h.1)]
theorem cF {hs hs':List aI}{w:Nat}{hand:Int}(h:hs'.getD w bD=hs.getD w bD):aU hs' w hand=aU hs w hand:=by
 unfold aU;rw [h]
theorem sq {hs hs':List aI}{w:Nat}(h:hs'.getD w bD=hs.getD w bD):dU hs' w=dU hs w:=by
 unfold dU;rw [h]
theorem GP {r:aC}{s s':ay}{w:Nat}{a:au}(D:Fi s w a)(h:Ag s s' (b8 s w a).ae (b8 s w a).aa)(hw:w<r.ae.length):
  b8 s' w a=b8 s w a∧((a.kind=1→a.cell∉s'.ae)→bV r s w a=true→bV r s' w a=true)∧
  Ag (dn s w a) (dn s' w a) (b8 s w a).ae (b8 s w a).aa:=by
 have hwho:=D.aR;have hh:=D.hh;have hh':w<s'.ao.length:=(by rw [h.hl];exact hh);have wp:(w:Int)∈(b8 s w a).ae→s'.ae.getD w 0=s.ae.getD w 0∧s'.ao.getD w bD=s.ao.getD w bD:=fun x=>⟨h.pp w x,h.ph w x⟩;have L:=kD (s:=s) (w:=w) D.kind;have L':=kD (s:=s') (w:=w) D.kind;have e1:=L'.1.trans (h.pl.trans L.1.symm);have e2:=L'.2.1.trans (h.hl.trans L.2.1.symm);have e3:=L'.2.2.trans (h.tl.trans L.2.2.symm);rcases nJ D.kind with k|k|k|k|k|k|k|k
 ·rw [py (s:=s) k]at wp h⊢;obtain⟨wp,wh⟩:=wp (by simp [hwho]);refine⟨by rw [py k,wp],fun hc hp=> ?_,⟨e1,e2,e3,fun i hi=> ?_,fun i hi=> ?_,fun i hi=> ?_⟩⟩
  ·rw [zO k]at hp⊢;rw [wp];simp only [Bool.and_eq_true]at hp⊢;exact⟨by simpa using hc k,hp.2⟩
  ·rw [lT k,lT k];show (s'.ae.set w a.cell).getD i 0=(s.ae.set w a.cell).getD i 0
   rw [iC,iC,h.pl,h.pp i hi]
  ·rw [lT k,lT k];exact h.ph i hi
  ·rw [lT k,lT k];exact h.tt i hi
 ·obtain⟨t,e,_⟩:=D.take k;rw [wO (s:=s) k]at wp h⊢;obtain⟨wp,wh⟩:=wp (by simp [hwho]);have ht:s'.aa.getD t aQ=s.aa.getD t aQ:=h.tt t (by simp [e]);refine⟨by rw [wO k],fun hc hp=> ?_,⟨e1,e2,e3,fun i hi=> ?_,fun i hi=> ?_,fun i hi=> ?_⟩⟩
  ·rw [DI k,e,Int.toNat_natCast]at hp⊢;rw [wp,cF wh,ht];exact hp
  ·rw [pg k,pg k];exact h.pp i hi
  ·rw [pg k,pg k];show (bs s'.ao w a.hand a.bf).getD i bD=(bs s.ao w a.hand a.bf).getD i bD
   rw [eT i hh',eT i hh,wh,h.ph i hi]
  ·rw [pg k,pg k];show (s'.aa.set a.bf.toNat _).getD i aQ=(s.aa.set a.bf.toNat _).getD i aQ
   rw [iC,iC,h.tl,h.tt i hi,e,Int.toNat_natCast,ht]
 ·obtain⟨t,e,_⟩:=D.held (by omega);rw [cB]at e;rw [gy (s:=s) (.inl k)]at wp h⊢;obtain⟨wp,wh⟩:=wp (by simp [hwho]);have ht:s'.aa.getD t aQ=s.aa.getD t aQ:=h.tt t (by simp [e]);have e':aU s'.ao w a.hand=t:=(cF wh).trans e;refine⟨by rw [gy (.inl k),e,e'],fun hc hp=> ?_,⟨e1,e2,e3,fun i hi=> ?_,fun i hi=> ?_,fun i hi=> ?_⟩⟩
  ·rw [zt k]at hp⊢;rw [cF wh];exact hp
  ·rw [m7 k,m7 k];exact h.pp i hi
  ·rw [m7 k,m7 k];show (bs s'.ao w a.hand (-1)).getD i bD=(bs s.ao w a.hand (-1)).getD i bD
   rw [eT i hh',eT i hh,wh,h.ph i hi]
  ·rw [m7 k,m7 k];show (s'.aa.set (aU s'.ao w a.hand).toNat _).getD i aQ=(s.aa.set (aU s.ao w a.hand).toNat _).getD i aQ
   rw [iC,iC,h.tl,h.tt i hi,e,e',Int.toNat_natCast,ht,wp]
 ·obtain⟨o,e,o2,o3,o4⟩:=D.pR k;rw [wQ (s:=s) k]at wp h⊢;obtain⟨wp,wh⟩:=wp (by simp [hwho]);have op:s'.ae.getD o 0=s.ae.getD o 0:=h.pp o (by simp [e]);have oh:s'.ao.getD o bD=s.ao.getD o bD:=h.ph o (by simp [e]);refine⟨by rw [wQ k,cF wh],fun hc hp=> ?_,⟨e1,e2,e3,fun i hi=> ?_,fun i hi=> ?_,fun i hi=> ?_⟩⟩
  ·rw [zP k,e,Int.toNat_natCast]at hp⊢;rw [cF wh,wp,op,sq oh];exact hp
  ·rw [pj k,pj k];exact h.pp i hi
  ·rw [pj k,pj k];simp only [e,Int.toNat_natCast];have o2':o<s'.ao.length:=(by rw [h.hl];exact o2);have a1:w<(bs s'.ao o (dU s'.ao o) (aU s'.ao w a.hand)).length:=(by rw [jV];exact hh');have a2:w<(bs s.ao o (dU s.ao o) (aU s.ao w a.hand)).length:=(by rw [jV];exact hh);rw [eT i a1,eT i a2,eT i o2',eT i o2,eT w o2',eT w o2,wh,oh,sq oh,cF wh,h.ph i hi]
  ·rw [pj k,pj k];exact h.tt i hi
 ·obtain⟨t,e,_⟩:=D.xF (.inl k);rw [cB]at e;rw [kT (s:=s) (.inl k)]at wp h⊢;obtain⟨wp,wh⟩:=wp (by simp [hwho]);have ht:s'.aa.getD t aQ=s.aa.getD t aQ:=h.tt t (by simp [e]);have e':aU s'.ao w (1-a.hand)=t:=(cF wh).trans e;refine⟨by rw [kT (.inl k),cF wh,e',e],fun hc hp=> ?_,⟨e1,e2,e3,fun i hi=> ?_,fun i hi=> ?_,fun i hi=> ?_⟩⟩
  ·rw [zQ k]at hp⊢;rw [cF wh,cF wh];exact hp
  ·rw [pk k,pk k];exact h.pp i hi
  ·rw [pk k,pk k];exact h.ph i hi
  ·rw [pk k,pk k];simp only [e,e',Int.toNat_natCast];rw [gW,gW (ts:=s.aa),h.tl,nX h.tl ht,h.tt i hi]
 ·obtain⟨t,e,_⟩:=D.held (by omega);obtain⟨q,f,_⟩:=D.xF (.inr k);rw [cB]at e f;rw [kT (s:=s) (.inr k)]at wp h⊢;obtain⟨wp,wh⟩:=wp (by simp [hwho]);have ht:s'.aa.getD t aQ=s.aa.getD t aQ:=h.tt t (by simp [e]);have hq:s'.aa.getD q aQ=s.aa.getD q aQ:=h.tt q (by simp [f]);have e':aU s'.ao w a.hand=t:=(cF wh).trans e;have f':aU s'.ao w (1-a.hand)=q:=(cF wh).trans f;refine⟨by rw [kT (.inr k),e,e',f,f'],fun hc hp=> ?_,⟨e1,e2,e3,fun i hi=> ?_,fun i hi=> ?_,fun i hi=> ?_⟩⟩
  ·rw [wK k,e,f]at hp;rw [wK k,e',f',iW ht,iW ht,iW hq,iW hq];exact hp
  ·rw [po k,po k];exact h.pp i hi
  ·rw [po k,po k];exact h.ph i hi
  ·rw [po k,po k];simp only [e,e',f,f',Int.toNat_natCast];have one: ∀(us ts:List br),us.length=ts.length→ ∀(p:Nat) (b:Int) (on:Bool) (j:Nat),us.getD p aQ=ts.getD p aQ→us.getD j aQ=ts.getD j aQ→(dc us p b on).getD j aQ=(dc ts p b on).getD j aQ:=fun us ts hl p b on j hp hj=>by
    rw [gW,gW (ts:=ts),hl,nX hl hp,hj]
   have l1:(dc s'.aa t 2 false).length=(dc s.aa t 2 false).length:=(by simp only [dw,h.tl]);have l2:(dc (dc s'.aa t 2 false) t 1 false).length=(dc (dc s.aa t 2 false) t 1 false).length:=by simp only [dw,h.tl]
   have all: ∀j,s'.aa.getD j aQ=s.aa.getD j aQ→(dc (dc s'.aa t 2 false) t 1 false).getD j aQ=(dc (dc s.aa t 2 false) t 1 false).getD j aQ:=fun j hj=>
    one _ _ l1 t 1 false j (one _ _ h.tl t 2 false t ht ht) (one _ _ h.tl t 2 false j ht hj)
   exact one _ _ l2 q 2 true i (all q hq) (all i (h.tt i hi))
 ·obtain⟨t,e,_⟩:=D.held (by omega);rw [cB]at e;rw [gy (s:=s) (.inr (.inl k))]at wp h⊢;obtain⟨wp,wh⟩:=wp (by simp [hwho]);have ht:s'.aa.getD t aQ=s.aa.getD t aQ:=h.tt t (by simp [e]);have e':aU s'.ao w a.hand=t:=(cF wh).trans e;refine⟨by rw [gy (.inr (.inl k)),e',e],fun hc hp=> ?_,⟨e1,e2,e3,fun i hi=> ?_,fun i hi=> ?_,fun i hi=> ?_⟩⟩
  ·rw [zR k,e]at hp;rw [zR k,e',iW ht];exact hp
  ·rw [pq k,pq k];exact h.pp i hi
  ·rw [pq k,pq k];exact h.ph i hi
  ·rw [pq k,pq k];simp only [e,e',Int.toNat_natCast];rw [gW,gW (ts:=s.aa),h.tl,nX h.tl ht,h.tt i hi]
 ·obtain⟨t,e,_⟩:=D.held (by omega);rw [cB]at e;rw [gy (s:=s) (.inr (.inr k))]at wp h⊢;obtain⟨wp,wh⟩:=wp (by simp [hwho]);have ht:s'.aa.getD t aQ=s.aa.getD t aQ:=h.tt t (by simp [e]);have e':aU s'.ao w a.hand=t:=(cF wh).trans e;refine⟨by rw [gy (.inr (.inr k)),e',e],fun hc hp=> ?_,⟨e1,e2,e3,fun i hi=> ?_,fun i hi=> ?_,fun i hi=> ?_⟩⟩
  ·rw [zS k,e]at hp;rw [zS k,e',iW ht];exact hp
  ·rw [pt k,pt k];exact h.pp i hi
  ·rw [pt k,pt k];exact h.ph i hi
  ·rw [pt k,pt k];simp only [e,e',Int.toNat_natCast];rw [gW,gW (ts:=s.aa),h.tl,nX h.tl ht,h.tt i hi]
section
theorem vo {s:ay}{w:Nat}{a:au}(hk:1≤a.kind∧a.kind≤8)(h1:a.kind≠1):(dn s w a).ae=s.ae:=by
 rcases nJ hk with k|k|k|k|k|k|k|k
 ·exact absurd k h1
 ·rw [pg k]
 ·rw [m7 k]
 ·rw [pj k]
 ·rw [pk k]
 ·rw [po k]
 ·rw [pq k]
 ·rw [pt k]
theorem aaN {s:ay}{v:Nat}{b:au}{t:Touch}(D:Fi s v b)(h:JZ t (b8 s v b)):Ag s (dn s v b) t.ae t.aa:=by
 have L:=kD (s:=s) (w:=v) D.kind;have F:=GO D;exact⟨L.1,L.2.1,L.2.2,fun i hi=>(F.1 i (h.ap _ hi)).1,fun i hi=>(F.1 i (h.ap _ hi)).2,fun i hi=>F.2 i (h.bR _ hi)⟩
section
variable {r:aC} {s:ay} {w v:Nat} {a b:au}
theorem yg (hS:fB r s)(hA:AB r w a)(hB:AB r v b)(pa:bV r s w a=true)(pb:bV r s v b=true)(h:JZ (b8 s w a) (b8 s v b)):
  b8 (dn s w a) v b=b8 s v b∧bV r (dn s w a) v b=true∧Ag (dn s v b) (dn (dn s w a) v b) (b8 s v b).ae (b8 s v b).aa:=by
 have DA:=o6 hS hA pa;have DB:=o6 hS hB pb;obtain⟨l1,l2,l3⟩:=GP (r:=r) DB (aaN DA h.symm) hB.wl;refine⟨l1,l2 (fun k hin=> ?_) pb,l3⟩;rw [zO k]at pb;simp at pb;by_cases k1:a.kind=1
 ·rw [lT k1]at hin;rcases List.mem_or_eq_of_mem_set hin with x|x
  ·exact pb.1 x
  ·rw [py k1,py k]at h;exact h.ac a.cell (by simp) (by simp [x])
 ·rw [vo hA.kind k1]at hin;exact pb.1 hin
end
noncomputable def kZ (s:ay)(g:List au):ay:=g.foldl (fun s a=>dn s a.aR.toNat a) s
theorem zm (s:ay):kZ s []=s:=rfl
theorem rT (s:ay)(a:au)(g:List au):kZ s (a::g)=kZ (dn s a.aR.toNat a) g:=rfl
theorem iS (s:ay)(g h:List au):kZ s (g++h)=kZ (kZ s g) h:=List.foldl_append ..
noncomputable def tch (s:ay)(a:au):Touch:=b8 s a.aR.toNat a
structure qT (r:aC)(s:ay)(g:List au):Prop where
 ab: ∀a∈g,AB r a.aR.toNat a∧bV r s a.aR.toNat a=true
 ap:g.Pairwise fun a b=>JZ (tch s a) (tch s b)
theorem qT.tail {r:aC}{s:ay}{a:au}{g:List au}(hS:fB r s)(h:qT r s (a::g)):fB r (dn s a.aR.toNat a)∧qT r (dn s a.aR.toNat a) g:=by
 obtain⟨hA,pa⟩:=h.ab a (List.mem_cons_self ..);have hp:=List.pairwise_cons.1 h.ap;have one:=fun b (hb:b∈g)=>yg hS hA (h.ab b (List.mem_cons_of_mem _ hb)).1 pa (h.ab b (List.mem_cons_of_mem _ hb)).2 (hp.1 b hb);refine⟨hS.Si hA pa,⟨fun b hb=>⟨(h.ab b (List.mem_cons_of_mem _ hb)).1,(one b hb).2.1⟩, ?_⟩⟩;refine hp.2.imp_of_mem fun {x y} hx hy q=> ?_;unfold tch at q⊢;rw [(one x hx).1,(one y hy).1];exact q
theorem qT.snd {r:aC}: ∀{g:List au} {s:ay},fB r s→qT r s g→fB r (kZ s g)
 | [],s,hS,_=>hS
 |a::g,s,hS,h=>by
  obtain⟨h1,h2⟩:=h.tail hS;show fB r (kZ (dn s a.aR.toNat a) g)
  exact qT.snd h1 h2
end
section
variable {c:Nat} {H:ai}
section
variable {r:aC} {s:ay} {w:Nat} {a:au}
theorem yM (hS:fB r s)(hW:WB r)(hA:AB r w a)(hH:0<H.length):
  aN KC (aF KC) 105 [.pure (.agg (aP r s)), .pure (.agg a.row)] c H=some (.pure (.bool (bV r s w a)),H):=by
 refine eC rfl rfl rfl rfl rfl hH fun H hH=> ?_;refine aM (aK KC aw Tryz.func105 rfl rfl Nv (by simp) hH ?_);have W:=fun(k:Nat) (hk:1≤k∧k≤8) c (H:ai) (hH:0<H.length)=>Dk (c:=c) (H:=H) hk hH;have W1:=W 1 (by omega);have W2:=W 2 (by omega);have W3:=W 3 (by omega);have W4:=W 4 (by omega);have W5:=W 5 (by omega);have W6:=W 6 (by omega);have W7:=W 7 (by omega);have W8:=W 8 (by omega);simp at W1 W2 W3 W4 W5 W6 W7 W8;rcases nJ hA.kind with k|k|k|k|k|k|k|k
 ·have M:=fun c (H:ai) (hH:0<H.length)=>DK (c:=c) (H:=H) hS hW hA k hH;rw [bH,k]at M⊢;unfold aP at M⊢;simp [W1,M,ah]
 ·have M:=fun c (H:ai) (hH:0<H.length)=>DL (c:=c) (H:=H) hS hA k hH;rw [bH,k]at M⊢;unfold aP at M⊢;simp [W2,M,ah]
 ·have M:=fun c (H:ai) (hH:0<H.length)=>GM (c:=c) (H:=H) hS hA k hH;rw [bH,k]at M⊢;unfold aP at M⊢;simp [W3,M,ah]
 ·have M:=fun c (H:ai) (hH:0<H.length)=>DM (c:=c) (H:=H) hS hW hA k hH;rw [bH,k]at M⊢;unfold aP at M⊢;simp [W4,M,ah]
 ·have M:=fun c (H:ai) (hH:0<H.length)=>DN (c:=c) (H:=H) hS hA k hH;rw [bH,k]at M⊢;unfold aP at M⊢;simp [W5,M,ah]
 ·have M:=fun c (H:ai) (hH:0<H.length)=>DP (c:=c) (H:=H) hS hA k hH;rw [bH,k]at M⊢;unfold aP at M⊢;simp [W6,M,ah]
 ·have M:=fun c (H:ai) (hH:0<H.length)=>BV (c:=c) (H:=H) hS hA k hH;rw [bH,k]at M⊢;unfold aP at M⊢;simp [W7,M,ah]
 ·have M:=fun c (H:ai) (hH:0<H.length)=>DQ (c:=c) (H:=H) hS hA k hH;rw [bH,k]at M⊢;unfold aP at M⊢;simp [W8,M,ah]
def eI (s:ay)(w:Nat)(a:au):List (Int×Int):=
 if a.kind=1 then [(0,a.aR),(2,s.ae.getD w 0),(2,a.cell)]
 else if a.kind=2 then [(0,a.aR),(1,a.bf)]
 else if a.kind=4 then [(0,a.aR),(0,a.other),(1,aU s.ao w a.hand)]
 else if a.kind=5∨a.kind=6 then [(0,a.aR),(1,aU s.ao w (1-a.hand)),(1,aU s.ao w a.hand)]
 else [(0,a.aR),(1,aU s.ao w a.hand)]
def dE (x:Int×Int):List PV:=[.int .i64 x.1, .int .i64 x.2]
theorem ud (hS:fB r s)(hA:AB r w a)(hH:0<H.length):
  aN KC (aF KC) 134 [.pure (.agg (aP r s)), .pure (.agg a.row)] c H=some (.pure (.slice ((eI s w a).map dE)),H):=by
 refine aM (ba KC aw Tryz.func134 rfl rfl NF rfl rfl rfl (by simp) hH ?_);have hwp:w<s.ae.length:=(by rw [hS.pl];exact hA.wl);have E:=fun c (H:ai) (hH:0<H.length)=>ma (c:=c) (H:=H) hS.toFf hA hH;have G:=fun c (H:ai) (hH:0<H.length)=>ti (c:=c) (H:=H) hS.toFf hA hH;have hnl: ¬H.length≤H.length-1:=(by omega);have hp:=aW (d:=0) hwp;unfold eI;rcases nJ hA.kind with k|k|k|k|k|k|k|k
 ·rw [bH,k]at E G⊢;unfold aP at E G⊢;simp [hA.aR]at E G;simp [hA.aR,hwp,aD,E,G,dE,hp,ah,hnl]
 ·rw [bH,k]at E G⊢;unfold aP at E G⊢;simp [hA.aR]at E G;simp [hA.aR,hwp,aD,E,G,dE,hp,ah,hnl]
 ·rw [bH,k]at E G⊢;unfold aP at E G⊢;simp [hA.aR]at E G;simp [hA.aR,hwp,aD,E,G,dE,hp,ah,hnl]
 ·rw [bH,k]at E G⊢;unfold aP at E G⊢;simp [hA.aR]at E G;simp [hA.aR,hwp,aD,E,G,dE,hp,ah,hnl]
 ·rw [bH,k]at E G⊢;unfold aP at E G⊢;simp [hA.aR]at E G;simp [hA.aR,hwp,aD,E,G,dE,hp,ah,hnl]
 ·rw [bH,k]at E G⊢;unfold aP at E G⊢;simp [hA.aR]at E G;simp [hA.aR,hwp,aD,E,G,dE,hp,ah,hnl]
 ·rw [bH,k]at E G⊢;unfold aP at E G⊢;simp [hA.aR]at E G;simp [hA.aR,hwp,aD,E,G,dE,hp,ah,hnl]
 ·rw [bH,k]at E G⊢;unfold aP at E G⊢;simp [hA.aR]at E G;simp [hA.aR,hwp,aD,E,G,dE,hp,ah,hnl]
theorem vd {s:ay}{w v:Nat}{a b:au}:JZ (b8 s w a) (b8 s v b)↔ ∀x∈eI s w a,x∉eI s v b:=by
 have mem: ∀(w:Nat) (a:au) (x:Int×Int),x∈eI s w a↔(x.1=0∧x.2∈(b8 s w a).ae)∨(x.1=1∧x.2∈(b8 s w a).aa)∨(x.1=2∧x.2∈(b8 s w a).cells):=fun w a x=>by
  obtain⟨p,q⟩:=x;unfold eI;rw [dS];simp only [cB]
  repeat' split
  all_goals simp only [List.mem_cons,List.not_mem_nil,or_false,Prod.mk.injEq]
  all_goals grind
 constructor
 ·intro h x hx hy;rw [mem]at hx hy;rcases hx with ⟨e,hx⟩|⟨e,hx⟩|⟨e,hx⟩
  ·rcases hy with ⟨_,hy⟩|⟨e',hy⟩|⟨e',hy⟩
   ·exact h.ap _ hx hy
   ·omega
   ·omega
  ·rcases hy with ⟨e',hy⟩|⟨_,hy⟩|⟨e',hy⟩
   ·omega
   ·exact h.bR _ hx hy
   ·omega
  ·rcases hy with ⟨e',hy⟩|⟨e',hy⟩|⟨_,hy⟩
   ·omega
   ·omega
   ·exact h.ac _ hx hy
 ·intro h;refine⟨fun x h1 h2=>h (0,x) ((mem _ _ _).2 (.inl ⟨rfl,h1⟩)) ((mem _ _ _).2 (.inl ⟨rfl,h2⟩)),fun x h1 h2=>h (1,x) ((mem _ _ _).2 (.inr (.inl ⟨rfl,h1⟩))) ((mem _ _ _).2 (.inr (.inl ⟨rfl,h2⟩))),fun x h1 h2=>h (2,x) ((mem _ _ _).2 (.inr (.inr ⟨rfl,h1⟩))) ((mem _ _ _).2 (.inr (.inr ⟨rfl,h2⟩)))⟩
end
end
section
variable {c:Nat} {H:ai}
theorem Oh: ∀q:Fin 16,∀b∈[(1:Int),2,4],Ai .i64 ((q.1:Nat):Int) b=if ((IntKind.i64.wrap (((q.1:Nat):Int).tdiv b)).tmod 2==1)then ((q.1:Nat):Int)else IntKind.i64.wrap (((q.1:Nat):Int)+b):=by decide+kernel
theorem GQ: ∀q:Fin 16,∀b∈[(1:Int),2,4],lZ ((q.1:Nat):Int) b=if ((IntKind.i64.wrap (((q.1:Nat):Int).tdiv b)).tmod 2==1)then IntKind.i64.wrap (((q.1:Nat):Int)-b)else ((q.1:Nat):Int):=by decide+kernel
theorem Ve: ∀q:Fin 16,lZ ((q.1:Nat):Int) 3=lZ (lZ ((q.1:Nat):Int) 2) 1∧0≤lZ ((q.1:Nat):Int) 2∧lZ ((q.1:Nat):Int) 2<16:=by decide+kernel
section
variable {ts:List br} {t:Nat} {b:Int}
theorem zT (ht:t<ts.length)(hs:0≤(ts.getD t aQ).state∧(ts.getD t aQ).state<16)(hb:b=1∨b=2∨b=4):
  dc ts t b true=ts.set t ⟨(ts.getD t aQ).cell,Ai .i64 (ts.getD t aQ).state b⟩:=by
 obtain⟨q,hq⟩:=Int.eq_ofNat_of_zero_le hs.1;have B:=Oh ⟨q,by omega⟩ b (by simp;exact hb);simp only [←hq]at B;have h0:decide ((0:Int)≤t)=true:=(by simp);rw [ik,gD,h0,Bool.true_and];simp only [Int.toNat_natCast];rw [B];by_cases h:((IntKind.i64.wrap ((ts.getD t aQ).state.tdiv b)).tmod 2==1)=true
 ·rw [if_pos h,if_pos h];exact(wJ ts t aQ).symm
 ·rw [if_neg h,if_neg h];simp
theorem wR (ht:t<ts.length)(hs:0≤(ts.getD t aQ).state∧(ts.getD t aQ).state<16)(hb:b=1∨b=2∨b=4):
  dc ts t b false=ts.set t ⟨(ts.getD t aQ).cell,lZ (ts.getD t aQ).state b⟩:=by
 obtain⟨q,hq⟩:=Int.eq_ofNat_of_zero_le hs.1;have B:=GQ ⟨q,by omega⟩ b (by simp;exact hb);simp only [←hq]at B;have h0:decide ((0:Int)≤t)=true:=(by simp);rw [ik,gD,h0,Bool.true_and];simp only [Int.toNat_natCast];rw [B];split
 ·rename_i h;have h': ¬((IntKind.i64.wrap ((ts.getD t aQ).state.tdiv b)).tmod 2==1)=true:=(by rw [h];simp);rw [if_neg h'];exact(wJ ts t aQ).symm
 ·rename_i h;have h':((IntKind.i64.wrap ((ts.getD t aQ).state.tdiv b)).tmod 2==1)=true:=(by simpa using h);rw [if_pos h'];rfl
theorem GR (ht:t<ts.length)(hs:0≤(ts.getD t aQ).state∧(ts.getD t aQ).state<16):
  dc (dc ts t 2 false) t 1 false=ts.set t ⟨(ts.getD t aQ).cell,lZ (ts.getD t aQ).state 3⟩:=by
 obtain⟨q,hq⟩:=Int.eq_ofNat_of_zero_le hs.1;obtain⟨b1,b2,b3⟩:=Ve ⟨q,by omega⟩;simp only [←hq]at b1 b2 b3;rw [wR ht hs (.inr (.inl rfl))];have e:(ts.set t ⟨(ts.getD t aQ).cell,lZ (ts.getD t aQ).state 2⟩).getD t aQ=⟨(ts.getD t aQ).cell,lZ (ts.getD t aQ).state 2⟩:=(by rw [tJ ht,if_pos rfl]);rw [wR (by simpa using ht) (by rw [e];exact⟨b2,b3⟩) (.inl rfl),e,b1];simp
end
def tw (r:aC)(n1 n2 n3:Nm)(s:ay):GV:= .agg [.pure (.int .i64 r.wide), .pure (.int .i64 r.deep), .pure (.slice (r.ae.map aV.row)), .pure (.slice (r.aa.map a8.row)), .pure (.slice (r.seen.map aD)), .pure (.slice (r.a7.map aD)), .pure (.slice (r.aj.map au.row)), .bd n1 1 s.ae.length 0 s.ae.length, .bd n2 2 s.ao.length 0 s.ao.length, .bd n3 2 s.aa.length 0 s.aa.length]
section
variable {r:aC} {s:ay} {w:Nat} {a:au} {n1 n2 n3:Nm} {v1 v2 v3:Nat}
theorem DR (h:mR H n1 n2 n3 v1 v2 v3 s):oP H (tw r n1 n2 n3 s) (.agg (aP r s)):=by
 unfold tw aP;rw [uM];simp only [rY,uN,rZ,and_true,true_and];exact⟨⟨_,v1,false,h.g1,h.e1,by simp,rfl,rfl,rfl⟩,⟨_,v2,false,h.g2,h.e2,by simp,rfl,rfl,rfl⟩,⟨_,v3,false,h.g3,h.e3,by simp,rfl,rfl,rfl⟩⟩
theorem JE (h:mR H n1 n2 n3 v1 v2 v3 s)(hw:w<s.ao.length)(h1:a.aR=w)(h2:a.hand=0∨a.hand=1)(hH:0<H.length):
  aN KC (aF KC) 154 [tw r n1 n2 n3 s, .pure (.agg a.row)] c H=some (.pure (.int .i64 (aU s.ao w a.hand)),H):=
 fO KC rfl rfl (IG (DR h) (show oP H (.pure (.agg a.row)) (.agg a.row)from rfl)) rfl hH (fun H hH=>BR (c:=c) hw h1 h2 hH) rfl
theorem wT (h:mR H n1 n2 n3 v1 v2 v3 s)(hw:w<s.ao.length)(h1:a.aR=w)(h2:a.hand=0∨a.hand=1)(hH:0<H.length):
  aN KC (aF KC) 153 [tw r n1 n2 n3 s, .pure (.agg a.row)] c H=some (.pure (.int .i64 (aU s.ao w (1-a.hand))),H):=
 fO KC rfl rfl (IG (DR h) (show oP H (.pure (.agg a.row)) (.agg a.row)from rfl)) rfl hH (fun H hH=>wL (c:=c) hw h1 h2 hH) rfl
theorem JF (h:mR H n1 n2 n3 v1 v2 v3 s){o:Nat}(ho:o<s.ao.length)(hH:0<H.length):
  aN KC (aF KC) 156 [tw r n1 n2 n3 s, .pure (.int .i64 o)] c H=some (.pure (.int .i64 (dU s.ao o)),H):=
 fO KC rfl rfl (IG (DR h) (show oP H (.pure (.int .i64 o)) (.int .i64 o)from rfl)) rfl hH (fun H hH=>BU (c:=c) ho hH) rfl
def LG (H:ai)(f:Nat)(r:aC)(n1 n2 n3:Nm)(s:ay)(w:Nat)(a:au)(c:Nat):Prop:=
 ∃v1' v2' v3',v1'≤s.ae.length∧v2'≤s.ao.length∧v3'≤s.aa.length∧
  aN KC (aF KC) f [tw r n1 n2 n3 s, .pure (.agg a.row)] c H=some (.pure (.tuple []),cu H n1 n2 n3 v1' v2' v3' (dn s w a))
theorem Tn (h:mh H n1 n2 n3 v1 v2 v3 s)(hb:Fi s w a)(hst: ∀t:Nat,t<s.aa.length→0≤(s.aa.getD t aQ).state∧(s.aa.getD t aQ).state<16)(hH:0<H.length):
  (a.kind=1→LG H 136 r n1 n2 n3 s w a c)∧(a.kind=2→LG H 138 r n1 n2 n3 s w a c)∧(a.kind=3→LG H 140 r n1 n2 n3 s w a c)∧(a.kind=4→LG H 142 r n1 n2 n3 s w a c)∧
  (a.kind=5→LG H 144 r n1 n2 n3 s w a c)∧(a.kind=6→LG H 146 r n1 n2 n3 s w a c)∧(a.kind=7→LG H 148 r n1 n2 n3 s w a c)∧(a.kind=8→LG H 150 r n1 n2 n3 s w a c):=by
 have l1:=ai.bQ h.g1;have l2:=ai.bQ h.g2;have l3:=ai.bQ h.g3;have d1: ¬n1.1=H.length:=(by omega);have d2: ¬n2.1=H.length:=(by omega);have d3: ¬n3.1=H.length:=(by omega);have hp:=hb.hp;have hh:=hb.hh;have hwho:=hb.aR;have hg:s.ao.getD w bD=s.ao[w]:=aW hh;have hgp:s.ae.getD w 0=s.ae[w]:=aW hp;have G23: ∀b,(H.set n2 b).get n3=H.get n3:=fun b=>ai.aG b h.kK.symm;have G32: ∀b,(H.set n3 b).get n2=H.get n2:=fun b=>ai.aG b h.kK;have C32: ∀x y,(H.set n3 x).set n2 y=(H.set n2 y).set n3 x:=fun x y=>ai.set_comm h.kK.symm;have G31: ∀b,(H.set n3 b).get n1=H.get n1:=fun b=>ai.aG b h.mc;have S2: ∀x,(H.set n1 x).set n2 (.arr 2 (s.ao.map aI.row) v2 false)=H.set n1 x:=fun x=>(by rw [ai.set_comm h.mz,h.s2]);have S3: ∀x,(H.set n1 x).set n3 (.arr 2 (s.aa.map br.row) v3 false)=H.set n1 x:=fun x=>(by rw [ai.set_comm h.mc,h.s3]);have S4: ∀x,(H.set n2 x).set n3 (.arr 2 (s.aa.map br.row) v3 false)=H.set n2 x:=fun x=>(by rw [ai.set_comm h.kK,h.s3]);have s1:=h.s1;have s2:=h.s2;have s3:=h.s3;have G22: ∀b,(H.set n2 b).get n2=some b:=fun b=>ai.il l2;have G33: ∀b,(H.set n3 b).get n3=some b:=fun b=>ai.il l3;have E:=fun c (f:Fr)=>JE (r:=r) (c:=c) (a:=a) (mR.up (fr:=f) h.tomR) hh hwho hb.hand (by simp);have G:=fun c (f:Fr)=>wT (r:=r) (c:=c) (a:=a) (mR.up (fr:=f) h.tomR) hh hwho hb.hand (by simp);have heq:aU s.ao w 0=s.ao[w].l∧aU s.ao w 1=s.ao[w].r:=(by unfold aU;rw [hg];simp);refine⟨fun k=> ?_,fun k=> ?_,fun k=> ?_,fun k=> ?_,fun k=> ?_,fun k=> ?_,fun k=> ?_,fun k=> ?_⟩
 ·have hd:=lT (s:=s) (w:=w) k;refine⟨s.ae.length,v2,v3,Nat.le_refl _,h.e2,h.e3,aM (bh KC aw Tryz.func136 rfl rfl Ey rfl rfl rfl (by simp) hH ?_)⟩;rw [bH];unfold tw;simp [d1,d2,d3,h.g1,h.g2,h.g3,h.e1,h.e2,h.e3,hp,hh,hwho,aD,aH,ah,hd,cu,S2,S3]
 ·obtain⟨t,et,ht⟩:=hb.take k;have hd:=pg (s:=s) (w:=w) k;have hgt:=aW (d:=aQ) ht;rw [et,Int.toNat_natCast,hgt]at hd;simp only [bs,hg]at hd;refine⟨v1,s.ao.length,s.aa.length,h.e1,Nat.le_refl _,Nat.le_refl _,aM (bh KC aw Tryz.func138 rfl rfl NI rfl rfl rfl (by simp) hH ?_)⟩;rw [bH];unfold tw;rcases hb.hand with z|z
  ·rw [z]at hd;simp at hd;simp [d1,d2,d3,h.g1,h.g2,h.g3,h.e1,h.e2,h.e3,hp,hh,hwho,et,z,ht,aI.row,br.row,aH,ah,hd,cu,G23,s1]
  ·rw [z]at hd;simp at hd;simp [d1,d2,d3,h.g1,h.g2,h.g3,h.e1,h.e2,h.e3,hp,hh,hwho,et,z,ht,aI.row,br.row,aH,ah,hd,cu,G23,s1]
 ·obtain⟨t,et,ht⟩:=hb.held (by omega);rw [cB]at et;have hd:=m7 (s:=s) (w:=w) k;have hgt:=aW (d:=aQ) ht;rw [et,Int.toNat_natCast,hgt,hgp]at hd;simp only [bs,hg]at hd;refine⟨v1,s.ao.length,s.aa.length,h.e1,Nat.le_refl _,Nat.le_refl _,aM (bh KC aw Tryz.func140 rfl rfl NK rfl rfl rfl (by simp) hH ?_)⟩;rw [et,bH]at E;rw [bH];unfold tw at E⊢;simp [hwho]at E;rcases hb.hand with z|z
  ·rw [z]at hd E;simp at hd;simp [d1,d2,d3,h.g1,h.g2,h.g3,h.e1,h.e2,h.e3,hp,hh,hwho,E,z,ht,aD,aI.row,br.row,aH,ah,hd,cu,G32,C32,s1]
  ·rw [z]at hd E;simp at hd;simp [d1,d2,d3,h.g1,h.g2,h.g3,h.e1,h.e2,h.e3,hp,hh,hwho,E,z,ht,aD,aI.row,br.row,aH,ah,hd,cu,G32,C32,s1]
 ·obtain⟨t,et,ht⟩:=hb.held (by omega);rw [cB]at et;obtain⟨o,eo,ho,how,htk⟩:=hb.pR k;have hgo:=aW (d:=bD) ho;have hsw: ∀x,(s.ao.set o x).getD w bD=s.ao[w]:=fun x=>(by rw [tJ hh,if_neg how,hg]);have hd:=pj (s:=s) (w:=w) k;rw [et,eo,Int.toNat_natCast]at hd;have T:=fun c (f:Fr)=>JF (r:=r) (c:=c) (mR.up (fr:=f) h.tomR) ho (by simp);rw [et,bH]at E;unfold tw at E T;simp [hwho,eo]at E;simp only [bs,hgo,hsw]at hd;rcases htk with y|y
  ·rw [y]at hd T;refine⟨v1,s.ao.length,v3,h.e1,Nat.le_refl _,h.e3,aM (bh KC aw Tryz.func142 rfl rfl EA rfl rfl rfl (by simp) hH ?_)⟩;rw [bH];unfold tw;rcases hb.hand with z|z
   ·rw [z]at hd E;simp at hd;simp [d1,d2,d3,h.g1,h.g2,h.g3,h.e1,h.e2,h.e3,hp,hh,hwho,eo,E,T,z,ht,ho,aD,aI.row,br.row,aH,ah,hd,cu,G22,G23,s1,S4,how,List.getElem_set_ne]
   ·rw [z]at hd E;simp at hd;simp [d1,d2,d3,h.g1,h.g2,h.g3,h.e1,h.e2,h.e3,hp,hh,hwho,eo,E,T,z,ht,ho,aD,aI.row,br.row,aH,ah,hd,cu,G22,G23,s1,S4,how,List.getElem_set_ne]
  ·rw [y]at hd T;refine⟨v1,s.ao.length,v3,h.e1,Nat.le_refl _,h.e3,aM (bh KC aw Tryz.func142 rfl rfl EA rfl rfl rfl (by simp) hH ?_)⟩;rw [bH];unfold tw;rcases hb.hand with z|z
   ·rw [z]at hd E;simp at hd;simp [d1,d2,d3,h.g1,h.g2,h.g3,h.e1,h.e2,h.e3,hp,hh,hwho,eo,E,T,z,ht,ho,aD,aI.row,br.row,aH,ah,hd,cu,G22,G23,s1,S4,how,List.getElem_set_ne]
   ·rw [z]at hd E;simp at hd;simp [d1,d2,d3,h.g1,h.g2,h.g3,h.e1,h.e2,h.e3,hp,hh,hwho,eo,E,T,z,ht,ho,aD,aI.row,br.row,aH,ah,hd,cu,G22,G23,s1,S4,how,List.getElem_set_ne]
 ·obtain⟨u,eu,hu⟩:=hb.xF (.inl k);rw [cB]at eu;have hd:=pk (s:=s) (w:=w) k;have hgt:=aW (d:=aQ) hu;rw [eu,Int.toNat_natCast,zT hu (hst u hu) (.inl rfl),hgt]at hd;rw [eu,bH]at G;unfold tw at G;refine⟨v1,v2,s.aa.length,h.e1,h.e2,Nat.le_refl _,aM (bh KC aw Tryz.func144 rfl rfl NN rfl rfl rfl (by simp) hH ?_)⟩;rw [bH];unfold tw;simp [d1,d2,d3,h.g1,h.g2,h.g3,h.e1,h.e2,h.e3,hp,hh,G,hu,br.row,aH,ah,hd,cu,s1,s2]
 ·obtain⟨t,et,ht⟩:=hb.held (by omega);rw [cB]at et;obtain⟨u,eu,hu⟩:=hb.xF (.inr k);rw [cB]at eu;have hd:=po (s:=s) (w:=w) k;have hgt:=aW (d:=aQ) ht;have hst2:=hst;have S:=qP (t:=t) (bit:=2) (on:=false) hst ht (.inr (.inl rfl));have S':=qP (ts:=dc s.aa t 2 false) (t:=t) (bit:=1) (on:=false) (fun j hj=>(S.2 j (by rw [S.1]at hj;exact hj)).2) (by rw [S.1];exact ht) (.inl rfl);rw [et,eu,Int.toNat_natCast,Int.toNat_natCast,zT (by rw [S'.1,S.1];exact hu) (S'.2 u (by rw [S.1];exact hu)).2 (.inr (.inl rfl)),GR ht (hst t ht),hgt]at hd;rw [et,bH]at E;unfold tw at E;obtain⟨X,hX⟩: ∃X,s.aa.set t ⟨s.aa[t].cell,lZ s.aa[t].state 3⟩=X:=⟨_,rfl⟩;have hXl:X.length=s.aa.length:=(by rw [←hX];simp);have huX:u<X.length:=(by omega);rw [hX,aW huX]at hd;have hXr:(s.aa.map br.row).set t [.int .i64 s.aa[t].cell, .int .i64 (lZ s.aa[t].state 3)]=X.map br.row:=by
   rw [←hX,List.map_set];rfl
  have SX:mR (H.set n3 (.arr 2 (X.map br.row) s.aa.length false)) n1 n2 n3 v1 v2 s.aa.length {s with aa:=X}:=
   ⟨h.mz,h.mc,h.kK,(G31 _).trans h.g1,(G32 _).trans h.g2,G33 _,h.e1,h.e2,by show s.aa.length≤X.length;omega⟩
  have G':=fun c (f:Fr)=>wT (r:=r) (c:=c) (a:=a) (mR.up (fr:=f) SX) hh hwho hb.hand (by simp);simp only [eu]at G';rw [bH]at G';unfold tw at G';simp only [hXl]at G';refine⟨v1,v2,s.aa.length,h.e1,h.e2,Nat.le_refl _,aM (bh KC aw Tryz.func146 rfl rfl NP rfl rfl rfl (by simp) hH ?_)⟩;rw [bH];unfold tw;simp [d1,d2,d3,h.g1,h.g2,h.g3,h.e1,h.e2,h.e3,hp,hh,E,ht,hXr,G',G33,hu,huX,hXl,br.row,aH,ah,hd,cu,s1,s2]
 ·obtain⟨t,et,ht⟩:=hb.held (by omega);rw [cB]at et;have hd:=pq (s:=s) (w:=w) k;have hgt:=aW (d:=aQ) ht;rw [et,Int.toNat_natCast,zT ht (hst t ht) (.inr (.inr rfl)),hgt]at hd;rw [et,bH]at E;unfold tw at E;refine⟨v1,v2,s.aa.length,h.e1,h.e2,Nat.le_refl _,aM (bh KC aw Tryz.func148 rfl rfl NR rfl rfl rfl (by simp) hH ?_)⟩;rw [bH];unfold tw;simp [d1,d2,d3,h.g1,h.g2,h.g3,h.e1,h.e2,h.e3,hp,hh,E,ht,br.row,aH,ah,hd,cu,s1,s2]
 ·obtain⟨t,et,ht⟩:=hb.held (by omega);rw [cB]at et;have hd:=pt (s:=s) (w:=w) k;have hgt:=aW (d:=aQ) ht;rw [et,Int.toNat_natCast,wR ht (hst t ht) (.inr (.inr rfl)),hgt]at hd;rw [et,bH]at E;unfold tw at E;refine⟨v1,v2,s.aa.length,h.e1,h.e2,Nat.le_refl _,aM (bh KC aw Tryz.func150 rfl rfl NT rfl rfl rfl (by simp) hH ?_)⟩;rw [bH];unfold tw;simp [d1,d2,d3,h.g1,h.g2,h.g3,h.e1,h.e2,h.e3,hp,hh,E,ht,br.row,aH,ah,hd,cu,s1,s2]
end
end
def Fr.ji (f:Fr):Prop:=(f.map (·.1)).Pairwise (· < ·)
theorem Fr.pM {q : Nat} {b : dB} {x : Nat × dB} : ∀ {f : Fr}, f.ji → x ∈ f.ins q b → x = (q, b) ∨ (x ∈ f ∧ x.1 ≠ q)
  | [], _, h => by simp at h; exact .inl h
  | (k, c) :: r, hs, h => by
    unfold Fr.ji at hs
    rw [List.map_cons, List.pairwise_cons] at hs
    simp only [Fr.qY] at h
    have hlt : ∀ y ∈ r, k < y.1 := fun y hy => hs.1 y.1 (List.mem_map_of_mem hy)
    split at h
    · rename_i e; subst e
      rcases List.mem_cons.1 h with h | h
      · exact .inl h
      · exact .inr ⟨List.mem_cons_of_mem _ h, fun e => by have := hlt x h; omega⟩
    · rename_i ne
      split at h
      · rename_i lt
        rcases List.mem_cons.1 h with h | h
        · exact .inl h
        · refine .inr ⟨h, fun e => ?_⟩
          rcases List.mem_cons.1 h with h | h
          · subst h; exact ne e.symm
          · have := hlt x h; omega
      · rcases List.mem_cons.1 h with h | h
        · subst h; exact .inr ⟨List.mem_cons_self .., fun e => ne e.symm⟩
        · rcases Fr.pM (f := r) hs.2 h with h | h
          · exact .inl h
          · exact .inr ⟨List.mem_cons_of_mem _ h.1, h.2⟩
theorem Fr.BX {q : Nat} {b : dB} : ∀ {f : Fr} {k : Nat}, k ∈ (f.ins q b).map (·.1) → k = q ∨ k ∈ f.map (·.1)
  | [], k, h => by simp at h; exact .inl h
  | (k0, c) :: r, k, h => by
    simp only [Fr.qY] at h
    split at h
    · rename_i e; subst e
      simp only [List.map_cons, List.mem_cons] at h ⊢
      exact .inr h
    · split at h
      · simp only [List.map_cons, List.mem_cons] at h ⊢
        exact h
      · simp only [List.map_cons, List.mem_cons] at h ⊢
        rcases h with h | h
        · exact .inr (.inl h)
        · rcases Fr.BX h with h | h
          · exact .inl h
          · exact .inr (.inr h)
theorem Fr.dZ {q : Nat} {b : dB} : ∀ {f : Fr}, f.ji → (f.ins q b).ji
  | [], _ => by simp [Fr.ji]
  | (k, c) :: r, hs => by
    unfold Fr.ji at hs ⊢
    rw [List.map_cons, List.pairwise_cons] at hs
    simp only [Fr.qY]
    split
    · rename_i e; subst e
      rw [List.map_cons, List.pairwise_cons]; exact hs
    · rename_i ne
      split
      · rename_i lt
        rw [List.map_cons, List.pairwise_cons, List.map_cons, List.pairwise_cons]
        refine ⟨fun y hy => ?_, hs⟩
        rcases List.mem_cons.1 hy with h | h
        · subst h; exact lt
        · have := hs.1 y h; simp only at *; omega
      · rw [List.map_cons, List.pairwise_cons]
        refine ⟨fun y hy => ?_, Fr.dZ (f := r) hs.2⟩
        rcases Fr.BX hy with h | h
        · subst h; simp only at *; omega
        · exact hs.1 y h
theorem Fr.get_mem {q : Nat} {b : dB} : ∀ {f : Fr}, f.get q = some b → (q, b) ∈ f
  | [], h => by simp at h
  | (k, c) :: r, h => by
    simp only [Fr.cL] at h
    split at h
    · rename_i e; subst e; cases h; exact List.mem_cons_self ..
    · exact List.mem_cons_of_mem _ (Fr.get_mem h)
theorem Fr.EG {q : Nat} {b : dB} : ∀ {f : Fr}, f.ji → (q, b) ∈ f → f.get q = some b
  | [], _, h => by simp at h
  | (k, c) :: r, hs, h => by
    unfold Fr.ji at hs
    rw [List.map_cons, List.pairwise_cons] at hs
    simp only [Fr.cL]
    rcases List.mem_cons.1 h with h | h
    · cases h; simp
    · have := hs.1 q (List.mem_map_of_mem (f := (·.1)) h)
      rw [if_neg (by simp only at this; omega)]
      exact Fr.EG hs.2 h
theorem Fr.zU {q : Nat} : ∀ {f : Fr}, (f.del q).Sublist f
  | [] => .slnil
  | (k, c) :: r => by
    unfold Fr.del
    split
    · exact Fr.zU.cons _
    · exact Fr.zU.cons_cons _
theorem qQ: ∀{l:List Nat} {f:Fr},(fT l f).Sublist f
 | [],f=>List.Sublist.refl f
 |q::l,f=>(qQ (l:=l)).trans Fr.zU
theorem DS {l:List Nat}{f:Fr}(h:f.ji):(fT l f).ji:=h.sublist ((qQ (l:=l) (f:=f)).map _)
theorem nY {p:Nat}: ∀{l:List Nat} {f:Fr},(fT l f).get p=if p∈l then none else f.get p
 | [],f=>by simp [fT]
 |q::l,f=>by
  unfold fT;rw [nY,Fr.uK];by_cases h1:p∈l
  ·simp [h1]
  ·by_cases h2:p=q
   ·simp [h1,h2]
   ·simp [h1,h2]
theorem qR {nm:Nm}: ∀{f:Fr},iI nm f=true↔ ∀x∈f,gv nm x.2=true
 | []=>by simp [iI]
 |x::r=>by simp [iI,qR (f:=r)]
theorem jw {L:Nat}{s:aZ}{fr:Fr}{p:Nat}: ∀{g:Fr},p∈gF L s fr g↔(∃b,(p,b)∈g)∧gw p=true∧jn (L,p) s=true∧iI (L,p) fr=true
 | []=>by simp [gF]
 |x::r=>by
  obtain⟨k,b⟩:=x;simp only [gF];by_cases h:(gw k && jn (L,k) s && iI (L,k) fr)=true
  ·rw [if_pos h,List.mem_cons,jw];simp only [Bool.and_eq_true]at h;constructor
   ·rintro(rfl|⟨⟨b',hb⟩,h2⟩)
    ·exact⟨⟨b,List.mem_cons_self ..⟩,h.1.1,h.1.2,h.2⟩
    ·exact⟨⟨b',List.mem_cons_of_mem _ hb⟩,h2⟩
   ·rintro⟨⟨b',hb⟩,h2⟩;rcases List.mem_cons.1 hb with e|e
    ·cases e;exact .inl rfl
    ·exact .inr ⟨⟨b',e⟩,h2⟩
  ·rw [if_neg h,jw];constructor
   ·rintro⟨⟨b',hb⟩,h2⟩;exact⟨⟨b',List.mem_cons_of_mem _ hb⟩,h2⟩
   ·rintro⟨⟨b',hb⟩,h2⟩;rcases List.mem_cons.1 hb with e|e
    ·cases e;exact absurd (by simp [h2]) h
    ·exact⟨⟨b',e⟩,h2⟩
theorem Vf {s:aZ}{F:Fr}{H:ai}{nt:Nat}(hH:0<H.length): ∃F',qh ⟨s,F::H,nt⟩=some ⟨s,F'::H,nt⟩∧(F.ji→F'.ji)∧(∀x∈F',x∈F)∧
  (∀k,gw k=false→F'.get k=F.get k)∧(∀k x,x∈F→gv (H.length,k) x.2=false→F'.get k=F.get k)∧
  (∀k,gw k=true→jn (H.length,k) s=true→(∀x∈F,gv (H.length,k) x.2=true)→F'.get k=none):=by
 refine⟨fT (gF H.length s F F) F, ?_,DS,fun x hx=>qQ.subset hx,fun k hk=> ?_,fun k x hx hr=> ?_,fun k hk hs hr=> ?_⟩
 ·unfold qh;simp only;rw [if_neg (by omega)]
 ·rw [nY,if_neg];rw [jw];rintro⟨_,h,_⟩;rw [hk]at h;cases h
 ·rw [nY,if_neg];rw [jw];rintro⟨_,_,_,h⟩;rw [qR]at h;rw [h x hx]at hr;cases hr
 ·rw [nY];by_cases h:k∈gF H.length s F F
  ·rw [if_pos h]
  ·rw [if_neg h]
   cases hg:F.get k with
   |none=>rfl
   |some b=>exact absurd (jw.2 ⟨⟨b,Fr.get_mem hg⟩,hk,hs,qR.2 hr⟩) h
def fA:Nat→Nat|0=>90139|1=>1000000024631|_=>2000000024631
def dm:Nat→Nat|0=>110619|1=>1000000041015|_=>2000000041015
def eZ:Nat→Nat|0=>217115|1=>1000000057399|_=>2000000057399
def kr:Nat→Nat|1=>2|_=>1
def gG (L:Nat)(r0:aC)(aj:List au):dB:= .box [.pure (.int .i64 r0.wide), .pure (.int .i64 r0.deep), .bd (L,188441) 2 r0.ae.length 0 r0.ae.length, .bd (L,339993) 5 r0.aa.length 0 r0.aa.length, .aS,dh (L,393241) 1 (r0.a7.map aD),dh (L,62) 9 (aj.map au.row)]
def dL (L q:Nat)(s:ay):dB:= .box [.bd (L,fA q) 1 s.ae.length 0 s.ae.length, .bd (L,dm q) 2 s.ao.length 0 s.ao.length, .bd (L,eZ q) 2 s.aa.length 0 s.aa.length]
structure SF (F:Fr)(k1 k2 k3:Nat)(s:ay):Prop where
 h1: ∃v,v≤s.ae.length∧F.get k1=some (.arr 1 (s.ae.map aD) v false)
 h2: ∃v,v≤s.ao.length∧F.get k2=some (.arr 2 (s.ao.map aI.row) v false)
 h3: ∃v,v≤s.aa.length∧F.get k3=some (.arr 2 (s.aa.map br.row) v false)
structure FB (L:Nat)(F:Fr)(r0:aC)(aj:List au)(sb:dB):Prop where
 ji:F.ji
 g6:F.get 6=some jk
 g7:F.get 7=some (gG L r0 aj)
 g8:F.get 8=some sb
 gp:F.get 188441=some (.arr 2 (r0.ae.map aV.row) 0 false)
 gt:F.get 339993=some (.arr 5 (r0.aa.map a8.row) 0 false)
 gl:r0.a7≠[]→F.get 393241=some (.arr 1 (r0.a7.map aD) 0 false)
 LA:aj=[]→F.get 62=none
 ga:aj≠[]→F.get 62=some (.arr 9 (aj.map au.row) 0 false)
 ref: ∀x∈F,x.1≠8→ ∀k,gw k=true→gv (L,k) x.2=true
structure FI (L:Nat)(F:Fr)(r0:aC)(aj:List au)(s:ay)(q:Nat):Prop extends FB L F r0 aj (dL L q s) where
 sc:SF F (fA q) (dm q) (eZ q) s
 Dg: ∀k,gw k=true→F.get k≠none→k=fA q∨k=dm q∨k=eZ q
structure FM (L:Nat)(F:Fr)(r0:aC)(aj:List au)(s:ay)(q:Nat)(t:ay):Prop extends FB L F r0 aj (dL L q s) where
 sc:SF F (fA q) (dm q) (eZ q) s
 nx:SF F (fA (kr q)) (dm (kr q)) (eZ (kr q)) t
 Dg: ∀k,gw k=true→F.get k≠none→(k=fA q∨k=dm q∨k=eZ q)∨(k=fA (kr q)∨k=dm (kr q)∨k=eZ (kr q))
theorem pL (q:Nat)(hq:q≤2):fA q≠dm q∧fA q≠eZ q∧dm q≠eZ q∧fA q≠fA (kr q)∧fA q≠dm (kr q)∧fA q≠eZ (kr q)∧dm q≠fA (kr q)∧dm q≠dm (kr q)∧dm q≠eZ (kr q)∧eZ q≠fA (kr q)∧eZ q≠dm (kr q)∧eZ q≠eZ (kr q):=by
 match q,hq with
 |0,_=>decide
 |1,_=>decide
 |2,_=>decide
theorem sX (q:Nat):1≤kr q∧kr q≤2:=by
 unfold kr;split<;>omega
def fixed:List Nat:=[6,7,8,62,188441,339993,393241]
theorem lB (q:Nat)(hq:q≤2):(∀k∈fixed,k≠fA q)∧(∀k∈fixed,k≠dm q)∧(∀k∈fixed,k≠eZ q):=by
 match q,hq with
 |0,_=>decide
 |1,_=>decide
 |2,_=>decide
theorem GS: ∀k∈fixed,gw k=false:=by decide
theorem FB.ins {L:Nat}{F:Fr}{r0:aC}{aj:List au}{sb:dB}(h:FB L F r0 aj sb){k:Nat}{b:dB}(hk: ∀j∈fixed,j≠k)(hb: ∀nm,gv nm b=true):FB L (F.ins k b) r0 aj sb where
 ji:=Fr.dZ h.ji
 g6:=(Fr.ax _ (hk 6 (by decide)) _).trans h.g6
 g7:=(Fr.ax _ (hk 7 (by decide)) _).trans h.g7
 g8:=(Fr.ax _ (hk 8 (by decide)) _).trans h.g8
 gp:=(Fr.ax _ (hk 188441 (by decide)) _).trans h.gp
 gt:=(Fr.ax _ (hk 339993 (by decide)) _).trans h.gt
 gl:=fun hl=>(Fr.ax _ (hk 393241 (by decide)) _).trans (h.gl hl)
 LA:=fun ha=>(Fr.ax _ (hk 62 (by decide)) _).trans (h.LA ha)
 ga:=fun ha=>(Fr.ax _ (hk 62 (by decide)) _).trans (h.ga ha)
 ref:=fun x hx hne k' hk'=>by
  rcases Fr.pM h.ji hx with e|⟨e,_⟩
  ·subst e;exact hb _
  ·exact h.ref x e hne k' hk'
def qH (F:Fr)(q v1 v2 v3:Nat)(t:ay):Fr:=((F.ins (fA q) (.arr 1 (t.ae.map aD) v1 false)).ins (dm q) (.arr 2 (t.ao.map aI.row) v2 false)).ins (eZ q) (.arr 2 (t.aa.map br.row) v3 false)
theorem jr (F:Fr)(q v1 v2 v3:Nat)(t:ay){k:Nat}(h1:k≠fA q)(h2:k≠dm q)(h3:k≠eZ q):(qH F q v1 v2 v3 t).get k=F.get k:=by
 unfold qH;rw [Fr.ax _ h3,Fr.ax _ h2,Fr.ax _ h1]
theorem zp (F:Fr)(q:Nat)(hq:q≤2){v1 v2 v3:Nat}(t:ay)(h1:v1≤t.ae.length)(h2:v2≤t.ao.length)(h3:v3≤t.aa.length):SF (qH F q v1 v2 v3 t) (fA q) (dm q) (eZ q) t:=by
 obtain⟨n1,n2,n3,_⟩:=pL q hq;refine⟨⟨v1,h1, ?_⟩,⟨v2,h2, ?_⟩,⟨v3,h3, ?_⟩⟩
 ·unfold qH;rw [Fr.ax _ n2,Fr.ax _ n1,Fr.bc]
 ·unfold qH;rw [Fr.ax _ n3,Fr.bc]
 ·unfold qH;rw [Fr.bc]
theorem zo {L:Nat}{F:Fr}{r0:aC}{aj:List au}{sb:dB}(h:FB L F r0 aj sb)(q:Nat)(hq:q≤2)(v1 v2 v3:Nat)(t:ay):FB L (qH F q v1 v2 v3 t) r0 aj sb:=by
 obtain⟨a,b,c⟩:=lB q hq;exact((h.ins a fun _=>rfl).ins b fun _=>rfl).ins c fun _=>rfl
theorem SF.other {F F':Fr}{k1 k2 k3:Nat}{s:ay}(h:SF F k1 k2 k3 s)(e1:F'.get k1=F.get k1)(e2:F'.get k2=F.get k2)(e3:F'.get k3=F.get k3):SF F' k1 k2 k3 s:=by
 obtain⟨a,b,c⟩:=h;exact⟨by rw [e1];exact a,by rw [e2];exact b,by rw [e3];exact c⟩
theorem FI.own {L:Nat}{F:Fr}{r0:aC}{aj:List au}{s:ay}{q:Nat}(hq:q≤2)(h:FI L F r0 aj s q):FM L (qH F (kr q) 0 0 0 s) r0 aj s q s:=by
 obtain⟨n1,n2,n3,m11,m12,m13,m21,m22,m23,m31,m32,m33⟩:=pL q hq;have hp:=sX q
 exact {zo h.toFB (kr q) hp.2 0 0 0 s with
  sc:=h.sc.other (jr _ _ _ _ _ _ m11 m12 m13) (jr _ _ _ _ _ _ m21 m22 m23) (jr _ _ _ _ _ _ m31 m32 m33)
  nx:=zp F (kr q) hp.2 s (Nat.zero_le _) (Nat.zero_le _) (Nat.zero_le _)
  Dg:=fun k hk hg=>by
   by_cases h1:k=fA (kr q)
   ·exact .inr (.inl h1)
   by_cases h2:k=dm (kr q)
   ·exact .inr (.inr (.inl h2))
   by_cases h3:k=eZ (kr q)
   ·exact .inr (.inr (.inr h3))
   rw [jr _ _ _ _ _ _ h1 h2 h3]at hg;exact .inl (h.Dg k hk hg)}
theorem FM.Si {L:Nat}{F:Fr}{r0:aC}{aj:List au}{s t t':ay}{q:Nat}(hq:q≤2)(h:FM L F r0 aj s q t){v1 v2 v3:Nat}(h1:v1≤t'.ae.length)(h2:v2≤t'.ao.length)(h3:v3≤t'.aa.length):FM L (qH F (kr q) v1 v2 v3 t') r0 aj s q t':=by
 obtain⟨n1,n2,n3,m11,m12,m13,m21,m22,m23,m31,m32,m33⟩:=pL q hq;have hp:=sX q
 exact {zo h.toFB (kr q) hp.2 v1 v2 v3 t' with
  sc:=h.sc.other (jr _ _ _ _ _ _ m11 m12 m13) (jr _ _ _ _ _ _ m21 m22 m23) (jr _ _ _ _ _ _ m31 m32 m33)
  nx:=zp F (kr q) hp.2 t' h1 h2 h3
  Dg:=fun k hk hg=>by
   by_cases h1:k=fA (kr q)
   ·exact .inr (.inl h1)
   by_cases h2:k=dm (kr q)
   ·exact .inr (.inr (.inl h2))
   by_cases h3:k=eZ (kr q)
   ·exact .inr (.inr (.inr h3))
   rw [jr _ _ _ _ _ _ h1 h2 h3]at hg;exact h.Dg k hk hg}
def zq (L:Nat)(F:Fr)(r0:aC)(aj:List au):Fr:=(F.ins 62 (.arr 9 (aj.map au.row) 0 false)).ins 7 (gG L r0 aj)
theorem js (L:Nat)(F:Fr)(r0:aC)(aj:List au){k:Nat}(h1:k≠62)(h2:k≠7):(zq L F r0 aj).get k=F.get k:=by
 unfold zq;rw [Fr.ax _ h2,Fr.ax _ h1]
theorem yi {L:Nat}{r0:aC}{aj:List au}{k:Nat}(hk:gw k=true):gv (L,k) (gG L r0 aj)=true:=by
 have ne: ∀j,gw j=false→((L,j):Nm)≠(L,k):=fun j hj e=>by
  have:=(Prod.mk.inj e).2;subst this;rw [hj]at hk;cases hk
 have one: ∀j es rows,gw j=false→eN (L,k) (dh (L,j) es rows)=true:=fun j es rows hj=>by
  unfold dh;split
  ·rfl
  ·simpa [eN]using ne j hj
 have a:=ne 188441 (by decide);have b:=ne 339993 (by decide);have c:=one 393241 1 (r0.a7.map aD) (by decide);have d:=one 62 9 (aj.map au.row) (by decide);simp only [gG,gv,gq,eN,decide_eq_true_eq,Bool.and_eq_true,true_and,and_true,c,d,ne_eq];exact⟨a,b⟩
theorem El {L:Nat}{F:Fr}{r0:aC}{aj acts':List au}{sb:dB}(h:FB L F r0 aj sb)(hne:acts'≠[]):FB L (zq L F r0 acts') r0 acts' sb where
 ji:=Fr.dZ (Fr.dZ h.ji)
 g6:=(js _ _ _ _ (by decide) (by decide)).trans h.g6
 g7:=by unfold zq;rw [Fr.bc]
 g8:=(js _ _ _ _ (by decide) (by decide)).trans h.g8
 gp:=(js _ _ _ _ (by decide) (by decide)).trans h.gp
 gt:=(js _ _ _ _ (by decide) (by decide)).trans h.gt
 gl:=fun hl=>(js _ _ _ _ (by decide) (by decide)).trans (h.gl hl)
 LA:=fun e=>absurd e hne
 ga:=fun _=>by unfold zq;rw [Fr.ax _ (by decide),Fr.bc]
 ref:=fun x hx hne k' hk'=>by
  rcases Fr.pM (Fr.dZ h.ji) hx with e|⟨e,_⟩
  ·subst e;exact yi hk'
  ·rcases Fr.pM h.ji e with e|⟨e,_⟩
   ·subst e;rfl
   ·exact h.ref x e hne k' hk'
theorem FM.app {L:Nat}{F:Fr}{r0:aC}{aj acts':List au}{s t:ay}{q:Nat}(hq:q≤2)(h:FM L F r0 aj s q t)(hne:acts'≠[]):FM L (zq L F r0 acts') r0 acts' s q t:=by
 have hp:=sX q;obtain⟨a,b,c⟩:=lB q hq;obtain⟨a',b',c'⟩:=lB (kr q) hp.2;have one: ∀k,(∀j∈fixed,j≠k)→(zq L F r0 acts').get k=F.get k:=fun k hk=>js _ _ _ _ (hk 62 (by decide)).symm (hk 7 (by decide)).symm
 exact {El h.toFB hne with
  sc:=h.sc.other (one _ a) (one _ b) (one _ c)
  nx:=h.nx.other (one _ a') (one _ b') (one _ c')
  Dg:=fun k hk hg=>by
   have h1:k≠62:=fun e=>(by subst e;cases hk);have h2:k≠7:=fun e=>(by subst e;cases hk);rw [js _ _ _ _ h1 h2]at hg;exact h.Dg k hk hg}
theorem DT {L q:Nat}{s:ay}{k:Nat}(h1:k≠fA q)(h2:k≠dm q)(h3:k≠eZ q):gv (L,k) (dL L q s)=true:=by
 simp only [dL,gv,gq,eN,Bool.and_true,Bool.and_eq_true,decide_eq_true_eq,ne_eq,Prod.mk.injEq,true_and];exact⟨fun e=>h1 e.symm,fun e=>h2 e.symm,fun e=>h3 e.symm⟩
theorem BZ {L q:Nat}{s:ay}:gv (L,fA q) (dL L q s)=false∧gv (L,dm q) (dL L q s)=false∧gv (L,eZ q) (dL L q s)=false:=by
 refine⟨?_, ?_, ?_⟩<;>simp [dL,gv,gq,eN]
theorem FB.qh {F:Fr}{H:ai}{r0:aC}{aj:List au}{t:ay}{p nt:Nat}{s:aZ}(hp:p≤2)(hH:0<H.length)(h:FB H.length F r0 aj (dL H.length p t))(sc:SF F (fA p) (dm p) (eZ p) t)(hs: ∀k,gw k=true→jn (H.length,k) s=true):
  ∃F',Go.Gh.qh ⟨s,F::H,nt⟩=some ⟨s,F'::H,nt⟩∧FI H.length F' r0 aj t p:=by
 obtain⟨F',e,hsrt,hmem,hnf,hrf,hdead⟩:=Vf (s:=s) (F:=F) (nt:=nt) hH;refine⟨F',e, ?_⟩;have fx: ∀k∈fixed,F'.get k=F.get k:=fun k hk=>hnf k (GS k hk);have m8:(8,dL H.length p t)∈F:=Fr.get_mem h.g8;have R:=BZ (L:=H.length) (q:=p) (s:=t)
 exact {
  ji:=hsrt h.ji
  g6:=(fx 6 (by decide)).trans h.g6
  g7:=(fx 7 (by decide)).trans h.g7
  g8:=(fx 8 (by decide)).trans h.g8
  gp:=(fx 188441 (by decide)).trans h.gp
  gt:=(fx 339993 (by decide)).trans h.gt
  gl:=fun hl=>(fx 393241 (by decide)).trans (h.gl hl)
  LA:=fun ha=>(fx 62 (by decide)).trans (h.LA ha)
  ga:=fun ha=>(fx 62 (by decide)).trans (h.ga ha)
  ref:=fun x hx=>h.ref x (hmem x hx)
  sc:=sc.other (hrf _ _ m8 R.1) (hrf _ _ m8 R.2.1) (hrf _ _ m8 R.2.2)
  Dg:=fun k hk hg=>by
   by_cases h1:k=fA p
   ·exact .inl h1
   by_cases h2:k=dm p
   ·exact .inr (.inl h2)
   by_cases h3:k=eZ p
   ·exact .inr (.inr h3)
   refine absurd (hdead k hk (hs k hk) fun x hx=> ?_) hg;by_cases e8:x.1=8
   ·have:x.2=dL H.length p t:=by
     have:=Fr.EG h.ji (show (x.1,x.2)∈F from hx)
     rw [e8,h.g8]at this;exact(Option.some.inj this).symm
    rw [this];exact DT h1 h2 h3
   ·exact h.ref x hx e8 k hk}
theorem FM.fin {F:Fr}{H:ai}{r0:aC}{aj:List au}{s t:ay}{q nt:Nat}{sl:aZ}(hH:0<H.length)(h:FM H.length F r0 aj s q t)(hs: ∀k,gw k=true→jn (H.length,k) sl=true):
  ∃F',Go.Gh.qh ⟨sl,F.ins 8 (dL H.length (kr q) t)::H,nt⟩=some ⟨sl,F'::H,nt⟩∧FI H.length F' r0 aj t (kr q):=by
 have hp:=sX q;obtain⟨a',b',c'⟩:=lB (kr q) hp.2;refine FB.qh hp.2 hH ?_ ?_ hs
 ·exact {
   ji:=Fr.dZ h.ji
   g6:=(Fr.ax _ (by decide) _).trans h.g6
   g7:=(Fr.ax _ (by decide) _).trans h.g7
   g8:=Fr.bc ..
   gp:=(Fr.ax _ (by decide) _).trans h.gp
   gt:=(Fr.ax _ (by decide) _).trans h.gt
   gl:=fun hl=>(Fr.ax _ (by decide) _).trans (h.gl hl)
   LA:=fun ha=>(Fr.ax _ (by decide) _).trans (h.LA ha)
   ga:=fun ha=>(Fr.ax _ (by decide) _).trans (h.ga ha)
   ref:=fun x hx hne k' hk'=>by
    rcases Fr.pM h.ji hx with e|⟨e,_⟩
    ·exact absurd (by rw [e]) hne
    ·exact h.ref x e hne k' hk'}
 ·exact h.nx.other (Fr.ax _ (a' 8 (by decide)).symm _) (Fr.ax _ (b' 8 (by decide)).symm _) (Fr.ax _ (c' 8 (by decide)).symm _)
theorem FI.same {F:Fr}{H:ai}{r0:aC}{aj:List au}{s:ay}{q nt:Nat}{sl:aZ}(hq:q≤2)(hH:0<H.length)(h:FI H.length F r0 aj s q)(hs: ∀k,gw k=true→jn (H.length,k) sl=true):
  ∃F',Go.Gh.qh ⟨sl,F::H,nt⟩=some ⟨sl,F'::H,nt⟩∧FI H.length F' r0 aj s q:=FB.qh hq hH h.toFB h.sc hs
section
theorem Fr.rV {k : Nat} {b : dB} : ∀ {f : Fr}, f.ji → f.get k = some b → f.ins k b = f
  | [], _, h => by simp at h
  | (j, c) :: r, hs, h => by
    unfold Fr.ji at hs
    rw [List.map_cons, List.pairwise_cons] at hs
    simp only [Fr.cL] at h
    simp only [Fr.qY]
    by_cases e : k = j
    · subst e
      rw [if_pos rfl] at h
      cases h
      rw [if_pos rfl]
    · rw [if_neg e] at h
      rw [if_neg e]
      have := hs.1 k (List.mem_map_of_mem (f := (·.1)) (Fr.get_mem h))
      simp only at this
      rw [if_neg (by omega), Fr.rV hs.2 h]
def rU (L:Nat)(r0:aC)(aj:List au):GV:= .agg [.pure (.int .i64 r0.wide), .pure (.int .i64 r0.deep), .bd (L,188441) 2 r0.ae.length 0 r0.ae.length, .bd (L,339993) 5 r0.aa.length 0 r0.aa.length, .aS,dh (L,393241) 1 (r0.a7.map aD),dh (L,62) 9 (aj.map au.row)]
def IW (L q:Nat)(s:ay):GV:=kJ (L,fA q) (L,dm q) (L,eZ q) s
def jA (r0:aC)(aj:List au):aC:={r0 with aj:=aj}
section
variable {F f0:Fr} {H:ai} {r0:aC} {aj:List au} {sb:dB} {c:Nat}
theorem uO {nm:Nm}{es:Nat}{rows:List (List PV)}(h:rows≠[]→H.get nm=some (.arr es rows 0 false)):E3 H (dh nm es rows) (.slice rows):=by
 unfold dh;by_cases hr:rows=[]
 ·subst hr;rw [if_pos rfl];simp
 ·rw [if_neg hr];exact⟨rows,0,false,h hr,Nat.zero_le _,rfl,rfl,rfl,rfl⟩
theorem FB.rd (h:FB H.length F r0 aj sb)(hs:r0.seen=[]):oP (f0::F::H) (rU H.length r0 aj) (.agg (jA r0 aj).row):=by
 have ne: ¬H.length=H.length+1:=(by omega);have g: ∀k,ai.get (f0::F::H) (H.length,k)=F.get k:=fun k=>(by simp [ne]);rw [gK];unfold rU;rw [uM];simp only [jA,rY,uN,rZ,and_true,true_and];refine⟨⟨_,0,false,(g _).trans h.gp,Nat.zero_le _,by simp,rfl,rfl,rfl⟩,⟨_,0,false,(g _).trans h.gt,Nat.zero_le _,by simp,rfl,rfl,rfl⟩, ?_,uO fun hr=>(g _).trans (h.gl ?_),uO fun hr=>(g _).trans (h.ga ?_)⟩
 ·rw [hs];rfl
 ·intro e;rw [e]at hr;exact hr rfl
 ·intro e;rw [e]at hr;exact hr rfl
theorem SF.rd {k1 k2 k3:Nat}{s:ay}(h:SF F k1 k2 k3 s):oP (f0::F::H) (kJ (H.length,k1) (H.length,k2) (H.length,k3) s) (.agg s.row):=by
 have ne: ¬H.length=H.length+1:=(by omega);have g: ∀k,ai.get (f0::F::H) (H.length,k)=F.get k:=fun k=>(by simp [ne]);obtain⟨⟨v1,a1,b1⟩,⟨v2,a2,b2⟩,⟨v3,a3,b3⟩⟩:=h;unfold kJ ay.row;rw [uM];simp only [rY,uN,rZ,and_true,true_and];exact⟨⟨_,v1,false,(g _).trans b1,a1,by simp,rfl,rfl,rfl⟩,⟨_,v2,false,(g _).trans b2,a2,by simp,rfl,rfl,rfl⟩,⟨_,v3,false,(g _).trans b3,a3,by simp,rfl,rfl,rfl⟩⟩
theorem SF.self {k1 k2 k3:Nat}{s:ay}(hF:F.ji)(h:SF F k1 k2 k3 s)(mz:k1≠k2)(mc:k1≠k3)(kK:k2≠k3): ∃v1 v2 v3,mh (f0::F::H) (H.length,k1) (H.length,k2) (H.length,k3) v1 v2 v3 s:=by
 have ne: ¬H.length=H.length+1:=(by omega);have g: ∀k,ai.get (f0::F::H) (H.length,k)=F.get k:=fun k=>(by simp [ne]);have st: ∀k b,F.get k=some b→ai.set (f0::F::H) (H.length,k) b=f0::F::H:=fun k b hb=>(by simp [ne,Fr.rV hF hb]);have nn: ∀a b:Nat,a≠b→((H.length,a):Nm)≠(H.length,b):=fun a b h e=>h (Prod.mk.inj e).2;obtain⟨⟨v1,a1,b1⟩,⟨v2,a2,b2⟩,⟨v3,a3,b3⟩⟩:=h;exact⟨v1,v2,v3,{mz:=nn _ _ mz,mc:=nn _ _ mc,kK:=nn _ _ kK,g1:=(g _).trans b1,g2:=(g _).trans b2,g3:=(g _).trans b3,e1:=a1,e2:=a2,e3:=a3,s1:=st _ _ b1,s2:=st _ _ b2,s3:=st _ _ b3}⟩
structure RB (r0:aC)(n:Nat):Prop where
 hn:IntKind.i64.wrap (r0.wide*r0.deep)=n
 n0:0<n
 n9:n≤9
 wide:r0.wide≠0
 pl:r0.ae.length≤3
 tl:r0.aa.length≤4
 p0:r0.ae≠[]
 t0:r0.aa≠[]
 seen:r0.seen=[]
theorem wj {nm:Nm}(hlt:nm.1<H.length){n:Nat}(hb:RB r0 n)(h:FB H.length F r0 aj sb){k1 k2 k3:Nat}{s:ay}(hs:SF F k1 k2 k3 s)(hS:Ff r0 s)(w:Nat)(hw:w<r0.ae.length)(wd:Int):
  aN KC (aF KC) 49 [.aA nm 0,rU H.length r0 aj,kJ (H.length,k1) (H.length,k2) (H.length,k3) s, .pure (.int .i64 w)] c (f0::F::H.set nm (bw wd))=
   some (.pure (.tuple [.agg (gf (jA r0 aj) s w (bK n r0.aa.length r0.ae.length w) wd).1.1.row, .bool (gf (jA r0 aj) s w (bK n r0.aa.length r0.ae.length w) wd).1.2]),f0::F::H.set nm (bw (gf (jA r0 aj) s w (bK n r0.aa.length r0.ae.length w) wd).2)):=by
 have hl:(H.set nm (bw wd)).length=H.length:=ai.length_set _ _ _;have h':FB (H.set nm (bw wd)).length F r0 aj sb:=(by rw [hl];exact h);have hne: ¬nm.1=H.length:=(by omega);have hne2: ¬nm.1=H.length+1:=(by omega);have B:fI (f0::F::H.set nm (bw wd)) nm:=dW (dW (lk hlt));have W:bE (f0::F::H.set nm (bw wd)) nm=wd:=(by rw [dy (by simp [hl];omega),dy (by rw [hl];exact hlt),lq hlt]);have M:=GJ (c:=c) (rg:=rU (H.set nm (bw wd)).length r0 aj) (sg:=kJ ((H.set nm (bw wd)).length,k1) ((H.set nm (bw wd)).length,k2) ((H.set nm (bw wd)).length,k3) s) (jA r0 aj) s w n (h'.rd (f0:=f0) hb.seen) hs.rd ⟨hS.pl,hS.hl,hS.tl,hS.hr⟩ hw (by show r0.ae.length≤_;have:=hb.pl;omega) (by show r0.aa.length≤_;have:=hb.tl;omega) hb.wide hb.hn hb.n0 (by have:=hb.n9;omega) B
 rw [W,hl]at M;refine M.trans ?_;simp [hne,hne2,ai.length_set,jA]
theorem IX {H0:ai}(hl:H0.length=H.length){k1 k2 k3:Nat}{s:ay}(hs:SF F k1 k2 k3 s)(hS:Ff r0 s){w v:Nat}{a b:au}(hw:w<r0.ae.length)(hv:v<r0.ae.length)(h1:a.aR=w)(h2:a.hand=0∨a.hand=1)(h3:b.aR=v)(h4:b.hand=0∨b.hand=1):
  aN KC (aF KC) 53 [kJ (H.length,k1) (H.length,k2) (H.length,k3) s, .pure (.agg a.row), .pure (.agg b.row)] c (f0::F::H0)=some (.pure (.bool (qt s w a v b)),f0::F::H0):=by
 have e1:=hS.pl;have e2:=hS.hl;have R:oP (f0::F::H0) (kJ (H.length,k1) (H.length,k2) (H.length,k3) s) (.agg s.row):=(by rw [←hl];exact hs.rd);exact GK R (show oP _ (.pure (.agg a.row)) (.agg a.row)from rfl) (show oP _ (.pure (.agg b.row)) (.agg b.row)from rfl) (by omega) (by omega) h1 h2 (by omega) (by omega) h3 h4 (by simp)
theorem aaO {H0:ai}(hl:H0.length=H.length){k1 k2 k3:Nat}{s:ay}(hF:F.ji)(hs:SF F k1 k2 k3 s)(mz:k1≠k2)(mc:k1≠k3)(kK:k2≠k3){w:Nat}{a:au}(hb:Fi s w a)(hhl:s.ao.length≤1000000):
  ∃v1 v2 v3,v1≤s.ae.length∧v2≤s.ao.length∧v3≤s.aa.length∧
  aN KC (aF KC) 51 [kJ (H.length,k1) (H.length,k2) (H.length,k3) s, .pure (.agg a.row)] c (f0::F::H0)=
   some (.pure (.tuple []),f0::((F.ins k1 (.arr 1 ((dn s w a).ae.map aD) v1 false)).ins k2 (.arr 2 ((dn s w a).ao.map aI.row) v2 false)).ins k3 (.arr 2 ((dn s w a).aa.map br.row) v3 false)::H0):=by
 obtain⟨u1,u2,u3,S⟩:=hs.self (f0:=f0) (H:=H0) hF mz mc kK;obtain⟨v1,v2,v3,a1,a2,a3,e⟩:=O8 (c:=c) S hb hhl (by simp);rw [hl]at e;refine⟨v1,v2,v3,a1,a2,a3,e.trans ?_⟩;have ne: ¬H.length=H.length+1:=(by omega);simp [cu,hl,ne]
end
end
section
section
variable {F:Fr} {H:ai} {r0:aC} {aj:List au} {sb:dB}
theorem Vg {H0:ai}(hl:H0.length=H.length){s:ay}{q:Nat}(hq:q≤2)(h:FI H.length F r0 aj s q)(hS:Ff r0 s)(p0:r0.ae≠[])(t0:r0.aa≠[])(pl:r0.ae.length≤1000000)(tl:r0.aa.length≤1000000)(a:au):
  (match aN KC (aF KC) 50 [IW H.length q s] 54 ([(12,bU a)]::F::H0)with|some z=>qV ([(12,bU a)]::F::H0) (.aA (H.length,8) 0) z|none=>none)=
   some (IW H.length (kr q) s,[(12,bU a)]::qH F (kr q) 0 0 0 s::H0):=by
 obtain⟨mz,mc,kK,_⟩:=pL q hq;obtain⟨u1,u2,u3,S⟩:=h.sc.self (f0:=[(12,bU a)]) (H:=H0) h.ji mz mc kK;have e1:=hS.pl;have e2:=hS.hl;have e3:=hS.tl;have q0:0<r0.ae.length:=List.length_pos_iff.2 p0;have q1:0<r0.aa.length:=List.length_pos_iff.2 t0;have ne: ¬H.length=H.length+1:=(by omega);have O:=SG (c:=54) S.tomR (fun e=>by rw [e]at e1;simp at e1;omega) (fun e=>by rw [e]at e2;simp at e2;omega) (fun e=>by rw [e]at e3;simp at e3;omega) (by omega) (by omega) (by omega) (by simp) (by simp [ak]) (by simp [ak]) (by simp [ak]);rw [hl]at O;unfold IW;rw [O];have fr1: ∀k,k=fA 1∨k=dm 1∨k=eZ 1→q≠1→F.get k=none:=fun k hk hq1=>by
  cases hg:F.get k with
  |none=>rfl
  |some b=>
   have:=h.Dg k (by rcases hk with rfl|rfl|rfl<;>decide) (by rw [hg];exact fun e=>by cases e)
   exfalso
   match q,hq with
   |0,_=>rcases hk with rfl|rfl|rfl<;>revert this<;>decide
   |1,_=>exact hq1 rfl
   |2,_=>rcases hk with rfl|rfl|rfl<;>revert this<;>decide
 have fr2: ∀k,k=fA 2∨k=dm 2∨k=eZ 2→q=1→F.get k=none:=fun k hk hq1=>by
  cases hg:F.get k with
  |none=>rfl
  |some b=>
   have:=h.Dg k (by rcases hk with rfl|rfl|rfl<;>decide) (by rw [hg];exact fun e=>by cases e)
   exfalso;subst hq1;rcases hk with rfl|rfl|rfl<;>revert this<;>decide
 have A:cJ 0 (ak 54 6)=fA 1∧cJ 0 (ak 54 10)=dm 1∧cJ 0 (ak 54 14)=eZ 1∧cJ 1 (ak 54 6)=fA 2∧cJ 1 (ak 54 10)=dm 2∧cJ 1 (ak 54 14)=eZ 2:=(by decide);obtain⟨A1,A2,A3,B1,B2,B3⟩:=A;have N1:ak 54 6=24631:=(by decide);have N2:ak 54 10=41015:=(by decide);have N3:ak 54 14=57399:=(by decide);rw [N1]at A1 B1;rw [N2]at A2 B2;rw [N3]at A3 B3;by_cases hq1:q=1
 ·have hs: ∃b,F.get (fA 1)=some b:=by
   obtain⟨v,_,hv⟩:=h.sc.h1;rw [hq1]at hv;exact⟨_,hv⟩
  obtain⟨b1,hb1⟩:=hs;have g1:=fr2 (fA 2) (.inl rfl) hq1;have g2:=fr2 (dm 2) (.inr (.inl rfl)) hq1;have g3:=fr2 (eZ 2) (.inr (.inr rfl)) hq1;have hn:kr q=2:=(by rw [hq1];rfl);rw [hn];simp only [fA,dm,eZ]at hb1 g1 g2 g3 A1 A2 A3 B1 B2 B3;simp only [qV,kJ,cu,N1,N2,N3,hl];simp [refs,dN,cY,dedup,hl,ne,bU,qA,lU,iI,gv,gq,eN,fT,Fr.del,v8,v7,og,qB,A1,A2,A3,B1,B2,B3,hb1,g1,g2,g3,qH,fA,dm,eZ]
 ·have g1:=fr1 (fA 1) (.inl rfl) hq1;have g2:=fr1 (dm 1) (.inr (.inl rfl)) hq1;have g3:=fr1 (eZ 1) (.inr (.inr rfl)) hq1;have hn:kr q=1:=by
   match q,hq with
   |0,_=>rfl
   |1,_=>exact absurd rfl hq1
   |2,_=>rfl
  rw [hn];simp only [fA,dm,eZ]at g1 g2 g3 A1 A2 A3 B1 B2 B3;simp only [qV,kJ,cu,N1,N2,N3,hl];simp [refs,dN,cY,dedup,hl,ne,bU,qA,lU,iI,gv,gq,eN,fT,Fr.del,v8,v7,og,qB,A1,A2,A3,B1,B2,B3,g1,g2,g3,qH,fA,dm,eZ]
end
end
section
def JY (r:aC):ay→List (List au)→Prop
 |_,[]=>True
 |s,g::gs=>(qT r s g∧g≠[]∧ ∀a∈g,∀b∈g,a.bR=b.bR)∧JY r (kZ s g) gs
theorem B0 {r:aC}{g:List au}: ∀{gs:List (List au)} {s:ay},JY r s gs→(qT r (kZ s gs.flatten) g∧g≠[]∧ ∀a∈g,∀b∈g,a.bR=b.bR)→JY r s (gs++[g])
 | [],s,_,h=>⟨h,trivial⟩
 |g0::gs,s,h,h2=>⟨h.1,B0 h.2 (by rw [←iS];exact h2)⟩
structure Made (r0:aC)(aj:List au)(s:ay)(t:Int):Prop where
 gs: ∃gs:List (List au),aj=gs.flatten∧JY r0 (aL r0) gs∧(gs.Pairwise fun g h=> ∀a∈g,∀b∈h,a.bR<b.bR)
 lt: ∀a∈aj,a.bR<t
 z: ∀a∈aj,0≤a.bR∧a.dQ=0∧a.mH=0
 sc:s=kZ (aL r0) aj
 snd:fB r0 s
 t0:0≤t
theorem Made.grp {r0:aC}{aj:List au}{s:ay}{t t':Int}{g:List au}(h:Made r0 aj s t)(hg:qT r0 s g)(hne:g≠[])(hat: ∀a∈g,a.bR=t∧a.dQ=0∧a.mH=0)(ht:t<t'):Made r0 (aj++g) (kZ s g) t':=by
 obtain⟨gs,e,h1,h2⟩:=h.gs;have hs:=h.sc;have t0:=h.t0;refine⟨⟨gs++[g],by rw [e];simp,B0 h1 ⟨by rw [←e,←hs];exact hg,hne,fun a ha b hb=>(hat a ha).1.trans (hat b hb).1.symm⟩, ?_⟩,fun a ha=> ?_,fun a ha=> ?_,by rw [iS,←hs],hg.snd h.snd,by omega⟩
 ·rw [List.pairwise_append];refine⟨h2,List.pairwise_singleton ..,fun g' hg' x hx a ha b hb=> ?_⟩;simp only [List.mem_singleton]at hx;subst hx;have:=h.lt a (by rw [e];exact List.mem_flatten.2 ⟨g',hg',ha⟩);have:=(hat b hb).1;omega
 ·rcases List.mem_append.1 ha with x|x
  ·have:=h.lt a x;omega
  ·have:=(hat a x).1;omega
 ·rcases List.mem_append.1 ha with x|x
  ·exact h.z a x
  ·have:=(hat a x).1;exact⟨by omega,(hat a x).2⟩
theorem DU {r:aC}(h:vH r):fB r (aL r):=by
 have ce: ∀l:List aV,∀t:Nat,fR (l.map fun _=>empty) t=0:=fun l t=>by
  induction l with
  |nil=>rfl
  |cons a l ih=>
   have: ¬(-1:Int)=t:=(by omega);simp only [List.map_cons,fR,ih];simp [ur,empty,this]
 refine {pl:=by simp [aL],hl:=by simp [aL],tl:=by simp [aL],hr:=fun i hi=> ?_,pr:=fun x hx=> ?_,pn:=h.pn,th:=fun t ht=> ?_,st:=fun t ht=> ?_}
 ·simp only [aL,List.getElem_map,empty,List.length_map];omega
 ·simp only [aL,List.mem_map]at hx;obtain⟨p,hp,rfl⟩:=hx;exact(h.pc p hp).2
 ·have ht':t<r.aa.length:=(by simpa [aL]using ht);have e:((aL r).aa.getD t aQ)=eV r.aa[t]:=by
   rw [aW ht];simp [aL]
  rw [e];exact .inr ⟨ce _ _,(h.tc _ (List.getElem_mem ht')).1,(h.tc _ (List.getElem_mem ht')).2.1⟩
 ·have ht':t<r.aa.length:=(by simpa [aL]using ht);have e:((aL r).aa.getD t aQ)=eV r.aa[t]:=by
   rw [aW ht];simp [aL]
  rw [e];exact⟨(h.tc _ (List.getElem_mem ht')).2.2.1,(h.tc _ (List.getElem_mem ht')).2.2.2.1⟩
theorem Made.first {r:aC}(h:vH r){t:Int}(ht:0≤t):Made r [] (aL r) t:=
 ⟨⟨[],rfl,trivial, .nil⟩,fun _ h=>by simp at h,fun _ h=>by simp at h,rfl,DU h,ht⟩
def setAt (a:au)(t:Int):au:={a with bR:=t}
section
variable {r:aC} {s:ay} {w:Nat} {a:au} {t:Int}
theorem wk:bV r s w (setAt a t)=bV r s w a:=by rw [cT,cT];rfl
theorem zn:b8 s w (setAt a t)=b8 s w a:=by rw [dS,dS];rfl
theorem vl (h:AB r w a):AB r w (setAt a t):=⟨h.aR,h.wl,h.hand,h.kind,h.take,h.pR,h.step,h.form⟩
theorem yh {aj:List au}:bV {r with aj:=aj} s w a=bV r s w a:=by rw [cT,cT]
end
theorem mP {r:aC}{n w:Nat}{a:au}(hn:r.wide*r.deep=n)(hw:w<r.ae.length)(h:a∈bK n r.aa.length r.ae.length w):AB r w a∧a.bR=0∧a.dQ=0∧a.mH=0:=by
 have one: ∀(hand kind:Nat),(hand=0∨hand=1)→2≤kind→kind≤8→a∈gC r.aa.length r.ae.length w kind hand→AB r w a∧a.bR=0∧a.dQ=0∧a.mH=0:=fun hand kind hh k2 k8 ha=>by
  have hh':(hand:Int)=0∨(hand:Int)=1:=(by omega);unfold gC at ha;split at ha
  ·simp only [ig,List.mem_map,List.mem_range']at ha;obtain⟨x,⟨i,hi,rfl⟩,rfl⟩:=ha;exact⟨⟨rfl,hw,hh',⟨by simp [bW],by simp [bW]⟩,fun _=>⟨_,rfl,by omega⟩,fun h=>by simp [bW]at h,fun h=>by simp [bW]at h,by simp [kY,bW]⟩,rfl,rfl,rfl⟩
  ·split at ha
   ·simp only [gd,List.mem_map,List.mem_filter,List.mem_range']at ha;obtain⟨x,⟨⟨i,hi,rfl⟩,hne⟩,rfl⟩:=ha;refine⟨⟨rfl,hw,hh',⟨by simp [bW],by simp [bW]⟩,fun h=>by simp [bW]at h,fun _=>⟨_,rfl,by omega,fun e=> ?_⟩,fun h=>by simp [bW]at h,by simp [kY,bW]⟩,rfl,rfl,rfl⟩;rw [e]at hne;simp at hne
   ·rename_i n2 n4;simp only [List.mem_singleton]at ha;subst ha;have m1: ¬(kind:Int)=1:=(by omega);have m2: ¬(kind:Int)=2:=(by omega);have m4: ¬(kind:Int)=4:=(by omega);exact⟨⟨rfl,hw,hh',⟨by simp only [bW];omega,by simp only [bW];omega⟩,fun h=>absurd h m2,fun h=>absurd h m4,fun h=>absurd h m1,by simp [kY,bW,m1,m2,m4]⟩,rfl,rfl,rfl⟩
 unfold bK at h;rcases List.mem_append.1 h with h|h
 ·simp only [gS,List.mem_map,List.mem_range']at h;obtain⟨x,⟨i,hi,rfl⟩,rfl⟩:=h;refine⟨⟨rfl,hw, .inl rfl,⟨by simp [bW],by simp [bW]⟩,fun h=>by simp [bW]at h,fun h=>by simp [bW]at h,fun _=>⟨?_, ?_⟩,by simp [kY,bW]⟩,rfl,rfl,rfl⟩
  ·simp only [bW];omega
  ·simp only [bW];omega
 ·simp only [eJ,List.mem_flatMap,List.mem_range',oc,List.mem_append]at h;obtain⟨k,⟨i,hi,rfl⟩,h⟩:=h;rcases h with h|h
  ·exact one 0 _ (.inl rfl) (by omega) (by omega) h
  ·exact one 1 _ (.inr rfl) (by omega) (by omega) h
end
section
theorem GU {L k:Nat}(hk:gw k=true):((L,6):Nm)≠(L,k)∧((L,7):Nm)≠(L,k)∧((L,8):Nm)≠(L,k):=by
 have ne: ∀j,gw j=false→((L,j):Nm)≠(L,k):=fun j hj e=>by
  have:=(Prod.mk.inj e).2;subst this;rw [hj]at hk;cases hk
 exact⟨ne 6 (by decide),ne 7 (by decide),ne 8 (by decide)⟩
def fH (nm:Nm)(L:Nat)(t:Int)(i:Int):aZ:=[(0, .aA nm 0),(6, .aA (L,6) 0),(7, .aA (L,7) 0),(8, .aA (L,8) 0),(9, .pure (.int .i64 t)),(10, .pure (.int .i64 i))]
theorem wg {nm:Nm}{L:Nat}{t i:Int}(h:nm.1<L)(k:Nat)(hk:gw k=true):jn (L,k) (fH nm L t i)=true:=by
 obtain⟨a,b,c⟩:=GU (L:=L) hk;have d:nm≠(L,k):=fun e=>(by rw [e]at h;simp at h);simp only [fH,jn,eN,decide_eq_true a,decide_eq_true b,decide_eq_true c,decide_eq_true d];rfl
structure Dd (L:Nat)(r0:aC)(m:Nat)(T:Int)(F:Fr)(aj:List au)(s:ay)(q:Nat)(t:Int):Prop where
 fi:FI L F r0 aj s q
 q2:q≤2
 md:Made r0 aj s t
 ml:aj.length≤m
 tT:t≤T
variable {H:ai}
theorem Df {nm:Nm} (hlt:nm.1<H.length) (r0:aC) (n:Nat) (hb:RB r0 n) (k:Nat) (hk:k≤1000) (m:Nat) (T:Int) (F:Fr) (aj:List au) (s:ay) (q:Nat) (t:Int) (wd:Int) (hR:Dd H.length r0 m T F aj s q t) (Q:GX→bM→Prop)
  (w:Nat) (wd1 wd2:Int) (a:au) (e1:lj wd r0.ae.length=((w:Int),wd1)) (hw:w<r0.ae.length) (e2:gf (jA r0 aj) s w (bK n r0.aa.length r0.ae.length w) wd1=((a,false),wd2))
  (ih: ∀F' wd',Dd H.length r0 m T F' aj s q t→um KC aw 11 (lp Tryz.f11 0) [0,6,7,8,9,10] [6,7,8,9] Q (fH nm H.length t k) (F'::H.set nm (bw wd')) 174):
  um KC aw 11 (lp Tryz.f11 0) [0,6,7,8,9,10] [6,7,8,9] Q (fH nm H.length t ((k+1:Nat):Int)) (F::H.set nm (bw wd)) 174:=by
 have hne: ¬nm.1=H.length:=(by omega);have hne2: ¬nm.1=H.length+1:=(by omega);have hne3: ¬nm.1=H.length+1+1:=(by omega);have hle:nm.1≤H.length:=(by omega);have hB:=fun w f0 f1=>CA hlt w f0 f1;have hW:=fun w f0 f1=>vG hlt w f0 f1;have g7:=hR.fi.g7;have g8:=hR.fi.g8;have M:=fun f0 c=>wj (f0:=f0) (c:=c) hlt hb hR.fi.toFB hR.fi.sc hR.md.snd.toFf w hw wd1;rw [e2]at M;have hk1:(0:Int)<(k:Int)+1:=(by omega);have hw1:=c8 (x:=(k:Int)) (by omega) (by omega);have hkk:((k:Int)+1-1)=k:=(by omega);have pl:=hb.pl;have hpl:((r0.ae.length:Int))≤9223372036854775807:=(by omega);simp only [gG,dL]at g7 g8;simp only [rU,kJ,au.row]at M;have hl: ∀w,(H.set nm (bw w)).length=H.length:=fun w=>ai.length_set _ _ _;apply sy;conv=>arg 4;whnf
 simp [fH,hk1,hl,kx,hB,hW,hlt,hne,hne2,ai.dJ,hle,g7,g8,e1,hpl,M,hkk,hw1];obtain⟨F',eg,hF⟩:=FI.same (H:=H.set nm (bw wd2)) (nt:=174) (sl:=fH nm H.length t k) hR.q2 (by rw [hl];omega) (by rw [hl];exact hR.fi) (fun j hj=>by rw [hl];exact wg hlt j hj);rw [hl]at hF;simp only [fH]at eg;rw [eg,fP];exact ih F' wd2 ⟨hF,hR.q2,hR.md,hR.ml,hR.tT⟩
section
variable {F:Fr} {r0:aC} {aj:List au} {s t:ay} {q:Nat} {H0:ai}
theorem Ta (hl:H0.length=H.length)(hq:q≤2)(h:FI H.length F r0 aj s q)(hS:Ff r0 s){n:Nat}(hb:RB r0 n)(a:au):
  ∃F1 z,FM H.length F1 r0 aj s q s∧aN KC (aF KC) 50 [IW H.length q s] 54 ([(12,bU a)]::F::H0)=some z∧
   qV ([(12,bU a)]::F::H0) (.aA (H.length,8) 0) z=some (IW H.length (kr q) s,[(12,bU a)]::F1::H0):=by
 have e:=Vg hl hq h hS hb.p0 hb.t0 (by have:=hb.pl;omega) (by have:=hb.tl;omega) a
 cases hg:aN KC (aF KC) 50 [IW H.length q s] 54 ([(12,bU a)]::F::H0)with
 |none=>rw [hg]at e;cases e
 |some z=>
  rw [hg]at e;exact⟨_,z,h.own hq,rfl,e⟩
theorem Pb (hl:H0.length=H.length)(hq:q≤2)(h:FM H.length F r0 aj s q t){w:Nat}{a:au}(hb:Fi t w a)(hhl:t.ao.length≤1000000)(f0:Fr)(c:Nat):
  ∃F2,FM H.length F2 r0 aj s q (dn t w a)∧aN KC (aF KC) 51 [IW H.length (kr q) t, .pure (.agg a.row)] c (f0::F::H0)=some (.pure (.tuple []),f0::F2::H0):=by
 have hp:=sX q;obtain⟨n1,n2,n3,_⟩:=pL (kr q) hp.2;obtain⟨v1,v2,v3,a1,a2,a3,e⟩:=aaO (c:=c) (f0:=f0) hl h.ji h.nx n1 n2 n3 hb hhl;have L:=kD (s:=t) (w:=w) hb.kind;exact⟨_,h.Si hq (by omega) (by omega) (by omega),e⟩
theorem IV (hl:H0.length=H.length)(hq:q≤2)(h:FM H.length F r0 aj s q t)(a:au)(hn:aj.length≤1000000):
  ∃F2 F3,FM H.length F3 r0 (aj++[a]) s q t∧(∀(f0:Fr) (ka:Nat),(aj=[]→ka=62)→zW H.length ka (dh (H.length,62) 9 (aj.map au.row)) 9 72 [a.row] (f0::F::H0)=some (dh (H.length,62) 9 ((aj++[a]).map au.row),f0::F2::H0))∧
   F2.get 7=some (gG H.length r0 aj)∧F2.ins 7 (gG H.length r0 (aj++[a]))=F3:=by
 have ne: ¬H.length=H.length+1:=(by omega);refine⟨F.ins 62 (.arr 9 ((aj++[a]).map au.row) 0 false),_,h.app hq (acts':=aj++[a]) (by simp),fun f0 ka hka=> ?_, ?_,rfl⟩
 ·have ek:zW H.length ka (dh (H.length,62) 9 (aj.map au.row)) 9 72 [a.row] (f0::F::H0)=zW H.length 62 (dh (H.length,62) 9 (aj.map au.row)) 9 72 [a.row] (f0::F::H0):=by
   by_cases e:aj=[]
   ·rw [hka e]
   ·unfold dh;rw [if_neg (by simpa using e)];rfl
  rw [ek,rb (fun hr=> ?_) (fun hr=> ?_) (by simp [hl];omega) (by simp;omega)]
  ·simp [hl,ne]
  ·have:aj=[]:=(by simpa using hr);simp [hl,ne,h.LA this]
  ·have:aj≠[]:=(by intro e;subst e;exact hr rfl);simp [hl,ne,h.ga this]
 ·rw [Fr.ax _ (by decide)];exact h.g7
end
end
end Go.Gh
