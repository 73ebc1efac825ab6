/- Texts joined: the evaluator over ghost values, its soundness, the walks. Spaces struck and names made short by a program, for the size. -/
import Derived.Test.YtkcmcjohoockcaaGreatGc6h
import Derived.Test.YtkcmcjohoockcaaGreatGc6f
namespace Go.Gh
open Go.Proofs
set_option linter.unusedVariables false
set_option linter.unusedSimpArgs false
set_option linter.unnecessarySimpa false
set_option maxRecDepth 100000
set_option maxHeartbeats 8000000
section
variable {H:ai}
theorem zl (wd:Int): ∃(p wd':Int),yf wd [1,1,2]=(p,wd')∧1≤p∧p≤2:=by
 have h:=kB wd 3 (by omega);obtain⟨y,hy⟩: ∃y,lj wd 3=y:=⟨_,rfl⟩;rw [hy]at h;have e:yf wd [1,1,2]=(List.getD [1,1,2] y.1.toNat 0,y.2):=by
  rw [sW,if_neg (by simp)];show (List.getD [1,1,2] (lj wd 3).1.toNat 0,(lj wd 3).2)=_
  rw [hy]
 refine⟨_,_,e, ?_⟩;have:y.1.toNat=0∨y.1.toNat=1∨y.1.toNat=2:=(by omega);rcases this with e|e|e<;>rw [e]<;>decide
theorem m5 {nm:Nm} (hlt:nm.1<H.length) (r0:aC) (k m:Nat) (T:Int) (F:Fr) (aj:List au) (s:ay) (q:Nat) (t:Int) (hR:Dd H.length r0 m T F aj s q t) (Q:GX→bM→Prop)
  (ih: ∀F' acts' s' q' t' wd',Dd H.length r0 (m+2) (T+2) F' acts' s' q' t'→um KC aw 11 (lp Tryz.f11 0) [0,6,7,8,9,10] [6,7,8,9] Q (fH nm H.length t' k) (F'::H.set nm (bw wd')) 174)
  (F4:Fr) (acts':List au) (t2:ay) (p wd':Int) (fm:FM H.length F4 r0 acts' s q t2) (h1:t2.ae.length=s.ae.length∧t2.ao.length=s.ao.length∧t2.aa.length=s.aa.length)
  (hM:Made r0 acts' t2 (t+p)) (hp:p≤2) (hl':acts'.length≤m+2):
  mE (qh ⟨[(0,GV.aA nm 0),(6,GV.aA (H.length,6) 0),(7,GV.aA (H.length,7) 0),(8,GV.aA (H.length,8) 0),(9,GV.pure (PV.int IntKind.i64 (t+p))),(10,GV.pure (PV.int IntKind.i64 (k:Int)))],
    Fr.ins 8 (dB.box [GV.bd (H.length,fA (kr q)) 1 s.ae.length 0 s.ae.length,GV.bd (H.length,dm (kr q)) 2 s.ao.length 0 s.ao.length,GV.bd (H.length,eZ (kr q)) 2 s.aa.length 0 s.aa.length]) F4::H.set nm (bw wd'),174⟩)
   fun st=>um KC aw 11 (lp Tryz.f11 0) [0,6,7,8,9,10] [6,7,8,9] Q st.s st.h st.nt:=by
 have hl: ∀w,(H.set nm (bw w)).length=H.length:=fun w=>ai.length_set _ _ _;obtain⟨F',eg,hF⟩:=FM.fin (H:=H.set nm (bw wd')) (nt:=174) (sl:=fH nm H.length (t+p) k) (by rw [hl];omega) (by rw [hl];exact fm) (fun j hj=>by rw [hl];exact wg hlt j hj);rw [hl]at hF;simp only [fH,dL,h1,hl]at eg;rw [eg,fP];have tT:=hR.tT;exact ih F' acts' t2 (kr q) (t+p) wd' ⟨hF,(sX q).2,hM,hl',by omega⟩
theorem De {nm:Nm} (hlt:nm.1<H.length) (r0:aC) (n:Nat) (hb:RB r0 n) (hn:r0.wide*r0.deep=n) (k:Nat) (hk:k≤1000) (m:Nat) (hm:m≤10000) (T:Int) (hT:T≤1000000) (F:Fr) (aj:List au) (s:ay) (q:Nat) (t:Int) (wd:Int) (hR:Dd H.length r0 m T F aj s q t) (Q:GX→bM→Prop)
  (w:Nat) (wd1 wd2:Int) (a:au) (e1:lj wd r0.ae.length=((w:Int),wd1)) (hw:w<r0.ae.length) (e2:gf (jA r0 aj) s w (bK n r0.aa.length r0.ae.length w) wd1=((a,true),wd2))
  (hA:AB r0 w a) (pa:bV r0 s w a=true) (za:a.dQ=0∧a.mH=0)
  (o:Nat) (wd3 wd4:Int) (x:au) (bx:Bool) (e3:lj wd2 r0.ae.length=((o:Int),wd3)) (ho:o<r0.ae.length) (e4:gf (jA r0 (aj++[setAt a t])) s o (bK n r0.aa.length r0.ae.length o) wd3=((x,bx),wd4))
  (hX:bx=true→AB r0 o x∧bV r0 s o x=true∧x.dQ=0∧x.mH=0)
  (ih: ∀F' acts' s' q' t' wd',Dd H.length r0 (m+2) (T+2) F' acts' s' q' t'→um KC aw 11 (lp Tryz.f11 0) [0,6,7,8,9,10] [6,7,8,9] Q (fH nm H.length t' k) (F'::H.set nm (bw wd')) 174):
  um KC aw 11 (lp Tryz.f11 0) [0,6,7,8,9,10] [6,7,8,9] Q (fH nm H.length t ((k+1:Nat):Int)) (F::H.set nm (bw wd)) 174:=by
 have hne: ¬nm.1=H.length:=(by omega);have hne2: ¬nm.1=H.length+1:=(by omega);have hne3: ¬nm.1=H.length+1+1:=(by omega);have hle:nm.1≤H.length:=(by omega);have hl: ∀w,(H.set nm (bw w)).length=H.length:=fun w=>ai.length_set _ _ _;have hB:=fun w f0 f1=>CA hlt w f0 f1;have hW:=fun w f0 f1=>vG hlt w f0 f1;have g7:=hR.fi.g7;have g8:=hR.fi.g8;have hS:=hR.md.snd;have M:=fun f0 c=>wj (f0:=f0) (c:=c) hlt hb hR.fi.toFB hR.fi.sc hS.toFf w hw wd1;rw [e2]at M;have hk1:(0:Int)<(k:Int)+1:=(by omega);have hw1:=c8 (x:=(k:Int)) (by omega) (by omega);have hkk:((k:Int)+1-1)=k:=(by omega);have pl:=hb.pl;have tl:=hb.tl;have ml:=hR.ml;have hpl:((r0.ae.length:Int))≤9223372036854775807:=(by omega);have t0:=hR.md.t0;have tT:=hR.tT;have hA':AB r0 w (setAt a t):=vl hA;have pa':bV r0 s w (setAt a t)=true:=wk.trans pa;have eh:=hS.hl;obtain⟨F1,z,fm1,ow1,ow2⟩:=Ta (H0:=H.set nm (bw wd2)) (hl _) hR.q2 hR.fi hS.toFf hb (setAt a t);obtain⟨F2,fm2,dd⟩:=Pb (H0:=H.set nm (bw wd2)) (hl _) hR.q2 fm1 (o6 hS hA' pa') (by omega) [(12,bU (setAt a t)),(14, .box [.bd (H.length,fA (kr q)) 1 s.ae.length 0 s.ae.length, .bd (H.length,dm (kr q)) 2 s.ao.length 0 s.ao.length, .bd (H.length,eZ (kr q)) 2 s.aa.length 0 s.aa.length])] 57;obtain⟨F3,F4,fm4,ap1,f37,f34⟩:=IV (H0:=H.set nm (bw wd2)) (hl _) hR.q2 fm2 (setAt a t) (by omega);have g71:=fm1.g7;have g81:=fm1.g8;have g72:=fm2.g7;have g82:=fm2.g8;have g74:=fm4.g7;have g84:=fm4.g8;have M2:=fun f0 c=>wj (f0:=f0) (c:=c) hlt hb fm4.toFB fm4.sc hS.toFf o ho wd3;rw [e4]at M2;have LD:=kD (s:=s) (w:=w) hA'.kind;have ewho:(setAt a t).aR.toNat=w:=(by rw [hA'.aR];simp);have hM1: ∀p:Int,1≤p→Made r0 (aj++[setAt a t]) (dn s w (setAt a t)) (t+p):=fun p hp=>by
  have:=hR.md.grp (g:=[setAt a t]) (t':=t+p) ⟨fun b hb'=>by simp only [List.mem_singleton]at hb';subst hb';rw [ewho];exact⟨hA',pa'⟩,List.pairwise_singleton ..⟩ (by simp) (fun b hb'=>by simp only [List.mem_singleton]at hb';subst hb';exact⟨rfl,za⟩) (by omega)
  rwa [rT,ewho,zm]at this
 simp only [gG,dL]at g7 g8 g71 g81 g72 g82 f37 f34 g74 g84;have LD':=LD;have ap1:=fun f0=>ap1 f0 62 (fun _=>rfl);simp only [rU,kJ,IW,au.row,setAt,bU,List.map_append,List.map_cons,List.map_nil]at LD' M M2 ow1 ow2 dd ap1 f37 f34 g74;have P:=fun(f0:Fr) (w:Int) (c:Nat)=>Ek (c:=c) (l:=[1,1,2]) (hB w f0 F4) (by simp);simp only [aD,List.map_cons,List.map_nil,hW]at P;apply sy;conv=>arg 4;whnf
 cases bx with
 |false=>
  obtain⟨p,wd6,e6,p1,p2⟩:=zl wd4;have hwp:=c8 (x:=t+p) (by omega) (by omega);simp [fH,hk1,hl,kx,hB,hW,hlt,hne,hne2,ai.dJ,hle,g7,g8,e1,hpl,M,hkk,hw1,ow1,ow2,g71,g81,dd,g72,g82,ap1,f37,f34,g74,g84,e3,M2,P,e6,hwp];exact m5 hlt r0 k m T F aj s q t hR Q ih F4 _ _ p wd6 fm4 LD (hM1 p p1) p2 (by simp;omega)
 |true=>
  obtain⟨hX1,px,zx⟩:=hX rfl;by_cases how:o=w
  ·obtain⟨p,wd6,e6,p1,p2⟩:=zl wd4;have hwp:=c8 (x:=t+p) (by omega) (by omega);subst how;simp [fH,hk1,hl,kx,hB,hW,hlt,hne,hne2,ai.dJ,hle,g7,g8,e1,hpl,M,hkk,hw1,ow1,ow2,g71,g81,dd,g72,g82,ap1,f37,f34,g74,g84,e3,M2,P,e6,hwp];exact m5 hlt r0 k m T F aj s q t hR Q ih F4 _ _ p wd6 fm4 LD (hM1 p p1) p2 (by simp;omega)
  ·have how':((o:Int)==(w:Int))=false:=(by simp;omega);have how2:((o:Int) !=(w:Int))=true:=(by simp;omega);obtain⟨wd5,e5⟩: ∃y,yY wd4 2=y:=⟨_,rfl⟩;obtain⟨b1,wd5⟩:=wd5;obtain⟨p,wd6,e6,p1,p2⟩:=zl wd5;have hwp:=c8 (x:=t+p) (by omega) (by omega)
   cases b1 with
   |false=>
    simp [fH,hk1,hl,kx,ny,hB,hW,hlt,hne,hne2,ai.dJ,hle,g7,g8,e1,hpl,M,hkk,hw1,ow1,ow2,g71,g81,dd,g72,g82,ap1,f37,f34,g74,g84,e3,M2,P,e6,hwp,how',how2,e5];exact m5 hlt r0 k m T F aj s q t hR Q ih F4 _ _ p wd6 fm4 LD (hM1 p p1) p2 (by simp;omega)
   |true=>
    have AP:=fun(f0:Fr) (c:Nat)=>IX (c:=c) (f0:=f0) (H0:=H.set nm (bw wd5)) (hl _) fm4.sc hS.toFf (a:=setAt a t) (b:=x) hw ho hA'.aR hA'.hand hX1.aR hX1.hand
    cases hap:qt s w (setAt a t) o x with
    |false=>
     rw [hap]at AP;simp only [kJ,au.row,setAt]at AP;simp [fH,hk1,hl,kx,ny,hB,hW,hlt,hne,hne2,ai.dJ,hle,g7,g8,e1,hpl,M,hkk,hw1,ow1,ow2,g71,g81,dd,g72,g82,ap1,f37,f34,g74,g84,e3,M2,P,e6,hwp,how',how2,e5,AP];exact m5 hlt r0 k m T F aj s q t hR Q ih F4 _ _ p wd6 fm4 LD (hM1 p p1) p2 (by simp;omega)
    |true=>
     rw [hap]at AP;have hap':=Gb.1 hap;have hX':AB r0 o (setAt x t):=vl hX1;have px':bV r0 s o (setAt x t)=true:=wk.trans px;have hap2:JZ (b8 s w (setAt a t)) (b8 s o (setAt x t)):=(by rw [zn (a:=x)];exact hap');have one:=yg hS hA' hX' pa' px' hap2;have S1:=hS.Si hA' pa';have e1h:=S1.hl;obtain⟨F5,fm5,dd5⟩:=Pb (H0:=H.set nm (bw wd5)) (hl _) hR.q2 fm4 (o6 S1 hX' one.2.1) (by omega) [(12,bU (setAt a t)),(14, .box [.bd (H.length,fA (kr q)) 1 s.ae.length 0 s.ae.length, .bd (H.length,dm (kr q)) 2 s.ao.length 0 s.ao.length, .bd (H.length,eZ (kr q)) 2 s.aa.length 0 s.aa.length]),(16,bU (setAt x t))] 97;obtain⟨F6,F7,fm7,ap5,f67,f76⟩:=IV (H0:=H.set nm (bw wd5)) (hl _) hR.q2 fm5 (setAt x t) (by simp;omega);have g75:=fm5.g7;have g85:=fm5.g8;have g77:=fm7.g7;have g87:=fm7.g8;have L2:=kD (s:=dn s w (setAt a t)) (w:=o) hX'.kind;have P5:=fun(f0:Fr) (w:Int) (c:Nat)=>Ek (c:=c) (l:=[1,1,2]) (hB w f0 F7) (by simp);have ewho2:(setAt x t).aR.toNat=o:=(by rw [hX'.aR];simp);have hM2:Made r0 (aj++[setAt a t,setAt x t]) (dn (dn s w (setAt a t)) o (setAt x t)) (t+p):=by
      have:=hR.md.grp (g:=[setAt a t,setAt x t]) (t':=t+p) ⟨fun b hb'=>by
       simp only [List.mem_cons,List.not_mem_nil,or_false]at hb';rcases hb' with rfl|rfl
       ·rw [ewho];exact⟨hA',pa'⟩
       ·rw [ewho2];exact⟨hX',px'⟩,by
        rw [List.pairwise_cons];refine⟨fun b hb'=> ?_,List.pairwise_singleton ..⟩;simp only [List.mem_singleton]at hb';subst hb';unfold tch;rw [ewho,ewho2];exact hap2⟩ (by simp) (fun b hb'=>by
       simp only [List.mem_cons,List.not_mem_nil,or_false]at hb';rcases hb' with rfl|rfl
       ·exact⟨rfl,za⟩
       ·exact⟨rfl,zx⟩) (by omega)
      rwa [rT,ewho,rT,ewho2,zm]at this
     have ap5:=fun f0=>ap5 f0 102 (fun e=>by simp at e);simp only [gG,dL]at g75 g85 g77 g87 f67 f76;simp only [kJ,IW,au.row,setAt,bU,List.map_append,List.map_cons,List.map_nil,LD',List.append_assoc,List.cons_append,List.nil_append]at AP dd5 ap5 f67 f76 g75 g77;simp only [aD,List.map_cons,List.map_nil,hW]at P5;simp [fH,hk1,hl,kx,ny,hB,hW,hlt,hne,hne2,ai.dJ,hle,g7,g8,e1,hpl,M,hkk,hw1,ow1,ow2,g71,g81,dd,g72,g82,ap1,f37,f34,g74,g84,e3,M2,P,e6,hwp,how',how2,e5,AP,dd5,g75,g85,ap5,f67,f76,g77,g87,P5];exact m5 hlt r0 k m T F aj s q t hR Q ih F7 _ _ p wd6 fm7 (by omega) (by rw [List.append_assoc];exact hM2) p2 (by simp;omega)
end
section
variable {H:ai}
theorem ub {r:aC}{s:ay}{w:Nat}{all:List au}{wd wd':Int}{a:au}(hl:all.length≤1000000)(h:gf r s w all wd=((a,true),wd')):a∈all∧bV r s w a=true:=by
 rw [vA]at h;have hlen:=qq r s w all;split at h
 ·cases h
 ·rename_i hne;have h0:0<(eY r s w all).length:=List.length_pos_iff.2 hne;have hr:=kB wd (eY r s w all).length (by omega);generalize lj wd (eY r s w all).length=y at h hr;have hi:y.1.toNat<(eY r s w all).length:=(by omega);have e:=(Prod.mk.inj (Prod.mk.inj h).1).1;rw [aW hi]at e;exact Cu (e▸List.getElem_mem hi)
theorem Gc {nm:Nm}(hlt:nm.1<H.length)(r0:aC)(n:Nat)(hb:RB r0 n)(hn:r0.wide*r0.deep=n)(Q:GX→bM→Prop): ∀(k:Nat) (m:Nat) (T:Int) (F:Fr) (aj:List au) (s:ay) (q:Nat) (t:Int) (wd:Int),k≤1000→m+2*k≤10000→T+2*k≤100000→Dd H.length r0 m T F aj s q t→
  (∀F' acts' s' q' t' wd',Dd H.length r0 (m+2*k) (T+2*k) F' acts' s' q' t'→Q (.exit 0) ⟨[(6, .aA (H.length,6) 0),(7, .aA (H.length,7) 0),(8, .aA (H.length,8) 0),(9, .pure (.int .i64 t'))],F'::H.set nm (bw wd'),174⟩)→
  um KC aw 11 (lp Tryz.f11 0) [0,6,7,8,9,10] [6,7,8,9] Q (fH nm H.length t (k:Int)) (F::H.set nm (bw wd)) 174:=by
 have hl: ∀w,(H.set nm (bw w)).length=H.length:=fun w=>ai.length_set _ _ _;intro k
 induction k with
 |zero=>
  intro m T F aj s q t wd _ _ _ hR hq;apply sy;conv=>arg 4;whnf
  simp [fH,hl];exact hq F aj s q t wd (by simpa using hR)
 |succ k ih=>
  intro m T F aj s q t wd hk hm hT hR hq;have pl:=hb.pl;have tl:=hb.tl;have n9:=hb.n9;have p0:0<r0.ae.length:=List.length_pos_iff.2 hb.p0;obtain⟨w,wd1,e1,hw⟩:=pC wd r0.ae.length (by omega) (by omega);have hw':w<r0.ae.length:=(by omega);have el:=fun w:Nat=>vy n r0.aa.length r0.ae.length (w:Int);have el': ∀w:Nat,(bK n r0.aa.length r0.ae.length (w:Int)).length≤1000000:=fun w=>(by have:=el w;omega);have again: ∀(m':Nat) (T':Int),m'≤m+2→T'≤T+2→ ∀F' acts' s' q' t' wd',Dd H.length r0 m' T' F' acts' s' q' t'→um KC aw 11 (lp Tryz.f11 0) [0,6,7,8,9,10] [6,7,8,9] Q (fH nm H.length t' k) (F'::H.set nm (bw wd')) 174:=fun m' T' hm' hT' F' acts' s' q' t' wd' hR'=>by
   refine ih m' T' F' acts' s' q' t' wd' (by omega) (by omega) (by omega) hR' fun F2 acts2 s2 q2 t2 wd2 hR2=>hq F2 acts2 s2 q2 t2 wd2 ?_;have a:=hR2.ml;have b:=hR2.tT;exact⟨hR2.fi,hR2.q2,hR2.md,by omega,by omega⟩
  obtain⟨y,e2⟩: ∃y,gf (jA r0 aj) s w (bK n r0.aa.length r0.ae.length w) wd1=y:=⟨_,rfl⟩;obtain⟨⟨a,b⟩,wd2⟩:=y
  cases b with
  |false=>exact Df hlt r0 n hb k (by omega) m T F aj s q t wd hR Q w wd1 wd2 a e1 hw' e2 (fun F' wd' h=>again m T (by omega) (by omega) F' aj s q t wd' h)
  |true=>
   obtain⟨ha,pa⟩:=ub (el' w) e2;obtain⟨hA,_,za⟩:=mP hn hw' ha;rw [show jA r0 aj={r0 with aj:=aj}from rfl,yh]at pa
   obtain⟨o,wd3,e3,ho⟩:=pC wd2 r0.ae.length (by omega) (by omega);have ho':o<r0.ae.length:=(by omega);obtain⟨y,e4⟩: ∃y,gf (jA r0 (aj++[setAt a t])) s o (bK n r0.aa.length r0.ae.length o) wd3=y:=⟨_,rfl⟩;obtain⟨⟨x,bx⟩,wd4⟩:=y;refine De hlt r0 n hb hn k (by omega) m (by omega) T (by omega) F aj s q t wd hR Q w wd1 wd2 a e1 hw' e2 hA pa za o wd3 wd4 x bx e3 ho' e4 (fun hbx=> ?_) (again (m+2) (T+2) (by omega) (by omega));subst hbx;obtain⟨hx,px⟩:=ub (el' o) e4;obtain⟨hX,_,zx⟩:=mP hn ho' hx;rw [show jA r0 (aj++[setAt a t])={r0 with aj:=aj++[setAt a t]}from rfl,yh]at px
   exact⟨hX,px,zx⟩
end
section
variable {H:ai}
section
variable {F f0 f1:Fr} {r0:aC} {aj:List au} {s:ay} {q L:Nat}
theorem FI.doS (hq:q≤2)(h:FI L F r0 aj s q){t':ay}{v1 v2 v3:Nat}(h1:v1≤t'.ae.length)(h2:v2≤t'.ao.length)(h3:v3≤t'.aa.length)(hl:t'.ae.length=s.ae.length∧t'.ao.length=s.ao.length∧t'.aa.length=s.aa.length):FI L (qH F q v1 v2 v3 t') r0 aj t' q:=by
 have e:dL L q t'=dL L q s:=(by simp only [dL,hl]);have b:=zo h.toFB q hq v1 v2 v3 t';rw [←e]at b
 exact {b with
  sc:=zp F q hq t' h1 h2 h3
  Dg:=fun k hk hg=>by
   by_cases h1:k=fA q
   ·exact .inl h1
   by_cases h2:k=dm q
   ·exact .inr (.inl h2)
   by_cases h3:k=eZ q
   ·exact .inr (.inr h3)
   rw [jr _ _ _ _ _ _ h1 h2 h3]at hg;exact h.Dg k hk hg}
theorem FI.app (hq:q≤2)(h:FI L F r0 aj s q){acts':List au}(hne:acts'≠[]):FI L (zq L F r0 acts') r0 acts' s q:=by
 obtain⟨a,b,c⟩:=lB q hq;have one: ∀k,(∀j∈fixed,j≠k)→(zq L F r0 acts').get k=F.get k:=fun k hk=>js _ _ _ _ (hk 62 (by decide)).symm (hk 7 (by decide)).symm
 exact {El h.toFB hne with
  sc:=h.sc.other (one _ a) (one _ b) (one _ c)
  Dg:=fun k hk hg=>by
   have h1:k≠62:=fun e=>(by subst e;cases hk);have h2:k≠7:=fun e=>(by subst e;cases hk);rw [js _ _ _ _ h1 h2]at hg;exact h.Dg k hk hg}
theorem Tc (hq:q≤2)(h:FI H.length F r0 aj s q){w:Nat}{a:au}(hb:Fi s w a)(hhl:s.ao.length≤1000000)(f0 f1:Fr)(c:Nat):
  ∃F2,FI H.length F2 r0 aj (dn s w a) q∧aN KC (aF KC) 51 [IW H.length q s, .pure (.agg a.row)] c (f0::f1::F::H)=some (.pure (.tuple []),f0::f1::F2::H):=by
 obtain⟨mz,mc,kK,_⟩:=pL q hq;have ne: ¬H.length=H.length+1:=(by omega);have ne2: ¬H.length=H.length+1+1:=(by omega);have g: ∀k,ai.get (f0::f1::F::H) (H.length,k)=F.get k:=fun k=>(by simp [ne]);have st: ∀k b,F.get k=some b→ai.set (f0::f1::F::H) (H.length,k) b=f0::f1::F::H:=fun k b hb=>(by simp [ne,Fr.rV h.ji hb]);have nn: ∀a b:Nat,a≠b→((H.length,a):Nm)≠(H.length,b):=fun a b h e=>h (Prod.mk.inj e).2;obtain⟨⟨u1,a1,b1⟩,⟨u2,a2,b2⟩,⟨u3,a3,b3⟩⟩:=h.sc;have S:mh (f0::f1::F::H) (H.length,fA q) (H.length,dm q) (H.length,eZ q) u1 u2 u3 s:={mz:=nn _ _ mz,mc:=nn _ _ mc,kK:=nn _ _ kK,g1:=(g _).trans b1,g2:=(g _).trans b2,g3:=(g _).trans b3,e1:=a1,e2:=a2,e3:=a3,s1:=st _ _ b1,s2:=st _ _ b2,s3:=st _ _ b3};obtain⟨v1,v2,v3,c1,c2,c3,e⟩:=O8 (c:=c) S hb hhl (by simp);have LD:=kD (s:=s) (w:=w) hb.kind;refine⟨qH F q v1 v2 v3 (dn s w a),h.doS hq (by omega) (by omega) (by omega) LD,e.trans ?_⟩;simp [cu,qH,ne]
theorem Lx (hq:q≤2)(h:FI H.length F r0 aj s q)(a:au)(hn:aj.length≤1000000)(h0:aj≠[])(f0 f1:Fr)(ka:Nat):
  ∃F2 F3,FI H.length F3 r0 (aj++[a]) s q∧zW H.length ka (dh (H.length,62) 9 (aj.map au.row)) 9 72 [a.row] (f0::f1::F::H)=some (dh (H.length,62) 9 ((aj++[a]).map au.row),f0::f1::F2::H)∧
   F2.get 7=some (gG H.length r0 aj)∧F2.ins 7 (gG H.length r0 (aj++[a]))=F3:=by
 have ne: ¬H.length=H.length+1:=(by omega);refine⟨F.ins 62 (.arr 9 ((aj++[a]).map au.row) 0 false),_,h.app hq (acts':=aj++[a]) (by simp), ?_, ?_,rfl⟩
 ·have ek:zW H.length ka (dh (H.length,62) 9 (aj.map au.row)) 9 72 [a.row] (f0::f1::F::H)=zW H.length 62 (dh (H.length,62) 9 (aj.map au.row)) 9 72 [a.row] (f0::f1::F::H):=by
   unfold dh;rw [if_neg (by simpa using h0)];rfl
  rw [ek,rb (fun hr=>absurd (by simpa using hr) h0) (fun hr=>by simp [ne,h.ga h0]) (by simp;omega) (by simp;omega)];simp [ne]
 ·rw [Fr.ax _ (by decide)];exact h.g7
end
def m6 (t:Int)(w:Nat)(hd:Int):au:=⟨t,w,3,hd,0,0,0,0,0⟩
theorem Em {r:aC}{t hd:Int}{w:Nat}(hw:w<r.ae.length)(hh:hd=0∨hd=1):AB r w (m6 t w hd):=
 ⟨rfl,hw,hh,⟨by simp [m6],by simp [m6]⟩,fun h=>by simp [m6]at h,fun h=>by simp [m6]at h,fun h=>by simp [m6]at h,by simp [kY,m6]⟩
theorem IY {r0:aC}{aj:List au}{s:ay}{t hd:Int}{w:Nat}(h:Made r0 aj s t)(hw:w<r0.ae.length)(hh:hd=0∨hd=1)(h0:0≤aU s.ao w hd):
  bV r0 s w (m6 t w hd)=true∧Made r0 (aj++[m6 t w hd]) (dn s w (m6 t w hd)) (t+1)∧aU (dn s w (m6 t w hd)).ao w hd= -1∧
  (∀w' hd',(hd'=0∨hd'=1)→ ¬(w'=w∧hd'=hd)→aU (dn s w (m6 t w hd)).ao w' hd'=aU s.ao w' hd'):=by
 have pa:bV r0 s w (m6 t w hd)=true:=(by rw [zt rfl];exact decide_eq_true h0);have hA:=Em (r:=r0) (t:=t) hw hh;have ew:(m6 t w hd).aR.toNat=w:=(by simp [m6]);have hwh:w<s.ao.length:=(by rw [h.snd.hl];exact hw);refine⟨pa, ?_, ?_,fun w' hd' h1 h2=> ?_⟩
 ·have:=h.grp (g:=[m6 t w hd]) (t':=t+1) ⟨fun b hb=>by simp only [List.mem_singleton]at hb;subst hb;rw [ew];exact⟨hA,pa⟩,List.pairwise_singleton ..⟩ (by simp) (fun b hb=>by simp only [List.mem_singleton]at hb;subst hb;exact⟨rfl,rfl,rfl⟩) (by omega)
  rwa [rT,ew,zm]at this
 ·rw [m7 rfl];show aU (bs s.ao w hd (-1)) w hd= -1
  rw [Dh w hd hwh hh hh,if_pos ⟨rfl,rfl⟩]
 ·rw [m7 rfl];show aU (bs s.ao w hd (-1)) w' hd'=_
  rw [Dh w' hd' hwh hh h1,if_neg h2]
theorem IZ {r0:aC}{s:ay}{t hd:Int}{w:Nat}(h:Made r0 [] s t)(hw:w<r0.ae.length):aU s.ao w hd= -1:=by
 have e:s=aL r0:=(by rw [h.sc];rfl);subst e;unfold aU;have:(aL r0).ao.getD w bD=empty:=by
  rw [aW (by simp [aL];exact hw)];simp [aL]
 rw [this];split<;>rfl
def lC (L:Nat)(t:Int)(w:Nat)(hd:Int):aZ:=[(6, .aA (L,6) 0),(7, .aA (L,7) 0),(8, .aA (L,8) 0),(9, .pure (.int .i64 t)),(18, .pure (.int .i64 w)),(19, .pure (.int .i64 hd))]
theorem Bk (r0:aC) (n:Nat) (hb:RB r0 n) (m:Nat) (hm:m≤100000) (T:Int) (hT:T≤1000000) (F:Fr) (aj:List au) (s:ay) (q:Nat) (t:Int) (hR:Dd H.length r0 m T F aj s q t) (Q:GX→bM→Prop) (w:Nat) (hw:w<r0.ae.length) (hd:Int) (hh:hd=0∨hd=1)
  (ih: ∀F' acts' s' t',Dd H.length r0 (m+1) (T+1) F' acts' s' q t'→aU s'.ao w hd= -1→(∀w' hd',(hd'=0∨hd'=1)→ ¬(w'=w∧hd'=hd)→aU s'.ao w' hd'=aU s.ao w' hd')→
   gZ KC aw 11 (lp Tryz.f11 2) [6,7,8,9,18,19] [6,7,8,9,18] Q (lC H.length t' w (hd+1)) ([]::F'::H) 174):
  gZ KC aw 11 (lp Tryz.f11 2) [6,7,8,9,18,19] [6,7,8,9,18] Q (lC H.length t w hd) ([]::F::H) 174:=by
 have g7:=hR.fi.g7;have g8:=hR.fi.g8;obtain⟨v2,hv2,gh⟩:=hR.fi.sc.h2;have hS:=hR.md.snd;have hwh:w<s.ao.length:=(by rw [hS.hl];exact hw);have eh:=hS.hl;have pl:=hb.pl;have ml:=hR.ml;have t0:=hR.md.t0;have tT:=hR.tT;have R:=gn hS.toFf (w:=w) (hand:=hd) hw;have hw1:=c8 (x:=hd+1) (by omega) (by omega);have hw2:=c8 (x:=t+1) (by omega) (by omega);have hlt:hd<2:=(by omega);have ne: ¬H.length=H.length+1:=(by omega);obtain⟨x,hx⟩: ∃x,aU s.ao w hd=x:=⟨_,rfl⟩;have hx':aU s.ao w hd=(if hd=0 then s.ao[w].l else s.ao[w].r):=by
  unfold aU;rw [aW hwh]
 by_cases h0:0≤x
 ·have a0:aj≠[]:=fun e=>by
   subst e;have:=IZ (hd:=hd) hR.md hw;omega
  obtain⟨pa,M,z1,z2⟩:=IY hR.md hw hh (by rw [hx];exact h0);have hA:=Em (r:=r0) (t:=t) hw hh;obtain⟨F2,fi2,dd⟩:=Tc hR.q2 hR.fi (o6 hS hA pa) (by omega) [(20,bU (m6 t w hd))] [] 135;obtain⟨F3,F4,fi4,ap,f37,f34⟩:=Lx hR.q2 fi2 (m6 t w hd) (by omega) a0 [(20,bU (m6 t w hd))] [] 140;have g72:=fi2.g7;have g82:=fi2.g8;have I:=ih F4 _ _ (t+1) ⟨fi4,hR.q2,M,by simp;omega,by omega⟩ z1 z2;simp only [gG,dL]at g7 g8 g72 g82 f37 f34;simp only [IW,kJ,au.row,m6,bU,List.map_append,List.map_cons,List.map_nil]at dd ap f37 f34;apply az;conv=>arg 4;whnf
  rcases hh with rfl|rfl
  ·rw [if_pos rfl]at hx';have hx2:s.ao[w].l=x:=hx'.symm.trans hx;simp [lC]at I;simp [lC,g7,g8,gh,hv2,ne,hwh,aI.row,hx2,h0,dd,g72,g82,ap,f37,f34,hw2];exact I
  ·rw [if_neg (by decide)]at hx';have hx2:s.ao[w].r=x:=hx'.symm.trans hx;have w11:IntKind.i64.wrap (1+1)=2:=rfl;simp [lC]at I;simp [lC,g7,g8,gh,hv2,ne,hwh,aI.row,hx2,h0,dd,g72,g82,ap,f37,f34,hw2,w11];exact I
 ·have z1:aU s.ao w hd= -1:=(by omega);have I:=ih F aj s t ⟨hR.fi,hR.q2,hR.md,by omega,by omega⟩ z1 (fun w' hd' _ _=>rfl);simp only [gG,dL]at g7 g8;apply az;conv=>arg 4;whnf
  rcases hh with rfl|rfl
  ·rw [if_pos rfl]at hx';have hx2:s.ao[w].l=x:=hx'.symm.trans hx;simp [lC]at I;simp [lC,g7,g8,gh,hv2,ne,hwh,aI.row,hx2,h0];exact I
  ·rw [if_neg (by decide)]at hx';have hx2:s.ao[w].r=x:=hx'.symm.trans hx;have w11:IntKind.i64.wrap (1+1)=2:=rfl;simp [lC]at I;simp [lC,g7,g8,gh,hv2,ne,hwh,aI.row,hx2,h0,w11];exact I
end
section
variable {H:ai}
theorem Gd (r0:aC)(n:Nat)(hb:RB r0 n)(q:Nat)(Q:GX→bM→Prop): ∀(k w m:Nat) (T:Int) (F:Fr) (aj:List au) (s:ay) (t:Int),w+k=r0.ae.length→m+2*k≤100000→T+2*k≤1000000→Dd H.length r0 m T F aj s q t→
  (∀w' hd',w'<w→(hd'=0∨hd'=1)→aU s.ao w' hd'= -1)→
  (∀F' acts' s' t',Dd H.length r0 (m+2*k) (T+2*k) F' acts' s' q t'→(∀w' hd',w'<r0.ae.length→(hd'=0∨hd'=1)→aU s'.ao w' hd'= -1)→Q (.exit 2) ⟨[(6, .aA (H.length,6) 0),(7, .aA (H.length,7) 0),(8, .aA (H.length,8) 0)],F'::H,174⟩)→
  gZ KC aw 11 (lp Tryz.f11 1) [6,7,8,9,18] [6,7,8] Q [(6, .aA (H.length,6) 0),(7, .aA (H.length,7) 0),(8, .aA (H.length,8) 0),(9, .pure (.int .i64 t)),(18, .pure (.int .i64 w))] (F::H) 174:=by
 have pl:=hb.pl;intro k
 induction k with
 |zero=>
  intro w m T F aj s t hw hm hT hR hz hq;have g7:=hR.fi.g7;simp only [gG]at g7;have hwl: ¬w<r0.ae.length:=(by omega);apply az;conv=>arg 4;whnf
  simp [g7,hwl];exact hq F aj s t (by simpa using hR) (fun w' hd' h1 h2=>hz w' hd' (by omega) h2)
 |succ k ih=>
  intro w m T F aj s t hw hm hT hR hz hq;have g7:=hR.fi.g7;simp only [gG]at g7;have hwl:w<r0.ae.length:=(by omega);have hw1:=c8 (x:=(w:Int)+1) (by omega) (by omega);apply az;conv=>arg 4;whnf
  simp [g7,hwl];refine Bk r0 n hb m (by omega) T (by omega) F aj s q t hR _ w hwl 0 (.inl rfl) (fun F1 acts1 s1 t1 hR1 z1 y1=> ?_);refine Bk r0 n hb (m+1) (by omega) (T+1) (by omega) F1 acts1 s1 q t1 hR1 _ w hwl (0+1) (.inr rfl) (fun F2 acts2 s2 t2 hR2 z2 y2=> ?_);apply az;conv=>arg 4;whnf
  simp [lC,hw1];have hR2':Dd H.length r0 (m+2) (T+2) F2 acts2 s2 q t2:=⟨hR2.fi,hR2.q2,hR2.md,hR2.ml,by have:=hR2.tT;omega⟩;refine ih (w+1) (m+2) (T+2) F2 acts2 s2 t2 (by omega) (by omega) (by omega) hR2' (fun w' hd' h1 h2=> ?_) (fun F' acts' s' t' hR' h'=>hq F' acts' s' t' ?_ h')
  ·by_cases e:w'=w
   ·subst e;rcases h2 with rfl|rfl
    ·rw [y2 w' 0 (.inl rfl) (by simp)];exact z1
    ·simpa using z2
   ·rw [y2 w' hd' h2 (fun h=>e h.1),y1 w' hd' h2 (fun h=>e h.1)];exact hz w' hd' (by omega) h2
  ·have a:=hR'.ml;have b:=hR'.tT;exact⟨hR'.fi,hR'.q2,hR'.md,by omega,by omega⟩
def Aq (t:a8)(sp:br):a8:={t with home:=sp.cell,want:=sp.state}
def kA (ts:List a8)(sps:List br)(i:Nat):List a8:=ts.mapIdx fun j t=>if j<i then Aq t (sps.getD j aQ)else t
theorem mJ (ts:List a8)(sps:List br)(i:Nat):(kA ts sps i).length=ts.length:=by simp [kA]
theorem j4 (ts:List a8)(sps:List br)(i j:Nat)(h:j<ts.length):(kA ts sps i)[j]'(by simpa [kA]using h)=if j<i then Aq ts[j] (sps.getD j aQ)else ts[j]:=by simp [kA]
theorem Ge (ts:List a8)(sps:List br)(i:Nat)(h:i<ts.length):kA ts sps (i+1)=(kA ts sps i).set i (Aq ts[i] (sps.getD i aQ)):=by
 refine List.ext_getElem (by simp [kA]) fun j h1 h2=> ?_;have hj:j<ts.length:=(by simpa [kA]using h1);rw [List.getElem_set,j4 _ _ _ _ hj,j4 _ _ _ _ hj];by_cases e:i=j
 ·subst e;simp
 ·rw [if_neg e];by_cases h3:j<i
  ·rw [if_pos h3,if_pos (by omega)]
  ·rw [if_neg h3,if_neg (by omega)]
structure FT (L:Nat)(F:Fr)(r0:aC)(aj:List au)(s:ay)(q:Nat)(ts:List a8):Prop where
 g6:F.get 6=some jk
 g7:F.get 7=some (gG L r0 aj)
 g8:F.get 8=some (dL L q s)
 gp:F.get 188441=some (.arr 2 (r0.ae.map aV.row) 0 false)
 gl:r0.a7≠[]→F.get 393241=some (.arr 1 (r0.a7.map aD) 0 false)
 ga:aj≠[]→F.get 62=some (.arr 9 (aj.map au.row) 0 false)
 h3: ∃v,v≤s.aa.length∧F.get (eZ q)=some (.arr 2 (s.aa.map br.row) v false)
 gt: ∃v,v≤ts.length∧F.get 339993=some (.arr 5 (ts.map a8.row) v false)
 tl:ts.length=r0.aa.length
theorem FT.ins {L:Nat}{F:Fr}{r0:aC}{aj:List au}{s:ay}{q:Nat}{ts ts':List a8}(hq:q≤2)(h:FT L F r0 aj s q ts){v:Nat}(hv:v≤ts'.length)(hl:ts'.length=ts.length):FT L (F.ins 339993 (.arr 5 (ts'.map a8.row) v false)) r0 aj s q ts' where
 g6:=(Fr.ax _ (by decide) _).trans h.g6
 g7:=(Fr.ax _ (by decide) _).trans h.g7
 g8:=(Fr.ax _ (by decide) _).trans h.g8
 gp:=(Fr.ax _ (by decide) _).trans h.gp
 gl:=fun hl=>(Fr.ax _ (by decide) _).trans (h.gl hl)
 ga:=fun hl=>(Fr.ax _ (by decide) _).trans (h.ga hl)
 h3:=by
  obtain⟨v,a,b⟩:=h.h3;exact⟨v,a,(Fr.ax _ ((lB q hq).2.2 339993 (by decide)).symm _).trans b⟩
 gt:=⟨v,hv,Fr.bc ..⟩
 tl:=hl.trans h.tl
theorem Gf (r0:aC)(n:Nat)(hb:RB r0 n)(aj:List au)(s:ay)(q:Nat)(hq:q≤2)(hsl:s.aa.length=r0.aa.length)(Q:GX→bM→Prop): ∀(k i:Nat) (F:Fr) (ts:List a8),i+k=r0.aa.length→FT H.length F r0 aj s q ts→ts=kA r0.aa s.aa i→
  (∀F',FT H.length F' r0 aj s q (kA r0.aa s.aa r0.aa.length)→Q (.exit 6) ⟨[(6, .aA (H.length,6) 0),(7, .aA (H.length,7) 0)],F'::H,174⟩)→
  gZ KC aw 11 (lp Tryz.f11 3) [6,7,8,21] [6,7] Q [(6, .aA (H.length,6) 0),(7, .aA (H.length,7) 0),(8, .aA (H.length,8) 0),(21, .pure (.int .i64 i))] (F::H) 174:=by
 have tl:=hb.tl;intro k
 induction k with
 |zero=>
  intro i F ts hi h hts hq';have g7:=h.g7;simp only [gG]at g7;have hwl: ¬i<r0.aa.length:=(by omega);apply az;conv=>arg 4;whnf
  simp [g7,hwl];have e:i=r0.aa.length:=(by omega);subst e;rw [hts]at h;exact hq' F h
 |succ k ih=>
  intro i F ts hi h hts hq';have g7:=h.g7;have g8:=h.g8;simp only [gG,dL]at g7 g8;obtain⟨v3,a3,b3⟩:=h.h3;obtain⟨vt,bR,bt⟩:=h.gt;have tl':=h.tl;have hwl:i<r0.aa.length:=(by omega);have hil:i<ts.length:=(by omega);have his:i<s.aa.length:=(by omega);have hw1:=c8 (x:=(i:Int)+1) (by omega) (by omega);have ne: ¬H.length=H.length+1:=(by omega);have nk:eZ q≠339993:=((lB q hq).2.2 339993 (by decide)).symm;have I:=fun ts' h1 h2=>ih (i+1) (F.ins 339993 (.arr 5 (ts'.map a8.row) ts'.length false)) ts' (by omega) (h.ins hq (Nat.le_refl _) h1) h2 hq';have a3':v3≤r0.aa.length:=(by omega);have at2:vt≤r0.aa.length:=(by omega);apply az;conv=>arg 4;whnf
  simp [g7,g8,hwl,b3,bt,a3',at2,ne,hil,his,tl',hsl,hw1,br.row,a8.row,Fr.bc,Fr.ax,Fr.cP,nk];have ei:ts[i]=r0.aa[i]:=by
   subst hts;rw [j4 _ _ _ _ hwl,if_neg (by omega)]
  have I2:=I (ts.set i (Aq r0.aa[i] (s.aa.getD i aQ))) (by simp) (by rw [hts,Ge _ _ _ hwl]);rw [aW his]at I2;simp [a8.row,Aq,tl',ei]at I2⊢;exact I2
end
section
variable {c:Nat} {H:ai}
def G2 (L:Nat)(r0:aC):Fr:=fD 393241 1 (r0.a7.map aD) [(6,jk),(7,gG L r0 []),(188441, .arr 2 (r0.ae.map aV.row) 0 false),(339993, .arr 5 (r0.aa.map a8.row) 0 false)]
def G4 (L:Nat)(r0:aC):Fr:=fD 393241 1 (r0.a7.map aD) [(6,jk),(7,gG L r0 []),(8,dL L 0 (aL r0)),(90139, .arr 1 ((aL r0).ae.map aD) 0 false),(110619, .arr 2 ((aL r0).ao.map aI.row) 0 false),(188441, .arr 2 (r0.ae.map aV.row) 0 false),(217115, .arr 2 ((aL r0).aa.map br.row) 0 false),(339993, .arr 5 (r0.aa.map a8.row) 0 false)]
theorem Ly {key es:Nat}{rows:List (List PV)}{fr:Fr}(h:fr.ji):(fD key es rows fr).ji:=by
 unfold fD;split
 ·exact h
 ·exact Fr.dZ h
theorem Lz {key es:Nat}{rows:List (List PV)}{fr:Fr}{x:Nat×dB}(hs:fr.ji)(h:x∈fD key es rows fr):x=(key, .arr es rows 0 false)∨x∈fr:=by
 unfold fD at h;split at h
 ·exact .inr h
 ·rcases Fr.pM hs h with e|e
  ·exact .inl e
  ·exact .inr e.1
theorem I3 (L:Nat)(r0:aC):Fr.ji [(6,jk),(7,gG L r0 []),(8,dL L 0 (aL r0)),(90139, .arr 1 ((aL r0).ae.map aD) 0 false),(110619, .arr 2 ((aL r0).ao.map aI.row) 0 false),(188441, .arr 2 (r0.ae.map aV.row) 0 false),(217115, .arr 2 ((aL r0).aa.map br.row) 0 false),(339993, .arr 5 (r0.aa.map a8.row) 0 false)]:=by
 simp [Fr.ji]
theorem Zi (L:Nat)(r0:aC):FI L (G4 L r0) r0 [] (aL r0) 0 where
 ji:=Ly (I3 L r0)
 g6:=by unfold G4;rw [bO (by decide)];simp
 g7:=by unfold G4;rw [bO (by decide)];simp
 g8:=by unfold G4;rw [bO (by decide)];simp
 gp:=by unfold G4;rw [bO (by decide)];simp
 gt:=by unfold G4;rw [bO (by decide)];simp
 gl:=fun h=>by unfold G4;rw [dH (by simpa using h)]
 LA:=fun _=>by unfold G4;rw [bO (by decide)];simp
 ga:=fun h=>absurd rfl h
 ref:=fun x hx hne k hk=>by
  rcases Lz (I3 L r0) hx with e|e
  ·subst e;rfl
  ·simp only [List.mem_cons,List.not_mem_nil,or_false]at e;rcases e with rfl|rfl|rfl|rfl|rfl|rfl|rfl|rfl
   ·rfl
   ·exact yi hk
   ·exact absurd rfl hne
   ·rfl
   ·rfl
   ·rfl
   ·rfl
   ·rfl
 sc:=⟨⟨0,Nat.zero_le _,by unfold G4 fA;rw [bO (by decide)];simp⟩,⟨0,Nat.zero_le _,by unfold G4 dm;rw [bO (by decide)];simp⟩,⟨0,Nat.zero_le _,by unfold G4 eZ;rw [bO (by decide)];simp⟩⟩
 Dg:=fun k hk hg=>by
  have n0:k≠393241:=fun e=>(by subst e;cases hk);have ne: ∀j,gw j=false→k≠j:=fun j hj e=>(by subst e;rw [hj]at hk;cases hk);unfold G4 at hg;rw [bO n0]at hg;simp only [Fr.cL,Fr.get_nil]at hg;rw [if_neg (ne 6 (by decide)),if_neg (ne 7 (by decide)),if_neg (ne 8 (by decide)),if_neg (ne 90139 (by decide)),if_neg (ne 110619 (by decide)),if_neg (ne 188441 (by decide)),if_neg (ne 217115 (by decide)),if_neg (ne 339993 (by decide))]at hg;exact absurd rfl hg
theorem O5 {r0:aC}(h:vH r0): ∃n:Nat,RB r0 n∧r0.wide*r0.deep=n:=by
 obtain⟨w,hw⟩:=Int.eq_ofNat_of_zero_le (show 0≤r0.wide by have:=h.w1;omega)
 obtain⟨d,hd⟩:=Int.eq_ofNat_of_zero_le (show 0≤r0.deep by have:=h.d1;omega)
 have w1:=h.w1;have w3:=h.w3;have d1:=h.d1;have d3:=h.d3;have e:r0.wide*r0.deep=((w*d:Nat):Int):=(by rw [hw,hd];simp);have l9:w*d≤3*3:=Nat.mul_le_mul (by omega) (by omega);have l1:0<w*d:=Nat.mul_pos (by omega) (by omega);exact⟨w*d,⟨by rw [e];exact c8 (by omega) (by omega),l1,by omega,by omega,h.p3,h.t4,h.p0,h.t0,h.seen⟩,e⟩
theorem Zj {L:Nat}(hL:L=H.length){r0:aC}(hs:r0.seen=[]):oP (G2 L r0::H) (rU L r0 []) (.agg (jA r0 []).row):=by
 subst hL;have g: ∀k,ai.get (G2 H.length r0::H) (H.length,k)=(G2 H.length r0).get k:=fun k=>(by simp);rw [gK];unfold rU;rw [uM];simp only [jA,rY,uN,rZ,and_true,true_and];refine⟨⟨_,0,false,(g _).trans (by unfold G2;rw [bO (by decide)];simp),Nat.zero_le _,by simp,rfl,rfl,rfl⟩,⟨_,0,false,(g _).trans (by unfold G2;rw [bO (by decide)];simp),Nat.zero_le _,by simp,rfl,rfl,rfl⟩, ?_,uO fun hr=>(g _).trans (by unfold G2;rw [dH hr]),uO fun hr=>absurd rfl hr⟩;rw [hs];rfl
def fX (r0:aC)(aj:List au)(s:ay):aC:={r0 with aj:=aj,aa:=kA r0.aa s.aa r0.aa.length}
structure mK (r0:aC)(aj:List au)(s:ay)(m:Nat):Prop where
 room:vH r0
 made: ∃t:Int,Made r0 aj s t∧t≤2+m
 len:aj.length≤m
 ao: ∀w' hd',w'<r0.ae.length→(hd'=0∨hd'=1)→aU s.ao w' hd'= -1
def kp (c:Nat):Nat:=ak c 188441
def kt (c:Nat):Nat:=ak c 339993
def kl (c:Nat):Nat:=ak c 393241
def ka (c:Nat):Nat:=ak c 62
theorem FK {nm:Nm}(hB0:fI H nm){sd N:Nat}(hsd:1≤sd∧sd≤3)(hN:N≤15)(hN1:1≤N):
  ∃r0 aj s wd,mK r0 aj s (2*N+6)∧aN KC (aF KC) 11 [.aA nm 0, .pure (.int .i64 sd), .pure (.int .i64 N)] c H=
   some (.pure (.agg (fX r0 aj s).row),H.set nm (bw wd)):=by
 have hlt:=gE hB0;have hset:=jJ hB0;have hne: ¬nm.1=H.length:=(by omega);have hne2: ¬nm.1=H.length+1:=(by omega);have hle:nm.1≤H.length:=by omega
 suffices hs:mE (aN KC (aF KC) 11 [.aA nm 0, .pure (.int .i64 sd), .pure (.int .i64 N)] c H) (fun x=> ∃r0 aj s wd,mK r0 aj s (2*N+6)∧x=(.pure (.agg (fX r0 aj s).row),H.set nm (bw wd)))by
  obtain⟨x,hx,r0,aj,s,wd,h1,h3⟩:=hs;exact⟨r0,aj,s,wd,h1,by rw [hx,h3]⟩
 refine ba KC aw Tryz.func11 rfl rfl Td rfl rfl rfl (by simp) (by omega) ?_;have hl: ∀w,(H.set nm (bw w)).length=H.length:=fun w=>ai.length_set _ _ _;obtain⟨r0,wd1,hRB,eroom⟩:=Fo (c:=24) (H:=[(6,jk)]::H) (nm:=nm) (dW hB0) hsd (by simp [ak]) (by simp [ak]) (by simp [ak]) (fun k e=>hne (by rw [e];simp));obtain⟨n,hb,hn⟩:=O5 hRB;have k1:ak 24 46=188441:=(by decide);have k2:ak 24 83=339993:=(by decide);have k3:ak 24 96=393241:=(by decide);have f1:ak 26 22=90139:=(by decide);have f2:ak 26 27=110619:=(by decide);have f3:ak 26 53=217115:=(by decide);have hroom:ic (ai.set (ai.set ([(6,jk)]::H.set nm (bw wd1)) (H.length,188441) (.arr 2 (r0.ae.map aV.row) 0 false)) (H.length,339993) (.arr 5 (r0.aa.map a8.row) 0 false)) (H.length,393241) 1 (r0.a7.map aD)=fD 393241 1 (r0.a7.map aD) [(6,jk),(188441, .arr 2 (r0.ae.map aV.row) 0 false),(339993, .arr 5 (r0.aa.map a8.row) 0 false)]::H.set nm (bw wd1):=by
  unfold ic fD;by_cases hls:r0.a7.map aD=[]
  ·rw [if_pos hls,if_pos hls];simp [hl]
  ·rw [if_neg hls,if_neg hls];simp [hl]
 simp only [List.length_cons,Nat.add_sub_cancel,k1,k2,k3,ai.dJ hlt,hroom]at eroom;have efirst:=Gg (c:=26) (H:=G2 H.length r0::H.set nm (bw wd1)) (jA r0 []) (Zj (H:=H.set nm (bw wd1)) (hl _).symm hRB.seen) hRB.p0 hRB.t0 (by show r0.ae.length≤_;have:=hb.pl;omega) (by show r0.aa.length≤_;have:=hb.tl;omega) (by simp) (by simp [hl,f1,G2]) (by simp [hl,f2,G2]) (by simp [hl,f3,G2])
 have hfirst:cu (G2 H.length r0::H.set nm (bw wd1)) (H.length,90139) (H.length,110619) (H.length,217115) 0 0 0 (aL (jA r0 []))=fD 393241 1 (r0.a7.map aD) [(6,jk),(7,gG H.length r0 []),(90139, .arr 1 ((aL r0).ae.map aD) 0 false),(110619, .arr 2 ((aL r0).ao.map aI.row) 0 false),(188441, .arr 2 (r0.ae.map aV.row) 0 false),(217115, .arr 2 ((aL r0).aa.map br.row) 0 false),(339993, .arr 5 (r0.aa.map a8.row) 0 false)]::H.set nm (bw wd1):=by
  show cu _ _ _ _ 0 0 0 (aL r0)=_
  simp [cu,hl,G2]
 simp only [List.length_cons,Nat.add_sub_cancel,hl,f1,f2,f3,hfirst]at efirst;obtain⟨t,wd2,e2,ht⟩:=pC wd1 3 (by omega) (by omega);obtain⟨i,wd3,e3,hi1,hi2⟩:=mT wd2 N (by omega) (by omega);have hB:=fun w f0=>Zb hlt w f0;have hW:=fun w f0=>O9 hlt w f0;have e4:rU H.length r0 []=vI (H.length,188441) (H.length,339993) (H.length,393241) r0:=rfl;rw [e4]at efirst;simp [jk,vI,kJ,gG,G2,gQ]at eroom efirst;have RS:Dd H.length r0 0 2 (G4 H.length r0) [] (aL r0) 0 t:=⟨Zi _ _,by omega,Made.first hRB (by omega),by simp,by omega⟩
 have L1:=fun Q=>Gc (H:=H) hlt r0 n hb hn Q i 0 2 (G4 H.length r0) [] (aL r0) 0 t wd3 (by omega) (by omega) (by omega) RS;simp [fH,G4,gG,dL,fA,dm,eZ,jk,gQ]at L1;simp [jk,eroom,hl,efirst,kx,sM,hB,hW,hne,hlt,hle,ai.dJ,e2,e3];refine L1 _ fun F1 acts1 s1 q1 t1 wd4 hR1=> ?_;clear L1;simp;have L2:=fun Q=>Gd (H:=H.set nm (bw wd4)) r0 n hb q1 Q r0.ae.length 0 (2*i) (2+2*i) F1 acts1 s1 t1 (by omega) (by have:=hb.pl;omega) (by have:=hb.pl;omega) (by rw [hl];exact hR1) (fun w' hd' h=>absurd h (by omega));simp only [hl]at L2;refine L2 _ fun F2 acts2 s2 t2 hR2 hz=> ?_;clear L2;simp
 have L3:=fun Q=>Gf (H:=H.set nm (bw wd4)) r0 n hb acts2 s2 q1 hR2.q2 hR2.md.snd.tl Q r0.aa.length 0 F2 r0.aa (by omega) (by
  rw [hl];exact⟨hR2.fi.g6,hR2.fi.g7,hR2.fi.g8,hR2.fi.gp,hR2.fi.gl,hR2.fi.ga,hR2.fi.sc.h3,⟨0,Nat.zero_le _,hR2.fi.gt⟩,rfl⟩) (by
  refine List.ext_getElem (by simp [kA]) fun j h1 h2=> ?_;rw [j4 _ _ _ _ h1,if_neg (by omega)])
 simp only [hl]at L3;refine L3 _ fun F3 hF=> ?_;clear L3;have g6:=hF.g6;have g7:=hF.g7;obtain⟨v,hv,gt⟩:=hF.gt;simp only [jk,gG]at g6 g7;have p3:=hRB.p3;have ml:=hR2.ml;have tT:=hR2.tT;have hRes:mK r0 acts2 s2 (2*N+6):=⟨hRB,⟨t2,hR2.md,by omega⟩,by omega,hz⟩;simp [g6,g7,hl,Fr.bc];have gp':=hF.gp;have gl':=hF.gl;have ga':=hF.ga;have tl:(kA r0.aa s2.aa r0.aa.length).length=r0.aa.length:=mJ _ _ _
 suffices hs: ∀x,fY KC 11 c (.agg [.pure (.int .i64 r0.wide), .pure (.int .i64 r0.deep), .bd (H.length,188441) 2 r0.ae.length 0 r0.ae.length, .bd (H.length,339993) 5 r0.aa.length 0 r0.aa.length, .aS,dh (H.length,393241) 1 (r0.a7.map aD),dh (H.length,62) 9 (acts2.map au.row)]) (F3.ins 6 x::H.set nm (bw wd4))=
   some (.pure (.agg (fX r0 acts2 s2).row),H.set nm (bw wd4))by
  rw [hs,fP];exact⟨r0,acts2,s2,hRes,wd4,rfl⟩
 intro x;have e6: ∀k,k≠6→(F3.ins 6 x).get k=F3.get k:=fun k h=>Fr.ax _ h _;have e1:=(e6 188441 (by decide)).trans gp';have e2:=(e6 339993 (by decide)).trans gt;have e3:=fun h=>(e6 393241 (by decide)).trans (gl' h);have e4:=fun h=>(e6 62 (by decide)).trans (ga' h);generalize F3.ins 6 x=F5 at e1 e2 e3 e4;rw [ah (by simp)];have lt:(H.set nm (bw wd4)).length-1<H.length:=(by rw [hl];omega);have hv':v≤r0.aa.length:=(by rw [←tl];exact hv);have nl: ¬H.length≤H.length-1:=(by omega);have q1: ∀k,ai.get (F5::H.set nm (bw wd4)) (H.length,k)=F5.get k:=fun k=>(by simp [hl]);have tk1:List.take r0.ae.length (r0.ae.map aV.row)=r0.ae.map aV.row:=List.take_of_length_le (by simp);have tk2:List.take r0.aa.length ((kA r0.aa s2.aa r0.aa.length).map a8.row)=(kA r0.aa s2.aa r0.aa.length).map a8.row:=List.take_of_length_le (by simp [tl]);have hc1:cz (F5::H.set nm (bw wd4)) ((H.set nm (bw wd4)).length-1) (.bd (H.length,188441) 2 r0.ae.length 0 r0.ae.length)= .pure (.slice (r0.ae.map aV.row)):=by
  simp [hl,nl,q1,e1,tk1]
 have hc2:cz (F5::H.set nm (bw wd4)) ((H.set nm (bw wd4)).length-1) (.bd (H.length,339993) 5 r0.aa.length 0 r0.aa.length)= .pure (.slice ((kA r0.aa s2.aa r0.aa.length).map a8.row)):=by
  simp [hl,nl,q1,e2,tk2,tl,hv']
 have hc3:cz (F5::H.set nm (bw wd4)) ((H.set nm (bw wd4)).length-1) (dh (H.length,393241) 1 (r0.a7.map aD))=if r0.a7.map aD=[]then .aS else .pure (.slice (r0.a7.map aD)):=fE (hl _) lt (fun h=>e3 (by simpa using h));have hc4:cz (F5::H.set nm (bw wd4)) ((H.set nm (bw wd4)).length-1) (dh (H.length,62) 9 (acts2.map au.row))=if acts2.map au.row=[]then .aS else .pure (.slice (acts2.map au.row)):=fE (hl _) lt (fun h=>e4 (by simpa using h));rw [mG];have e:canon (cR ([.pure (.int .i64 r0.wide), .pure (.int .i64 r0.deep), .bd (H.length,188441) 2 r0.ae.length 0 r0.ae.length, .bd (H.length,339993) 5 r0.aa.length 0 r0.aa.length, .aS,dh (H.length,393241) 1 (r0.a7.map aD),dh (H.length,62) 9 (acts2.map au.row)].map (cz (F5::H.set nm (bw wd4)) ((H.set nm (bw wd4)).length-1))))= .pure (.agg (fX r0 acts2 s2).row):=by
  refine mU ?_;have ci: ∀rows:List (List PV),cg (if rows=[]then .aS else .pure (.slice rows))= .pure (.slice rows):=fun rows=>by
   split
   ·rename_i h;subst h;rfl
   ·rfl
  simp only [List.map_cons,List.map_nil,lP,hc1,hc2,hc3,hc4,ci];rw [gK];show _=_
  simp [fX,hRB.seen]
 rw [e]
end
section
variable {c:Nat} {H:ai}
theorem r5 {l key es bytes:Nat}{rows:List (List PV)}{fr:Fr}(hl:H.length=l)(hf:fr.get key=none)(hb:rows.length*bytes≤1099511627776):
  zW l key .aS es bytes rows (fr::H)=some (dh (l,key) es rows,fD key es rows fr::H):=by
 subst hl;unfold dh fD;by_cases h:rows=[]
 ·subst h;simp
 ·have: ¬H.length+1≤H.length:=(by omega);simp [h,hf,hb,this]
theorem En (l:List Int)(hn:l.length≤1000000)(hH:0<H.length):aN KC (aF KC) 56 [.pure (.slice (l.map aD))] c H=some (.pure (.slice (l.map aD)),H):=by
 refine aM (ba KC aw Tryz.func56 rfl rfl Te rfl rfl rfl (by simp) hH ?_);have hb:l.length*8≤1099511627776:=(by omega);have A:=r5 (H:=H) (l:=H.length) (key:=5) (es:=1) (bytes:=8) (rows:=l.map aD) (fr:=[]) rfl rfl (by simpa using hb);have hall: ∀x:Int,(aD x).length=1:=fun x=>rfl;simp [A,hall];rw [ah]
 ·rw [fP,Tf rfl (by omega)]
 ·simp
def AU (n2 n3 n7:Nm)(r:aC):GV:= .agg [.pure (.int .i64 r.wide), .pure (.int .i64 r.deep),dh n2 2 (r.ae.map aV.row),dh n3 5 (r.aa.map a8.row), .pure (.slice (r.seen.map aD)), .pure (.slice (r.a7.map aD)),dh n7 9 (r.aj.map au.row)]
def Is (H:ai)(n2 n3 n7:Nm)(r:aC):ai:=ic (ic (ic H n2 2 (r.ae.map aV.row)) n3 5 (r.aa.map a8.row)) n7 9 (r.aj.map au.row)
theorem CK (r:aC) (h:gA r) (hH:0<H.length)
  (hf1:H.get (H.length-1,ak c 6)=none) (hf2:H.get (H.length-1,ak c 10)=none) (hf3:H.get (H.length-1,ak c 22)=none):
  aN KC (aF KC) 13 [.pure (.agg r.row)] c H=some (AU (H.length-1,ak c 6) (H.length-1,ak c 10) (H.length-1,ak c 22) r,Is H (H.length-1,ak c 6) (H.length-1,ak c 10) (H.length-1,ak c 22) r):=by
 refine aM (ba KC aw Tryz.func13 rfl rfl Th rfl rfl rfl (by simp) hH ?_);rw [gK];have h1:=h.p;have h2:=h.t;have h3:=h.a;have b1:r.ae.length*16≤1099511627776:=(by omega);have b2:r.aa.length*40≤1099511627776:=(by omega);have b3:r.aj.length*72≤1099511627776:=(by omega);have l1: ∀x:aV,x.row.length=2:=fun x=>rfl;have l2: ∀x:a8,x.row.length=5:=fun x=>rfl;have l3: ∀x:au,x.row.length=9:=fun x=>rfl;have I1:=fun c (H:ai) (hH:0<H.length)=>En (c:=c) (H:=H) r.seen h.s hH;have I2:=fun c (H:ai) (hH:0<H.length)=>En (c:=c) (H:=H) r.a7 h.l hH;have A1:=fun fr hf=>r5 (H:=H) (l:=H.length) (key:=6) (es:=2) (bytes:=16) (rows:=r.ae.map aV.row) (fr:=fr) rfl hf (by simpa using b1);have A2:=fun fr hf=>r5 (H:=H) (l:=H.length) (key:=10) (es:=5) (bytes:=40) (rows:=r.aa.map a8.row) (fr:=fr) rfl hf (by simpa using b2);have A3:=fun fr hf=>r5 (H:=H) (l:=H.length) (key:=22) (es:=9) (bytes:=72) (rows:=r.aj.map au.row) (fr:=fr) rfl hf (by simpa using b3);simp [A1,A2,A3,l1,l2,l3,I1,I2];have mz:ak c 6≠ak c 10:=(by unfold ak;omega);have mc:ak c 6≠ak c 22:=(by unfold ak;omega);have kK:ak c 10≠ak c 22:=(by unfold ak;omega);have nn: ∀a b:Nat,a≠b→((H.length-1,b):Nm)≠(H.length-1,a):=fun a b h e=>h (Prod.mk.inj e).2.symm;have gg: ∀(H':ai) (a b:Nat) (x:dB),a≠b→(H'.set (H.length-1,a) x).get (H.length-1,b)=H'.get (H.length-1,b):=fun H' a b x h=>ai.aG x (nn a b h);have d2:=fun x=>(gg H _ _ x mz).trans hf2;have d3:=fun x=>(gg H _ _ x mc).trans hf3;have d3':=fun x=>(gg H _ _ x kK).trans hf3;have d4:=fun x y=>(gg (H.set (H.length-1,ak c 6) x) _ _ y kK).trans (d3 x)
 suffices hs: ∀x y,fY KC 13 c (AU (H.length,6) (H.length,10) (H.length,22) r) (fD 22 9 (r.aj.map au.row) (fD 10 5 (r.aa.map a8.row) (fD 6 2 (r.ae.map aV.row) [(1,x),(2,y)]))::H)=
   some (AU (H.length-1,ak c 6) (H.length-1,ak c 10) (H.length-1,ak c 22) r,Is H (H.length-1,ak c 6) (H.length-1,ak c 10) (H.length-1,ak c 22) r)by
  have:=hs;unfold AU at this;rw [this,fP];rfl
 intro x y;unfold AU Is;by_cases e1:r.ae=[]
 ·by_cases e2:r.aa=[]
  ·by_cases e3:r.aj=[]
   ·simp [e1,e2,e3,dh,fD,bT,refs,dN,cY,cv,dq,dr,dedup,cH,cb,tz,uD,j3,ie,ic,hf1,hf2,hf3,d2,d3,d3',d4]
   ·simp [e1,e2,e3,dh,fD,bT,refs,dN,cY,cv,dq,dr,dedup,cH,cb,tz,uD,j3,ie,ic,hf1,hf2,hf3,d2,d3,d3',d4]
  ·by_cases e3:r.aj=[]
   ·simp [e1,e2,e3,dh,fD,bT,refs,dN,cY,cv,dq,dr,dedup,cH,cb,tz,uD,j3,ie,ic,hf1,hf2,hf3,d2,d3,d3',d4]
   ·simp [e1,e2,e3,dh,fD,bT,refs,dN,cY,cv,dq,dr,dedup,cH,cb,tz,uD,j3,ie,ic,hf1,hf2,hf3,d2,d3,d3',d4]
 ·by_cases e2:r.aa=[]
  ·by_cases e3:r.aj=[]
   ·simp [e1,e2,e3,dh,fD,bT,refs,dN,cY,cv,dq,dr,dedup,cH,cb,tz,uD,j3,ie,ic,hf1,hf2,hf3,d2,d3,d3',d4]
   ·simp [e1,e2,e3,dh,fD,bT,refs,dN,cY,cv,dq,dr,dedup,cH,cb,tz,uD,j3,ie,ic,hf1,hf2,hf3,d2,d3,d3',d4]
  ·by_cases e3:r.aj=[]
   ·simp [e1,e2,e3,dh,fD,bT,refs,dN,cY,cv,dq,dr,dedup,cH,cb,tz,uD,j3,ie,ic,hf1,hf2,hf3,d2,d3,d3',d4]
   ·simp [e1,e2,e3,dh,fD,bT,refs,dN,cY,cv,dq,dr,dedup,cH,cb,tz,uD,j3,ie,ic,hf1,hf2,hf3,d2,d3,d3',d4]
theorem uI {F:Fr}{l key es:Nat}{rows:List (List PV)}(hl:H.length=l):ic (F::H) (l,key) es rows=fD key es rows F::H:=by
 subst hl;unfold ic fD;split
 ·rfl
 ·simp
theorem qZ {key es:Nat}{rows:List (List PV)}{F:Fr}{b:dB}:(fD key es rows F).ins key b=F.ins key b:=by
 unfold fD;split
 ·rfl
 ·exact Fr.cP _
end
section
variable {c:Nat} {H:ai}
theorem nI {K:Ctx}{rec:Rec}{f:FuncId}{args:List GV}(h1:mM args=false)(h2:K.Ai f=false)(h3:K.EM f=false):aN K rec f args c H=bJ K rec f args c H:=by
 unfold aN;simp [h1,h2,h3]
section
variable {x:List PV} {l:List (List PV)}
theorem Eo:iE KC .eql 22 (.pure (.slice (x::l)))=some (.bool false):=by
 unfold iE;rw [Gi,Tryz.underlying22];rfl
theorem Ep:iE KC .eql 23 (.pure (.slice (x::l)))=some (.bool false):=by
 unfold iE;rw [Gi,Tryz.underlying23];rfl
theorem Er:iE KC .eql 24 (.pure (.slice (x::l)))=some (.bool false):=by
 unfold iE;rw [Gi,Tryz.underlying24];rfl
theorem Es:iE KC .eql 25 (.pure (.slice (x::l)))=some (.bool false):=by
 unfold iE;rw [Gi,Tryz.underlying25];rfl
theorem Et:iE KC .eql 38 (.pure (.slice (x::l)))=some (.bool false):=by
 unfold iE;rw [Gi,Tryz.underlying38];rfl
theorem Eu:iE KC .eql 39 (.pure (.slice (x::l)))=some (.bool false):=by
 unfold iE;rw [Gi,Tryz.underlying39];rfl
end
theorem uc (l:List Int)(h0:l≠[])(hn:l.length≤1000000)(hH:0<H.length)(hf:H.get (H.length-1,ak c 7)=none):
  aN KC (aF KC) 99 [.pure (.slice (l.map aD))] c H=some (.bd (H.length-1,ak c 7) 1 l.length 0 l.length,H.set (H.length-1,ak c 7) (.arr 1 (l.map aD) 0 false)):=by
 obtain⟨x,l',rfl⟩:=List.exists_cons_of_ne_nil h0;have hb:(l'.length+1)*8≤1099511627776:=(by simp at hn;omega);have hall: ∀x:Int,(aD x).length=1:=fun x=>rfl;have hnl: ¬H.length+1≤H.length:=(by omega);rw [nI rfl rfl rfl];refine aM (aK KC aw Tryz.func99 rfl rfl Ti (by simp) hH ?_);simp [Eo,Ep,Er,Es,Et,Eu,hb,hall,hnl,bT,refs,dN,cY,cv,dq,dr,dedup,cH,cb,tz,hf,uD,j3,ie]
theorem r6 (l:List aI)(h0:l≠[])(hn:l.length≤1000000)(hH:0<H.length)(hf:H.get (H.length-1,ak c 7)=none):
  aN KC (aF KC) 100 [.pure (.slice (l.map aI.row))] c H=some (.bd (H.length-1,ak c 7) 2 l.length 0 l.length,H.set (H.length-1,ak c 7) (.arr 2 (l.map aI.row) 0 false)):=by
 obtain⟨x,l',rfl⟩:=List.exists_cons_of_ne_nil h0;have hb:(l'.length+1)*16≤1099511627776:=(by simp at hn;omega);have hall: ∀x:aI,(aI.row x).length=2:=fun x=>rfl;have hnl: ¬H.length+1≤H.length:=(by omega);rw [nI rfl rfl rfl];refine aM (aK KC aw Tryz.func100 rfl rfl LB (by simp) hH ?_);simp [Eo,Ep,Er,Es,Et,Eu,hb,hall,hnl,bT,refs,dN,cY,cv,dq,dr,dedup,cH,cb,tz,hf,uD,j3,ie]
theorem zu (l:List br)(h0:l≠[])(hn:l.length≤1000000)(hH:0<H.length)(hf:H.get (H.length-1,ak c 7)=none):
  aN KC (aF KC) 101 [.pure (.slice (l.map br.row))] c H=some (.bd (H.length-1,ak c 7) 2 l.length 0 l.length,H.set (H.length-1,ak c 7) (.arr 2 (l.map br.row) 0 false)):=by
 obtain⟨x,l',rfl⟩:=List.exists_cons_of_ne_nil h0;have hb:(l'.length+1)*16≤1099511627776:=(by simp at hn;omega);have hall: ∀x:br,(br.row x).length=2:=fun x=>rfl;have hnl: ¬H.length+1≤H.length:=(by omega);rw [nI rfl rfl rfl];refine aM (aK KC aw Tryz.func101 rfl rfl LC (by simp) hH ?_);simp [Eo,Ep,Er,Es,Et,Eu,hb,hall,hnl,bT,refs,dN,cY,cv,dq,dr,dedup,cH,cb,tz,hf,uD,j3,ie]
theorem tx (l:List au)(h0:l≠[])(hn:l.length≤1000000)(hH:0<H.length)(hf:H.get (H.length-1,ak c 7)=none):
  aN KC (aF KC) 75 [.pure (.slice (l.map au.row))] c H=some (.bd (H.length-1,ak c 7) 9 l.length 0 l.length,H.set (H.length-1,ak c 7) (.arr 9 (l.map au.row) 0 false)):=by
 obtain⟨x,l',rfl⟩:=List.exists_cons_of_ne_nil h0;have hb:(l'.length+1)*72≤1099511627776:=(by simp at hn;omega);have hall: ∀x:au,(au.row x).length=9:=fun x=>rfl;have hnl: ¬H.length+1≤H.length:=(by omega);rw [nI rfl rfl rfl];refine aM (aK KC aw Tryz.func75 rfl rfl Tj (by simp) hH ?_);simp [Eo,Ep,Er,Es,Et,Eu,hb,hall,hnl,bT,refs,dN,cY,cv,dq,dr,dedup,cH,cb,tz,hf,uD,j3,ie]
end
section
variable {c:Nat} {H:ai}
def bL (r:aC)(s:ay):dB:= .box [.pure (.int .i64 r.wide), .pure (.int .i64 r.deep), .pure (.slice (r.ae.map aV.row)), .pure (.slice (r.aa.map a8.row)), .pure (.slice (r.seen.map aD)), .pure (.slice (r.a7.map aD)), .pure (.slice (r.aj.map au.row)), .pure (.slice (s.ae.map aD)), .pure (.slice (s.ao.map aI.row)), .pure (.slice (s.aa.map br.row))]
structure Full (s:ay):Prop where
 p0:s.ae≠[]
 h0:s.ao≠[]
 pl:s.ae.length≤1000000
 hl:s.ao.length≤1000000
 tl:s.aa.length≤1000000
theorem xv (r:aC){s:ay}(h:Full s)(ht0:s.aa≠[])(hH:0<H.length)(hf1:H.get (H.length-1,ak c 28679)=none)(hf2:H.get (H.length-1,ak c 28683)=none)(hf3:H.get (H.length-1,ak c 28687)=none):
  aN KC (aF KC) 63 [.pure (.agg (aP r s))] c H=some (tw r (H.length-1,ak c 28679) (H.length-1,ak c 28683) (H.length-1,ak c 28687) s,
   cu H (H.length-1,ak c 28679) (H.length-1,ak c 28683) (H.length-1,ak c 28687) 0 0 0 s):=by
 refine aM (ba KC aw Tryz.func63 rfl rfl I4 rfl rfl rfl (by simp) hH ?_);have mz:ak c 28679≠ak c 28683:=(by unfold ak;omega);have mc:ak c 28679≠ak c 28687:=(by unfold ak;omega);have kK:ak c 28683≠ak c 28687:=(by unfold ak;omega);have k1:(H.length-1,ak c 28683)≠((H.length-1,ak c 28679):Nm):=fun e=>mz (Prod.mk.inj e).2.symm;have k2:(H.length-1,ak c 28687)≠((H.length-1,ak c 28679):Nm):=fun e=>mc (Prod.mk.inj e).2.symm;have k3:(H.length-1,ak c 28687)≠((H.length-1,ak c 28683):Nm):=fun e=>kK (Prod.mk.inj e).2.symm;have g2: ∀b,(H.set (H.length-1,ak c 28679) b).get (H.length-1,ak c 28683)=none:=fun b=>(ai.aG b k1).trans hf2;have g3: ∀b b',((H.set (H.length-1,ak c 28679) b).set (H.length-1,ak c 28683) b').get (H.length-1,ak c 28687)=none:=fun b b'=>(ai.aG b' k3).trans ((ai.aG b k2).trans hf3);have m1:ak 6 7=28679:=(by decide);have m2:ak 10 7=28683:=(by decide);have m3:ak 14 7=28687:=(by decide);have C1:=fun(F:Fr) (hf:F.get 28679=none)=>uc (c:=6) (H:=F::H) s.ae h.p0 h.pl (by simp) (by simp [m1,hf]);have C2:=fun(F:Fr) (hf:F.get 28683=none)=>r6 (c:=10) (H:=F::H) s.ao h.h0 h.hl (by simp) (by simp [m2,hf]);have C3:=fun(F:Fr) (hf:F.get 28687=none)=>zu (c:=14) (H:=F::H) s.aa ht0 h.tl (by simp) (by simp [m3,hf]);simp [m1,m2,m3]at C1 C2 C3;unfold aP;simp [C1,C2,C3,bT,refs,dN,cY,cv,dq,dr,dedup,cH,cb,tz,hf1,g2,g3,uD,j3,ie,cu,tw]
def Sa (r:aC)(n1 n2:Nm)(s:ay):GV:= .agg [.pure (.int .i64 r.wide), .pure (.int .i64 r.deep), .pure (.slice (r.ae.map aV.row)), .pure (.slice (r.aa.map a8.row)), .pure (.slice (r.seen.map aD)), .pure (.slice (r.a7.map aD)), .pure (.slice (r.aj.map au.row)), .bd n1 1 s.ae.length 0 s.ae.length, .bd n2 2 s.ao.length 0 s.ao.length, .aS]
theorem Bl:aN KC (aF KC) 101 [.pure (.slice [])] c H=some (.aS,H):=by
 unfold aN;rw [show KC.zV 101=true from rfl]
 simp [mM]
theorem u4 (r:aC){s:ay}(h:Full s)(ht0:s.aa=[])(hH:0<H.length)(hf1:H.get (H.length-1,ak c 28679)=none)(hf2:H.get (H.length-1,ak c 28683)=none):
  aN KC (aF KC) 63 [.pure (.agg (aP r s))] c H=some (Sa r (H.length-1,ak c 28679) (H.length-1,ak c 28683) s,
   (H.set (H.length-1,ak c 28679) (.arr 1 (s.ae.map aD) 0 false)).set (H.length-1,ak c 28683) (.arr 2 (s.ao.map aI.row) 0 false)):=by
 refine aM (ba KC aw Tryz.func63 rfl rfl I4 rfl rfl rfl (by simp) hH ?_);have mz:ak c 28679≠ak c 28683:=(by unfold ak;omega);have k1:(H.length-1,ak c 28683)≠((H.length-1,ak c 28679):Nm):=fun e=>mz (Prod.mk.inj e).2.symm;have g2: ∀b,(H.set (H.length-1,ak c 28679) b).get (H.length-1,ak c 28683)=none:=fun b=>(ai.aG b k1).trans hf2;have m1:ak 6 7=28679:=(by decide);have m2:ak 10 7=28683:=(by decide);have C1:=fun(F:Fr) (hf:F.get 28679=none)=>uc (c:=6) (H:=F::H) s.ae h.p0 h.pl (by simp) (by simp [m1,hf]);have C2:=fun(F:Fr) (hf:F.get 28683=none)=>r6 (c:=10) (H:=F::H) s.ao h.h0 h.hl (by simp) (by simp [m2,hf]);have C3:=fun(H:ai)=>Bl (c:=14) (H:=H);simp [m1,m2]at C1 C2;unfold aP;simp [ht0,C1,C2,C3,bT,refs,dN,cY,cv,dq,dr,dedup,cH,cb,tz,hf1,g2,uD,j3,ie,Sa]
def ach (r:aC)(s:ay):Prop:= ∀i,i<r.aa.length→s.aa.getD i aQ=⟨(r.aa.getD i cA).home,(r.aa.getD i cA).want⟩
def Zk (s:ay):Prop:=s.ao=s.ao.map fun _=>empty
noncomputable def ql:aC→ay→Bool:=ov fun r s=>decide (s.ao=s.ao.map fun _=>empty) && decide (∀i,i<r.aa.length→s.aa.getD i aQ=⟨(r.aa.getD i cA).home,(r.aa.getD i cA).want⟩)
theorem mL (r:aC)(s:ay):ql r s=(decide (s.ao=s.ao.map fun _=>empty) && decide (∀i,i<r.aa.length→s.aa.getD i aQ=⟨(r.aa.getD i cA).home,(r.aa.getD i cA).want⟩)):=by rw [ql,cN]
theorem Gj (r:aC)(s:ay)(hn:s.ao.length≤1000000)(Q:GX→bM→Prop): ∀k i:Nat,i+k=s.ao.length→
  ((∀j,i≤j→j<s.ao.length→s.ao.getD j bD=empty)→Q (.exit 0) ⟨[(1, .aA (H.length,1) 0),(2,aO)],[(1,bL r s)]::H,41⟩)→
  (¬(∀j,i≤j→j<s.ao.length→s.ao.getD j bD=empty)→Q .ret ⟨[(1, .aA (H.length,1) 0),(2, .pure (.bool false))],[(1,bL r s)]::H,41⟩)→
  gZ KC aw 94 (lp Tryz.f94 0) [1,9,10,11] [1,2] Q [(1, .aA (H.length,1) 0),(9, .pure (.slice (s.ao.map aI.row))),(10, .pure (.int .i64 s.ao.length)),(11, .pure (.int .i64 i))] ([(1,bL r s)]::H) 41:=by
 intro k
 induction k with
 |zero=>
  intro i hi h1 h2;apply az;conv=>arg 4;whnf
  have: ¬i<s.ao.length:=(by omega);simp [this,bL];simpa [bL]using h1 (fun j a b=>by omega)
 |succ k ih=>
  intro i hi h1 h2;have hia:i<s.ao.length:=(by omega);have hw:=c8 (x:=(i:Int)+1) (by omega) (by omega);have hg:=aW (d:=bD) hia;apply az;conv=>arg 4;whnf
  by_cases e1:s.ao[i].l= -1
  ·by_cases e2:s.ao[i].r= -1
   ·have he:s.ao.getD i bD=empty:=(by rw [hg];cases hh:s.ao[i];rw [hh]at e1 e2;simp only at e1 e2;rw [e1,e2];rfl);have ih':=ih (i+1) (by omega) (fun h=>h1 fun j a b=>by
     by_cases e:j=i
     ·rw [e];exact he
     ·exact h j (by omega) b) (fun h=>h2 fun h'=>h fun j a b=>h' j (by omega) b)
    simp [hia,aI.row,hw,bL,e1,e2];simpa [aI.row,bL]using ih'
   ·have e2':(s.ao[i].r== -1)=false:=(by simpa using e2);simp [hia,aI.row,bL,e1,e2'];simpa [bL]using h2 fun h'=>by
     have:=h' i (Nat.le_refl _) hia;rw [hg]at this;rw [this]at e2;exact e2 rfl
  ·have e1':(s.ao[i].l== -1)=false:=(by simpa using e1);simp [hia,aI.row,bL,e1'];simpa [bL]using h2 fun h'=>by
    have:=h' i (Nat.le_refl _) hia;rw [hg]at this;rw [this]at e1;exact e1 rfl
theorem Gk (r:aC)(s:ay)(hn:r.aa.length≤1000000)(hst:s.aa.length=r.aa.length)(Q:GX→bM→Prop): ∀k i:Nat,i+k=r.aa.length→
  ((∀j,i≤j→j<r.aa.length→s.aa.getD j aQ=⟨(r.aa.getD j cA).home,(r.aa.getD j cA).want⟩)→Q (.exit 2) ⟨[(2,aO)],[(1,bL r s)]::H,41⟩)→
  (¬(∀j,i≤j→j<r.aa.length→s.aa.getD j aQ=⟨(r.aa.getD j cA).home,(r.aa.getD j cA).want⟩)→Q .ret ⟨[(2, .pure (.bool false))],[(1,bL r s)]::H,41⟩)→
  gZ KC aw 94 (lp Tryz.f94 1) [1,21,22,23] [2] Q [(1, .aA (H.length,1) 0),(21, .pure (.slice (r.aa.map a8.row))),(22, .pure (.int .i64 r.aa.length)),(23, .pure (.int .i64 i))] ([(1,bL r s)]::H) 41:=by
 intro k
 induction k with
 |zero=>
  intro i hi h1 h2;apply az;conv=>arg 4;whnf
  have: ¬i<r.aa.length:=(by omega);simp [this,bL];simpa [bL]using h1 (fun j a b=>by omega)
 |succ k ih=>
  intro i hi h1 h2;have hia:i<r.aa.length:=(by omega);have his:i<s.aa.length:=(by omega);have hw:=c8 (x:=(i:Int)+1) (by omega) (by omega);have hg:=aW (d:=cA) hia;have hg2:=aW (d:=aQ) his;apply az;conv=>arg 4;whnf
  by_cases e1:s.aa[i].cell=r.aa[i].home
  ·by_cases e2:s.aa[i].state=r.aa[i].want
   ·have he:s.aa.getD i aQ=⟨(r.aa.getD i cA).home,(r.aa.getD i cA).want⟩:=(by rw [hg,hg2,←e1,←e2]);have ih':=ih (i+1) (by omega) (fun h=>h1 fun j a b=>by
     by_cases e:j=i
     ·rw [e];exact he
     ·exact h j (by omega) b) (fun h=>h2 fun h'=>h fun j a b=>h' j (by omega) b)
    simp [hia,his,a8.row,br.row,hw,bL,e1,e2];simpa [a8.row,br.row,bL]using ih'
   ·have e2':(s.aa[i].state==r.aa[i].want)=false:=(by simpa using e2);simp [hia,his,a8.row,br.row,bL,e1,e2'];simpa [bL]using h2 fun h'=>by
     have:=h' i (Nat.le_refl _) hia;rw [hg,hg2]at this;rw [this]at e2;exact e2 rfl
  ·have e1':(s.aa[i].cell==r.aa[i].home)=false:=(by simpa using e1);simp [hia,his,a8.row,br.row,bL,e1'];simpa [bL]using h2 fun h'=>by
    have:=h' i (Nat.le_refl _) hia;rw [hg,hg2]at this;rw [this]at e1;exact e1 rfl
theorem vp (r:aC)(s:ay)(hn:r.aa.length≤1000000)(hn2:s.ao.length≤1000000)(hst:s.aa.length=r.aa.length)(hH:0<H.length):
  aN KC (aF KC) 94 [.pure (.agg (aP r s))] c H=some (.pure (.bool (ql r s)),H):=by
 refine eC rfl rfl rfl rfl rfl hH fun H hH=> ?_;refine aM (aK KC aw Tryz.func94 rfl rfl Tk (by simp) hH ?_);have hd:=mL r s;have eh:(∀j,0≤j→j<s.ao.length→s.ao.getD j bD=empty)↔Zk s:=by
  unfold Zk;constructor
  ·intro h;refine List.ext_getElem (by simp) fun j h1 h2=> ?_;have:=h j (Nat.zero_le _) h1;rw [aW h1]at this;simp [this]
  ·intro h j _ hj;rw [aW hj];have:s.ao[j]'hj=(s.ao.map fun _=>empty)[j]'(by simpa using hj):=(by congr 1);rw [this];simp
 have et:(∀j,0≤j→j<r.aa.length→s.aa.getD j aQ=⟨(r.aa.getD j cA).home,(r.aa.getD j cA).want⟩)↔ach r s:=⟨fun h i hi=>h i (Nat.zero_le _) hi,fun h i _ hi=>h i hi⟩;have L1:=fun Q=>Gj (H:=H) r s hn2 Q s.ao.length 0 (by omega);rw [eh]at L1;have L2:=fun Q=>Gk (H:=H) r s hn hst Q r.aa.length 0 (by omega);rw [et]at L2;unfold aP;simp;simp [bL]at L1 L2;refine L1 _ (fun h=> ?_) (fun h=> ?_)
 ·simp;refine L2 _ (fun h2=> ?_) (fun h2=> ?_)
  ·have:ql r s=true:=(by rw [hd,decide_eq_true (p:=s.ao=s.ao.map fun _=>empty) h,Bool.true_and];exact decide_eq_true (p:= ∀i,i<r.aa.length→s.aa.getD i aQ=⟨(r.aa.getD i cA).home,(r.aa.getD i cA).want⟩) h2);simp [ah,this]
  ·have:ql r s=false:=by
    rw [hd,Bool.and_eq_false_iff];right;exact decide_eq_false (p:= ∀i,i<r.aa.length→s.aa.getD i aQ=⟨(r.aa.getD i cA).home,(r.aa.getD i cA).want⟩) h2
   simp [ah,this]
 ·have:ql r s=false:=by
   rw [hd,Bool.and_eq_false_iff];left;exact decide_eq_false (p:=s.ao=s.ao.map fun _=>empty) h
  simp [ah,this]
end
section
variable {c:Nat} {H:ai}
theorem Zl {l key es bytes dm es2:Nat}{rows rows2:List (List PV)}{r:List PV}{X f0:Fr}(hl:H.length=l)(hne:key≠dm)(hf:X.get key=none)(hb:(rows.length+1)*bytes≤1099511627776):
  zW l key (dh (l,key) es rows) es bytes [r] (f0::fD dm es2 rows2 (fD key es rows X)::H)=some (dh (l,key) es (rows++[r]),f0::fD dm es2 rows2 (fD key es (rows++[r]) X)::H):=by
 subst hl;have g: ∀rows,(fD dm es2 rows2 (fD key es rows X)).get key=(fD key es rows X).get key:=fun rows=>bO hne;have hh: ∀Fx:Fr,ai.get (f0::Fx::H) (H.length,key)=Fx.get key:=fun Fx=>(by simp);rw [rb (fun h=>(hh _).trans ((g _).trans (by rw [h,gP,hf]))) (fun h=>(hh _).trans ((g _).trans (dH h))) (by simp;omega) hb];have e:(fD dm es2 rows2 (fD key es rows X)).ins key (.arr es (rows++[r]) 0 false)=fD dm es2 rows2 (fD key es (rows++[r]) X):=by
  rw [LF hne,qZ];congr 1;unfold fD;simp
 simp [e]
def oK:dB:= .box [.pure (.int .i64 0), .pure (.int .i64 0), .aS, .aS, .aS, .aS, .aS, .aS, .aS, .aS]
def Di (r:aC)(L:Nat)(p:List Int)(h:List aI):Fr:=fD 31 2 (h.map aI.row) (fD 23 1 (p.map aD) [(1,aX r),(2,oK),(3, .box [.pure (.int .i64 r.wide), .pure (.int .i64 r.deep), .pure (.slice (r.ae.map aV.row)), .pure (.slice (r.aa.map a8.row)), .pure (.slice (r.seen.map aD)), .pure (.slice (r.a7.map aD)), .pure (.slice (r.aj.map au.row)),dh (L,23) 1 (p.map aD),dh (L,31) 2 (h.map aI.row), .aS])])
theorem Gl (r:aC)(hpl:r.ae.length≤1000000)(Q:GX→bM→Prop): ∀(k i:Nat) (p:List Int) (h:List aI),i+k=r.ae.length→p.length=i→h.length=i→
  Q (.exit 0) ⟨[(1, .aA (H.length,1) 0),(2, .aA (H.length,2) 0),(3, .aA (H.length,3) 0)],Di r H.length (p++(r.ae.drop i).map (·.cell)) (h++(r.ae.drop i).map fun _=>empty)::H,56⟩→
  gZ KC aw 92 (lp Tryz.f92 0) [1,2,3,11,12,13] [1,2,3] Q [(1, .aA (H.length,1) 0),(2, .aA (H.length,2) 0),(3, .aA (H.length,3) 0),(11, .pure (.slice (r.ae.map aV.row))),(12, .pure (.int .i64 r.ae.length)),(13, .pure (.int .i64 i))] (Di r H.length p h::H) 56:=by
 intro k
 induction k with
 |zero=>
  intro i p h hi hp hh hq;have e1:r.ae.drop i=[]:=List.drop_of_length_le (by omega);rw [e1]at hq;apply az;conv=>arg 4;whnf
  have: ¬i<r.ae.length:=(by omega);simp [this,Di];simpa [Di]using hq
 |succ k ih=>
  intro i p h hi hp hh hq;have hia:i<r.ae.length:=(by omega);have hw:=c8 (x:=(i:Int)+1) (by omega) (by omega);have e1:r.ae.drop i=r.ae[i]::r.ae.drop (i+1):=List.drop_eq_getElem_cons hia;have ih':=ih (i+1) (p++[r.ae[i].cell]) (h++[empty]) (by omega) (by simp [hp]) (by simp [hh]) (by rw [e1,List.map_cons,List.map_cons]at hq;rw [List.append_assoc,List.append_assoc];exact hq);have b1:(p.length+1)*8≤1099511627776:=(by omega);have b2:(h.length+1)*16≤1099511627776:=(by omega);have K1:=fun(f0 X:Fr) hf=>Zl (H:=H) (l:=H.length) (key:=23) (es:=1) (bytes:=8) (dm:=31) (es2:=2) (rows:=p.map aD) (rows2:=h.map aI.row) (r:=[.int .i64 r.ae[i].cell]) (X:=X) (f0:=f0) rfl (by decide) hf (by simpa using b1);have K2:=fun(f0 X:Fr) hf=>Eh (H:=H) (l:=H.length) (key:=31) (es:=2) (bytes:=16) (rows:=h.map aI.row) (r:=[.int .i64 (-1), .int .i64 (-1)]) (fr:=X) (f0:=f0) rfl hf (by simpa using b2);apply az;conv=>arg 4;whnf
  simp [Di,aD,aI.row,empty]at ih';simp [hia,aV.row,Di,hw,K1,K2];exact ih'
def Dj (r:aC)(L:Nat)(p:List Int)(h:List aI)(t:List br):Fr:=fD 51 2 (t.map br.row) (fD 31 2 (h.map aI.row) (fD 23 1 (p.map aD) [(1,aX r),(2,oK),(3, .box [.pure (.int .i64 r.wide), .pure (.int .i64 r.deep), .pure (.slice (r.ae.map aV.row)), .pure (.slice (r.aa.map a8.row)), .pure (.slice (r.seen.map aD)), .pure (.slice (r.a7.map aD)), .pure (.slice (r.aj.map au.row)),dh (L,23) 1 (p.map aD),dh (L,31) 2 (h.map aI.row),dh (L,51) 2 (t.map br.row)])]))
theorem Gm (r:aC)(htl:r.aa.length≤1000000)(p:List Int)(h:List aI)(Q:GX→bM→Prop): ∀(k i:Nat) (t:List br),i+k=r.aa.length→t.length=i→
  Q (.exit 2) ⟨[(2, .aA (H.length,2) 0),(3, .aA (H.length,3) 0)],Dj r H.length p h (t++(r.aa.drop i).map eV)::H,56⟩→
  gZ KC aw 92 (lp Tryz.f92 1) [2,3,36,37,38] [2,3] Q [(2, .aA (H.length,2) 0),(3, .aA (H.length,3) 0),(36, .pure (.slice (r.aa.map a8.row))),(37, .pure (.int .i64 r.aa.length)),(38, .pure (.int .i64 i))] (Dj r H.length p h t::H) 56:=by
 intro k
 induction k with
 |zero=>
  intro i t hi ht hq;have e1:r.aa.drop i=[]:=List.drop_of_length_le (by omega);rw [e1]at hq;apply az;conv=>arg 4;whnf
  have: ¬i<r.aa.length:=(by omega);simp [this,Dj];simpa [Dj]using hq
 |succ k ih=>
  intro i t hi ht hq;have hia:i<r.aa.length:=(by omega);have hw:=c8 (x:=(i:Int)+1) (by omega) (by omega);have e1:r.aa.drop i=r.aa[i]::r.aa.drop (i+1):=List.drop_eq_getElem_cons hia;have ih':=ih (i+1) (t++[eV r.aa[i]]) (by omega) (by simp [ht]) (by rw [e1,List.map_cons]at hq;rw [List.append_assoc];exact hq);have b2:(t.length+1)*16≤1099511627776:=(by omega);have K2:=fun(f0 X:Fr) hf=>Eh (H:=H) (l:=H.length) (key:=51) (es:=2) (bytes:=16) (rows:=t.map br.row) (r:=[.int .i64 r.aa[i].cell, .int .i64 r.aa[i].state]) (fr:=X) (f0:=f0) rfl hf (by simpa using b2);apply az;conv=>arg 4;whnf
  simp [Dj,br.row,eV]at ih';simp [hia,a8.row,Dj,hw,K2];exact ih'
theorem sC (r:aC)(hpl:r.ae.length≤1000000)(htl:r.aa.length≤1000000)(hH:0<H.length):
  aN KC (aF KC) 92 [.pure (.agg r.row)] c H=some (.pure (.agg (aP r (aL r))),H):=by
 refine aM (ba KC aw Tryz.func92 rfl rfl Tl rfl rfl rfl (by simp) hH ?_);rw [gK];have L1:=fun Q h=>Gl (H:=H) r hpl Q r.ae.length 0 [] [] (by omega) rfl rfl h;simp [Di,gQ,gP,aX,oK]at L1;simp;refine L1 _ ?_;clear L1;have L2:=fun p h Q hh=>Gm (H:=H) r htl p h Q r.aa.length 0 [] (by omega) rfl hh;simp [Dj,gQ,gP,aX,oK]at L2;simp;have L3:=L2 (r.ae.map (·.cell)) (r.ae.map fun _=>empty);simp at L3;refine L3 _ ?_;clear L2 L3;simp;obtain⟨a1,h1⟩: ∃a1,r.ae.map (aD ∘ fun x=>x.cell)=a1:=⟨_,rfl⟩;obtain⟨a2,h2⟩: ∃a2,r.ae.map (aI.row ∘ fun _=>empty)=a2:=⟨_,rfl⟩;obtain⟨a3,h3⟩: ∃a3,r.aa.map (br.row ∘ eV)=a3:=⟨_,rfl⟩;rw [h1,h2,h3];generalize hx:dB.box [.pure (.int .i64 r.wide), .pure (.int .i64 r.deep), .pure (.slice (r.ae.map aV.row)), .pure (.slice (r.aa.map a8.row)), .pure (.slice (r.seen.map aD)), .pure (.slice (r.a7.map aD)), .pure (.slice (r.aj.map au.row)),dh (H.length,23) 1 a1,dh (H.length,31) 2 a2,dh (H.length,51) 2 a3]=x;obtain⟨y,hy⟩: ∃y,dB.box [.pure (.int .i64 r.wide), .pure (.int .i64 r.deep), .pure (.slice (r.ae.map aV.row)), .pure (.slice (r.aa.map a8.row)), .pure (.slice (r.seen.map aD)), .pure (.slice (r.a7.map aD)), .pure (.slice (r.aj.map au.row))]=y:=⟨_,rfl⟩;rw [hy];obtain⟨F,hF⟩: ∃F,fD 51 2 a3 (fD 31 2 a2 (fD 23 1 a1 [(1,y),(2,x),(3,x)]))=F:=⟨_,rfl⟩;have g1:a1≠[]→F.get 23=some (.arr 1 a1 0 false):=fun h=>(by rw [←hF,bO (by decide),bO (by decide),dH h]);have g2:a2≠[]→F.get 31=some (.arr 2 a2 0 false):=fun h=>(by rw [←hF,bO (by decide),dH h]);have g3:a3≠[]→F.get 51=some (.arr 2 a3 0 false):=fun h=>(by rw [←hF,dH h]);rw [hF,ah (by simp),fP];have lt:H.length-1<H.length:=(by omega);rw [mG];have ci: ∀rows:List (List PV),cg (if rows=[]then .aS else .pure (.slice rows))= .pure (.slice rows):=fun rows=>by
  split
  ·rename_i h;subst h;rfl
  ·rfl
 have e:canon (cR ([.pure (.int .i64 r.wide), .pure (.int .i64 r.deep), .pure (.slice (r.ae.map aV.row)), .pure (.slice (r.aa.map a8.row)), .pure (.slice (r.seen.map aD)), .pure (.slice (r.a7.map aD)), .pure (.slice (r.aj.map au.row)),dh (H.length,23) 1 a1,dh (H.length,31) 2 a2,dh (H.length,51) 2 a3].map (cz (F::H) (H.length-1))))= .pure (.agg (aP r (aL r))):=by
  refine mU ?_;simp only [List.map_cons,List.map_nil,lP,fE rfl lt g1,fE rfl lt g2,fE rfl lt g3,ci];simp [aP,aL,←h1,←h2,←h3,cg]
 rw [e]
end
section
variable {c:Nat} {H:ai}
def kE (tk:List (Int×Int)):List (PV×GV):=tk.map fun x=>(.agg [.int .i64 x.1, .int .i64 x.2], .pure (.bool true))
theorem m9 (a b : Int) : ∀ (tk : List (Int × Int)) (i : Nat), cG (.agg [.int .i64 a, .int .i64 b]) (kE tk) i = some (if (a, b) ∈ tk then some (i + tk.idxOf (a, b), .pure (.bool true)) else none)
  | [], i => by simp [kE, cG]
  | (p, q) :: tk, i => by
    have ih := m9 a b tk (i + 1)
    unfold kE at ih ⊢
    rw [List.map_cons]
    unfold cG
    by_cases h : a = p ∧ b = q
    · obtain ⟨rfl, rfl⟩ := h
      simp [om, jo]
    · have h' : (a == p && b == q) = false := by
        rw [Bool.and_eq_false_iff]
        by_cases e : a = p
        · right; simpa using fun e2 => h ⟨e, e2⟩
        · left; simpa using e
      have hne : ¬ (a, b) = (p, q) := fun e => h ⟨(Prod.mk.inj e).1, (Prod.mk.inj e).2⟩
      have hne' : ¬ (p, q) = (a, b) := fun e => hne e.symm
      simp only [om, jo, if_true, Bool.and_true, h', ih, List.mem_cons, hne, false_or]
      have hb : ((p, q) == (a, b)) = false := by simpa using hne'
      simp only [List.idxOf_cons, hb, cond_false, Option.some.injEq]
      by_cases hm : (a, b) ∈ tk
      · simp [hm]; omega
      · simp [hm]
def wm (tk:List (Int×Int))(x:Int×Int):List (Int×Int):=if x∈tk then tk else tk++[x]
theorem I5 {tk:List (Int×Int)}{x y:Int×Int}:y∈wm tk x↔y∈tk∨y=x:=by
 unfold wm;split
 ·rename_i h;constructor
  ·exact .inl
  ·rintro(h'|rfl)
   ·exact h'
   ·exact h
 ·simp
def fU (tk l:List (Int×Int)):List (Int×Int):=l.foldl wm tk
theorem pE {y:Int×Int}: ∀{l tk:List (Int×Int)},y∈fU tk l↔y∈tk∨y∈l
 | [],tk=>by simp [fU]
 |x::l,tk=>by
  show y∈fU (wm tk x) l↔_
  rw [pE,I5];simp only [List.mem_cons];constructor
  ·rintro((h|h)|h)
   ·exact .inl h
   ·exact .inr (.inl h)
   ·exact .inr (.inr h)
  ·rintro(h|h|h)
   ·exact .inl (.inl h)
   ·exact .inl (.inr h)
   ·exact .inr h
theorem I6 {tk:List (Int×Int)}{a b:Int}(h:(a,b)∈tk):(kE tk).set (tk.idxOf (a,b)) (.agg [.int .i64 a, .int .i64 b], .pure (.bool true))=kE tk:=by
 have hl:tk.idxOf (a,b)<tk.length:=List.idxOf_lt_length_iff.2 h;unfold kE;refine List.ext_getElem (by simp) fun j h1 h2=> ?_;rw [List.getElem_set];split
 ·rename_i e;subst e;simp [List.getElem_idxOf]
 ·rfl
theorem I7 {tk:List (Int×Int)}{a b:Int}:kE tk++[(.agg [.int .i64 a, .int .i64 b], .pure (.bool true))]=kE (tk++[(a,b)]):=by simp [kE]
structure MF (F:Fr)(r:aC)(s:ay)(tk:List (Int×Int)):Prop where
 g2:F.get 2=some (bL r s)
 g4:F.get 4=some oK
 gm:F.get 18=some (.map (kE tk))
theorem yj {F:Fr}{r:aC}{s:ay}{tk:List (Int×Int)}(hF:MF F r s tk)(a:au)(g:List au)(n i:Nat)(l:List (Int×Int))(hl:l.length≤1000)(Q:GX→bM→Prop): ∀k j:Nat,j+k=l.length→
  ((∀x∈l.drop j,x∉tk)→Q (.exit 2) ⟨[(2, .aA (H.length,2) 0),(4, .aA (H.length,4) 0),(5,aO),(6,aO),(7, .aA (H.length,7) 0),(8, .map (H.length,18)),(10, .aA (H.length+1,10) 0),(11, .pure (.slice (l.map dE))),(19, .pure (.slice (g.map au.row))),(20, .pure (.int .i64 n)),(21, .pure (.int .i64 i))],[(10,bU a)]::F::H,65⟩)→
  (¬(∀x∈l.drop j,x∉tk)→Q .ret ⟨[(2, .aA (H.length,2) 0),(4, .aA (H.length,4) 0),(5, .pure (.int .i64 i)),(6, .pure (.int .i64 12)),(7, .aA (H.length,7) 0),(8, .map (H.length,18)),(10, .aA (H.length+1,10) 0),(11, .pure (.slice (l.map dE))),(19, .pure (.slice (g.map au.row))),(20, .pure (.int .i64 n)),(21, .pure (.int .i64 i))],[(10,bU a)]::F.ins 4 (bL r s)::H,65⟩)→
  gZ KC aw 118 (lp Tryz.f118 1) [2,4,7,8,9,10,11,19,20,21,35,36,37] [2,4,5,6,7,8,10,11,19,20,21] Q
   [(2, .aA (H.length,2) 0),(4, .aA (H.length,4) 0),(7, .aA (H.length,7) 0),(8, .map (H.length,18)),(9, .pure (.int .i64 i)),(10, .aA (H.length+1,10) 0),(11, .pure (.slice (l.map dE))),(19, .pure (.slice (g.map au.row))),(20, .pure (.int .i64 n)),(21, .pure (.int .i64 i)),(35, .pure (.slice (l.map dE))),(36, .pure (.int .i64 l.length)),(37, .pure (.int .i64 j))] ([(10,bU a)]::F::H) 65:=by
 have g2:=hF.g2;have g4:=hF.g4;have gm:=hF.gm;intro k
 induction k with
 |zero=>
  intro j hj h1 h2;apply az;conv=>arg 4;whnf
  have hnl: ¬j<l.length:=(by omega);have e:l.drop j=[]:=List.drop_of_length_le (by omega);simp [hnl];simpa [bU]using h1 (by rw [e];simp)
 |succ k ih=>
  intro j hj h1 h2;have hja:j<l.length:=(by omega);have hw:=c8 (x:=(j:Int)+1) (by omega) (by omega);have ed:l.drop j=l[j]::l.drop (j+1):=List.drop_eq_getElem_cons hja;have ne: ¬H.length=H.length+1:=(by omega);simp only [bL]at g2;simp only [oK]at g4;apply az;conv=>arg 4;whnf
  by_cases hm:l[j]∈tk
  ·have hm':(l[j].1,l[j].2)∈tk:=hm;have h2':=h2 (fun h=>h l[j] (by rw [ed];exact List.mem_cons_self ..) hm);simp only [bL,bU]at h2';simp [hja,dE,gm,m9,hm',mapOf,ne,g2,g4,aH,bU];exact h2'
  ·have hm': ¬(l[j].1,l[j].2)∈tk:=hm;have ih':=ih (j+1) (by omega) (fun h=>h1 fun x hx=>by
    rw [ed]at hx;rcases List.mem_cons.1 hx with rfl|hx
    ·exact hm
    ·exact h x hx) (fun h=>h2 fun h'=>h fun x hx=>h' x (by rw [ed];exact List.mem_cons_of_mem _ hx))
   simp [hja,dE,gm,m9,hm',mapOf,ne,hw,bU];simpa [dE,bU]using ih'
theorem Bm {a:au}(g:List au)(n i:Nat)(l:List (Int×Int))(hl:l.length≤1000)(Q:GX→bM→Prop): ∀(k j:Nat) (F:Fr) (tk:List (Int×Int)),j+k=l.length→F.ji→F.get 18=some (.map (kE tk))→
  Q (.exit 4) ⟨[(2, .aA (H.length,2) 0),(4, .aA (H.length,4) 0),(7, .aA (H.length,7) 0),(8, .map (H.length,18)),(10, .aA (H.length+1,10) 0),(19, .pure (.slice (g.map au.row))),(20, .pure (.int .i64 n)),(21, .pure (.int .i64 i))],[(10,bU a)]::F.ins 18 (.map (kE (fU tk (l.drop j))))::H,65⟩→
  gZ KC aw 118 (lp Tryz.f118 2) [2,4,7,8,10,19,20,21,47,48,49] [2,4,7,8,10,19,20,21] Q
   [(2, .aA (H.length,2) 0),(4, .aA (H.length,4) 0),(7, .aA (H.length,7) 0),(8, .map (H.length,18)),(10, .aA (H.length+1,10) 0),(19, .pure (.slice (g.map au.row))),(20, .pure (.int .i64 n)),(21, .pure (.int .i64 i)),(47, .pure (.slice (l.map dE))),(48, .pure (.int .i64 l.length)),(49, .pure (.int .i64 j))] ([(10,bU a)]::F::H) 65:=by
 intro k
 induction k with
 |zero=>
  intro j F tk hj hs gm h1;apply az;conv=>arg 4;whnf
  have hnl: ¬j<l.length:=(by omega);have e:l.drop j=[]:=List.drop_of_length_le (by omega);rw [e,show fU tk []=tk from rfl,Fr.rV hs gm]at h1
  simp only [bU]at h1;simp [hnl,bU];exact h1
 |succ k ih=>
  intro j F tk hj hs gm h1;have hja:j<l.length:=(by omega);have hw:=c8 (x:=(j:Int)+1) (by omega) (by omega);have ed:l.drop j=l[j]::l.drop (j+1):=List.drop_eq_getElem_cons hja;have ne: ¬H.length=H.length+1:=(by omega);rw [ed,show fU tk (l[j]::l.drop (j+1))=fU (wm tk l[j]) (l.drop (j+1))from rfl]at h1
  have ih':=ih (j+1) (F.ins 18 (.map (kE (wm tk l[j])))) (wm tk l[j]) (by omega) (Fr.dZ hs) (Fr.bc ..) (by rw [Fr.cP];exact h1);apply az;conv=>arg 4;whnf
  by_cases hm:l[j]∈tk
  ·have hm':(l[j].1,l[j].2)∈tk:=hm;have e2:wm tk l[j]=tk:=(by unfold wm;rw [if_pos hm]);rw [e2]at ih';have e3:=I6 hm';simp [hja,dE,gm,m9,hm',ne,hw,bU,Zm,lz,e3];simpa [dE,bU]using ih'
  ·have hm': ¬(l[j].1,l[j].2)∈tk:=hm;have e2:wm tk l[j]=tk++[(l[j].1,l[j].2)]:=(by unfold wm;rw [if_neg hm]);rw [e2]at ih';simp [hja,dE,gm,m9,hm',ne,hw,bU,Zm,lz,I7];simpa [dE,bU]using ih'
end
section
variable {c:Nat} {H:ai}
noncomputable def cQ (r:aC)(s:ay):List au→List (Int×Int)→ay→Nat→ay×Int×Int
 | [],_,nx,_=>(nx,0,0)
 |a::g,tk,nx,i=>if bV r s a.aR.toNat a=false then (s,i,10)else if∀x∈eI s a.aR.toNat a,x∉tk then cQ r s g (fU tk (eI s a.aR.toNat a)) (dn nx a.aR.toNat a) (i+1)else (s,i,12)
theorem qT.after {r:aC}: ∀{p:List au} {s:ay} {a:au},fB r s→qT r s (p++[a])→fB r (kZ s p)∧bV r (kZ s p) a.aR.toNat a=true
 | [],s,a,hS,h=>⟨hS,(h.ab a (by simp)).2⟩
 |b::p,s,a,hS,h=>by
  obtain⟨h1,h2⟩:=h.tail hS;show fB r (kZ (dn s b.aR.toNat b) p)∧bV r (kZ (dn s b.aR.toNat b) p) a.aR.toNat a=true
  exact qT.after h1 h2
def w7 (s:ay)(p:List au)(tk:List (Int×Int)):Prop:= ∀x,x∈tk↔ ∃b∈p,x∈eI s b.aR.toNat b
theorem w7.snoc {s:ay}{p:List au}{tk:List (Int×Int)}{a:au}(h:w7 s p tk):w7 s (p++[a]) (fU tk (eI s a.aR.toNat a)):=fun x=>by
 rw [pE,h x];simp only [List.mem_append,List.mem_singleton];constructor
 ·rintro(⟨b,hb,hx⟩|hx)
  ·exact⟨b, .inl hb,hx⟩
  ·exact⟨a, .inr rfl,hx⟩
 ·rintro⟨b,hb|rfl,hx⟩
  ·exact .inl ⟨b,hb,hx⟩
  ·exact .inr hx
theorem qT.snoc {r:aC}{s:ay}{p:List au}{tk:List (Int×Int)}{a:au}(h:qT r s p)(ht:w7 s p tk)(hA:AB r a.aR.toNat a)(pa:bV r s a.aR.toNat a=true)(hd: ∀x∈eI s a.aR.toNat a,x∉tk):qT r s (p++[a]) where
 ab:=fun b hb=>by
  rcases List.mem_append.1 hb with hb|hb
  ·exact h.ab b hb
  ·simp only [List.mem_singleton]at hb;subst hb;exact⟨hA,pa⟩
 ap:=by
  rw [List.pairwise_append];refine⟨h.ap,List.pairwise_singleton ..,fun b hb x hx=> ?_⟩;simp only [List.mem_singleton]at hx;subst hx;exact(vd.2 fun y h1 h2=>hd y h2 ((ht y).2 ⟨b,hb,h1⟩))
def I8 (k:Nat):Nat:=136+2*(k-1)
theorem Tm {r:aC}{s:ay}{w:Nat}{a:au}{n1 n2 n3:Nm}{v1 v2 v3:Nat}(h:mh H n1 n2 n3 v1 v2 v3 s)(hb:Fi s w a)(hst: ∀t:Nat,t<s.aa.length→0≤(s.aa.getD t aQ).state∧(s.aa.getD t aQ).state<16)(hH:0<H.length):LG H (I8 a.kind.toNat) r n1 n2 n3 s w a c:=by
 obtain⟨d1,d2,d3,d4,d5,d6,d7,d8⟩:=Tn (r:=r) (c:=c) h hb hst hH;rcases nJ hb.kind with k|k|k|k|k|k|k|k
 ·rw [show I8 a.kind.toNat=136 by rw [k];rfl];exact d1 k
 ·rw [show I8 a.kind.toNat=138 by rw [k];rfl];exact d2 k
 ·rw [show I8 a.kind.toNat=140 by rw [k];rfl];exact d3 k
 ·rw [show I8 a.kind.toNat=142 by rw [k];rfl];exact d4 k
 ·rw [show I8 a.kind.toNat=144 by rw [k];rfl];exact d5 k
 ·rw [show I8 a.kind.toNat=146 by rw [k];rfl];exact d6 k
 ·rw [show I8 a.kind.toNat=148 by rw [k];rfl];exact d7 k
 ·rw [show I8 a.kind.toNat=150 by rw [k];rfl];exact d8 k
def mA:Nat:=117469202
def nd:Nat:=117485586
def xg:Nat:=117501970
def LI (L:Nat)(r:aC)(s:ay):dB:= .box [.pure (.int .i64 r.wide), .pure (.int .i64 r.deep), .pure (.slice (r.ae.map aV.row)), .pure (.slice (r.aa.map a8.row)), .pure (.slice (r.seen.map aD)), .pure (.slice (r.a7.map aD)), .pure (.slice (r.aj.map au.row)), .bd (L,mA) 1 s.ae.length 0 s.ae.length, .bd (L,nd) 2 s.ao.length 0 s.ao.length, .bd (L,xg) 2 s.aa.length 0 s.aa.length]
structure MX (L:Nat)(F:Fr)(r:aC)(s:ay)(tk:List (Int×Int))(nx:ay):Prop extends MF F r s tk where
 ji:F.ji
 g7:F.get 7=some (LI L r nx)
 sc:SF F mA nd xg nx
theorem I9 {r:aC}{s:ay}(hS:fB r s)(hW:WB r)(aj:List au)(hal:aj.length≤1000000)(hA: ∀a∈aj,AB r a.aR.toNat a)(Q:GX→bM→Prop):
  ∀(k i:Nat) (F:Fr) (tk:List (Int×Int)) (nx:ay),i+k=aj.length→MX H.length F r s tk nx→w7 s (aj.take i) tk→qT r s (aj.take i)→nx=kZ s (aj.take i)→
  ((cQ r s (aj.drop i) tk nx i).2.2=0→ ∀F',(∃tk',MX H.length F' r s tk' (cQ r s (aj.drop i) tk nx i).1)→qT r s aj→(cQ r s (aj.drop i) tk nx i).1=kZ s aj→Q (.exit 0) ⟨[(4, .aA (H.length,4) 0),(5,aO),(6,aO),(7, .aA (H.length,7) 0)],F'::H,65⟩)→
  ((cQ r s (aj.drop i) tk nx i).2.2≠0→(cQ r s (aj.drop i) tk nx i).1=s→ ∀F',F'.get 4=some (bL r s)→Q .ret ⟨[(4, .aA (H.length,4) 0),(5, .pure (.int .i64 (cQ r s (aj.drop i) tk nx i).2.1)),(6, .pure (.int .i64 (cQ r s (aj.drop i) tk nx i).2.2)),(7, .aA (H.length,7) 0)],F'::H,65⟩)→
  gZ KC aw 118 (lp Tryz.f118 0) [2,4,7,8,19,20,21] [4,5,6,7] Q
   [(2, .aA (H.length,2) 0),(4, .aA (H.length,4) 0),(7, .aA (H.length,7) 0),(8, .map (H.length,18)),(19, .pure (.slice (aj.map au.row))),(20, .pure (.int .i64 aj.length)),(21, .pure (.int .i64 i))] (F::H) 65:=by
 intro k
 induction k with
 |zero=>
  intro i F tk nx hi hF hT hG hnx h1 h2;apply az;conv=>arg 4;whnf
  have hnl: ¬i<aj.length:=(by omega);have e:aj.drop i=[]:=List.drop_of_length_le (by omega);have et:aj.take i=aj:=List.take_of_length_le (by omega);rw [e]at h1;simp [hnl];exact h1 rfl F ⟨tk,hF⟩ (et▸hG) (by show nx=_;rw [hnx,et])
 |succ k ih=>
  intro i F tk nx hi hF hT hG hnx h1 h2;have hia:i<aj.length:=(by omega);have hw:=c8 (x:=(i:Int)+1) (by omega) (by omega);have ed:aj.drop i=aj[i]::aj.drop (i+1):=List.drop_eq_getElem_cons hia;have et:aj.take (i+1)=aj.take i++[aj[i]]:=List.take_succ_eq_append_getElem hia;have ne: ¬H.length=H.length+1:=(by omega);obtain⟨a,ha⟩: ∃a,aj[i]=a:=⟨_,rfl⟩;have hAa:AB r a.aR.toNat a:=hA a (ha▸List.getElem_mem hia);obtain⟨w,hwq⟩: ∃w,a.aR.toNat=w:=⟨_,rfl⟩;rw [ha]at ed et;rw [ed]at h1 h2;unfold cQ at h1 h2;have g2:=hF.g2;have g4:=hF.g4;have g7:=hF.g7;have M:=fun c (H:ai) (hH:0<H.length)=>yM (c:=c) (H:=H) hS hW hAa hH;have T:=fun c (H:ai) (hH:0<H.length)=>ud (c:=c) (H:=H) hS hAa hH;have hAk:=hAa.kind;have kk:((a.kind.toNat:Nat):Int)=a.kind:=(by omega);have W:=fun c (H:ai) (hH:0<H.length)=>Dk (c:=c) (H:=H) (k:=a.kind.toNat) (by omega) hH;rw [kk]at W;apply az;conv=>arg 4;whnf
  cases hp:bV r s a.aR.toNat a with
  |false=>
   rw [hp]at M;simp only [hp,if_true]at h2;have h2':=h2 (by decide) trivial (F.ins 4 (bL r s)) (Fr.bc ..);rw [bH]at M;simp only [bL]at g2 h2';simp only [oK]at g4;simp only [aP]at M;simp [hia,ha,bH,ne,g2,g4,M,aH];exact h2'
  |true=>
   rw [hp]at M;obtain⟨l,hl⟩: ∃l,eI s a.aR.toNat a=l:=⟨_,rfl⟩;have hll:l.length≤1000:=by
    rw [←hl];unfold eI
    repeat' split
    all_goals simp
   rw [hl]at T h1 h2;simp only [hp,Bool.true_eq_false,if_false]at h1 h2;have L1:=fun Q=>yj (H:=H) hF.toMF a aj aj.length i l hll Q l.length 0 (by omega);simp only [List.drop_zero,bU]at L1;have hF1s:(F.ins 18 (.map (kE (fU tk l)))).ji:=Fr.dZ hF.ji;rw [bH]at M T;simp only [bL]at g2;simp only [oK]at g4;simp only [aP]at M T;simp [hia,ha,bH,ne,g2,g4,M,T];refine L1 _ (fun hfr=> ?_) (fun hfr=> ?_)
   ·clear L1;rw [if_pos hfr]at h1 h2;have hGs:qT r s (aj.take (i+1)):=(by rw [et];exact hG.snoc hT hAa hp (by rw [hl];exact hfr));have hTs:w7 s (aj.take (i+1)) (fU tk l):=(by rw [et,←hl];exact hT.snoc);have aft:=(qT.after hS (et▸hGs):fB r (kZ s (aj.take i))∧_);rw [←hnx]at aft;have hD:=o6 aft.1 hAa aft.2;have L2:=fun Q=>Bm (H:=H) (a:=a) aj aj.length i l hll Q l.length 0 F tk (by omega) hF.ji hF.gm;simp only [List.drop_zero,bU]at L2;simp [ne];refine L2 _ ?_;clear L2;have q12:mA≠nd:=(by decide);have q13:mA≠xg:=(by decide);have q23:nd≠xg:=(by decide);have e1: ∀k,k≠18→(F.ins 18 (.map (kE (fU tk l)))).get k=F.get k:=fun k hk=>Fr.ax _ hk _;have sc1:SF (F.ins 18 (.map (kE (fU tk l)))) mA nd xg nx:=hF.sc.other (e1 _ (by decide)) (e1 _ (by decide)) (e1 _ (by decide));have g71:=(e1 7 (by decide)).trans g7;have gm1:(F.ins 18 (.map (kE (fU tk l)))).get 18=some (.map (kE (fU tk l))):=Fr.bc ..;have g21:=(e1 2 (by decide)).trans hF.g2;have g41:=(e1 4 (by decide)).trans hF.g4;generalize F.ins 18 (.map (kE (fU tk l)))=F1 at hF1s sc1 g71 gm1 g21 g41⊢;obtain⟨u1,u2,u3,SS⟩:=sc1.self (f0:=[(10,bU a)]) (H:=H) hF1s q12 q13 q23;obtain⟨v1,v2,v3,b1,b2,b3,ed'⟩:=Tm (r:=r) (c:=62) SS hD aft.1.st (by simp);have LD:=kD (s:=nx) (w:=a.aR.toNat) hAk;obtain⟨F2,hF2⟩: ∃F2,((F1.ins mA (.arr 1 ((dn nx a.aR.toNat a).ae.map aD) v1 false)).ins nd (.arr 2 ((dn nx a.aR.toNat a).ao.map aI.row) v2 false)).ins xg (.arr 2 ((dn nx a.aR.toNat a).aa.map br.row) v3 false)=F2:=⟨_,rfl⟩;have hsc:cu ([(10,bU a)]::F1::H) (H.length,mA) (H.length,nd) (H.length,xg) v1 v2 v3 (dn nx a.aR.toNat a)=[(10,bU a)]::F2::H:=by
     rw [←hF2];simp [cu,ne]
    rw [hsc]at ed';have o2: ∀k,k≠mA→k≠nd→k≠xg→F2.get k=F1.get k:=fun k h1 h2 h3=>(by rw [←hF2,Fr.ax _ h3,Fr.ax _ h2,Fr.ax _ h1]);have enx:LI H.length r (dn nx a.aR.toNat a)=LI H.length r nx:=by simp only [LI,LD]
    have MX2:MX H.length F2 r s (fU tk l) (dn nx a.aR.toNat a):={
     g2:=(o2 2 (by decide) (by decide) (by decide)).trans g21
     g4:=(o2 4 (by decide) (by decide) (by decide)).trans g41
     gm:=(o2 18 (by decide) (by decide) (by decide)).trans gm1
     ji:=by rw [←hF2];exact Fr.dZ (Fr.dZ (Fr.dZ hF1s))
     g7:=by rw [enx];exact(o2 7 (by decide) (by decide) (by decide)).trans g71
     sc:=⟨⟨v1,by omega,by rw [←hF2,Fr.ax _ q13,Fr.ax _ q12,Fr.bc]⟩,⟨v2,by omega,by rw [←hF2,Fr.ax _ q23,Fr.bc]⟩,⟨v3,by omega,by rw [←hF2,Fr.bc]⟩⟩}
    have ih':=ih (i+1) F2 (fU tk l) (dn nx a.aR.toNat a) (by omega) MX2 hTs hGs (by rw [hnx,et,iS];rfl) h1 h2;rw [bH]at ed';simp only [LI]at g71;simp only [tw,bU,I8]at ed';simp [ne,g71,W,ed',hw,I8];simpa using ih'
   ·clear L1;rw [if_neg hfr]at h2;have h2':=h2 (show (12:Int)≠0 by decide) rfl (F.ins 4 (bL r s)) (Fr.bc ..)
    simp only [bL]at h2'⊢;simp;exact h2'
end
section
variable {c:Nat} {H:ai}
theorem Ew {r:aC}{s:ay}{g:List au}(hS:fB r s)(hG:qT r s g):(kZ s g).ae.length=s.ae.length∧(kZ s g).ao.length=s.ao.length∧(kZ s g).aa.length=s.aa.length:=by
 have a:=hG.snd hS;exact⟨a.pl.trans hS.pl.symm,a.hl.trans hS.hl.symm,a.tl.trans hS.tl.symm⟩
theorem zw {r:aC}{s:ay}: ∀{g:List au} {tk:List (Int×Int)} {nx:ay} {i:Nat},(cQ r s g tk nx i).2.2=0→(cQ r s g tk nx i).2.1=0
 | [],_,_,_,_=>rfl
 |a::g,tk,nx,i,h=>by
  unfold cQ at h⊢;split at h
  ·simp at h
  ·rename_i h1;split at h
   ·rename_i h2;rw [if_neg h1,if_pos h2];exact zw h
   ·simp at h
theorem Dl {r:aC}{s:ay}(hS:fB r s)(hW:WB r)(hFu:Full s)(ht0:s.aa≠[])(aj:List au)(hal:aj.length≤1000000)(hA: ∀a∈aj,AB r a.aR.toNat a)(hH:0<H.length):
  aN KC (aF KC) 118 [.pure (.agg (aP r s)), .pure (.slice (aj.map au.row))] c H=
   some (.pure (.tuple [.agg (aP r (cQ r s aj [] s 0).1), .int .i64 (cQ r s aj [] s 0).2.1, .int .i64 (cQ r s aj [] s 0).2.2]),H):=by
 refine aM (ba KC aw Tryz.func118 rfl rfl Ex rfl rfl rfl (by simp) hH ?_);have k1:ak 17 28679=mA:=(by decide);have k2:ak 17 28683=nd:=(by decide);have k3:ak 17 28687=xg:=(by decide);have C:=xv (c:=17) (H:=[(2,bL r s),(4,oK)]::H) r hFu ht0 (by simp) (by simp [k1,mA]) (by simp [k2,nd]) (by simp [k3,xg]);simp only [List.length_cons,Nat.add_sub_cancel,k1,k2,k3]at C;obtain⟨F0,hF0⟩: ∃F0:Fr,[(2,bL r s),(4,oK),(mA, .arr 1 (s.ae.map aD) 0 false),(nd, .arr 2 (s.ao.map aI.row) 0 false),(xg, .arr 2 (s.aa.map br.row) 0 false)]=F0:=⟨_,rfl⟩;have hC:cu ([(2,bL r s),(4,oK)]::H) (H.length,mA) (H.length,nd) (H.length,xg) 0 0 0 s=F0::H:=by
  rw [←hF0];simp [cu,mA,nd,xg]
 rw [hC]at C;obtain⟨F1,hF1⟩: ∃F1,(F0.ins 7 (LI H.length r s)).ins 18 (.map [])=F1:=⟨_,rfl⟩;have f07:F0.get 7=none:=(by rw [←hF0];simp [mA,nd,xg]);have f018:F0.get 18=none:=(by rw [←hF0];simp [mA,nd,xg]);have o1: ∀k,k≠7→k≠18→F1.get k=F0.get k:=fun k h1 h2=>by rw [←hF1,Fr.ax _ h2,Fr.ax _ h1]
 have MX1:MX H.length F1 r s [] s:={
  g2:=(o1 2 (by decide) (by decide)).trans (by rw [←hF0];simp)
  g4:=(o1 4 (by decide) (by decide)).trans (by rw [←hF0];simp)
  gm:=by rw [←hF1,Fr.bc];rfl
  ji:=by
   rw [←hF1];refine Fr.dZ (Fr.dZ ?_);rw [←hF0];simp [Fr.ji,mA,nd,xg]
  g7:=by rw [←hF1,Fr.ax _ (by decide),Fr.bc]
  sc:=⟨⟨0,Nat.zero_le _,(o1 _ (by decide) (by decide)).trans (by rw [←hF0];simp [mA,nd,xg])⟩,⟨0,Nat.zero_le _,(o1 _ (by decide) (by decide)).trans (by rw [←hF0];simp [mA,nd,xg])⟩,⟨0,Nat.zero_le _,(o1 _ (by decide) (by decide)).trans (by rw [←hF0];simp [mA,nd,xg])⟩⟩}
 have L1:=fun Q=>I9 (H:=H) hS hW aj hal hA Q aj.length 0 F1 [] s (by omega) MX1 (fun x=>by simp) ⟨fun a ha=>by simp at ha,by simp⟩ rfl;simp only [List.drop_zero]at L1;simp only [aP,tw,bL,oK]at C;have f018':(F0.ins 7 (LI H.length r s)).get 18=none:=(Fr.ax _ (by decide) _).trans f018;simp only [LI]at hF1 f018';unfold aP;simp [C,f07,f018',Fr.bc,Fr.cP,hF1];refine L1 _ (fun he F' hF' hG hm=> ?_) (fun he hm F' h4=> ?_)
 ·obtain⟨tk',hF'⟩:=hF';have g7:=hF'.g7;have g4:=hF'.g4;have LL:=Ew hS hG;rw [hm]at hF' g7;obtain⟨v1,a1,b1⟩:=hF'.sc.h1;obtain⟨v2,a2,b2⟩:=hF'.sc.h2;obtain⟨v3,a3,b3⟩:=hF'.sc.h3;have o4: ∀(x:dB) (k:Nat),k≠4→(F'.ins 4 x).get k=F'.get k:=fun x k hk=>Fr.ax _ hk _;have c1:=fun x=>(o4 x mA (by decide)).trans b1;have c2:=fun x=>(o4 x nd (by decide)).trans b2;have c3:=fun x=>(o4 x xg (by decide)).trans b3;have hat:=zw he;rw [hm];simp only [LI]at g7;simp only [oK]at g4;simp [g7,g4,aH,Fr.bc]
  have fin: ∀x,fY KC 118 c (.tuple [.agg [.pure (.int .i64 r.wide), .pure (.int .i64 r.deep), .pure (.slice (r.ae.map aV.row)), .pure (.slice (r.aa.map a8.row)), .pure (.slice (r.seen.map aD)), .pure (.slice (r.a7.map aD)), .pure (.slice (r.aj.map au.row)), .bd (H.length,mA) 1 (kZ s aj).ae.length 0 (kZ s aj).ae.length, .bd (H.length,nd) 2 (kZ s aj).ao.length 0 (kZ s aj).ao.length, .bd (H.length,xg) 2 (kZ s aj).aa.length 0 (kZ s aj).aa.length], .pure (.int .i64 0), .pure (.int .i64 0)]) (F'.ins 4 x::H)=
    some (.pure (.tuple [.agg (aP r (kZ s aj)), .int .i64 0, .int .i64 0]),H):=fun x=>by
   have d1:=c1 x;have d2:=c2 x;have d3:=c3 x;generalize F'.ins 4 x=F5 at d1 d2 d3;have hnl: ¬H.length≤H.length-1:=(by omega);rw [ah (by simp)];simp [hnl,d1,d2,d3,a1,a2,a3,aP];exact⟨List.take_of_length_le (by simp),List.take_of_length_le (by simp),List.take_of_length_le (by simp)⟩
  rw [fin,fP,hat,he];simp only [aP]
 ·rw [hm];simp only [bL]at h4;simp [h4,ah]
end
section
variable {c:Nat} {H:ai}
theorem Tp {s:ay}{w:Nat}{a:au}(hb:Fi s w a)(h:s.aa=[]):a.kind=1:=by
 have hk:=hb.kind;have e:s.aa.length=0:=(by rw [h];rfl);by_cases k1:a.kind=1
 ·exact k1
 ·by_cases k2:a.kind=2
  ·obtain⟨t,_,ht⟩:=hb.take k2;omega
  ·obtain⟨t,_,ht⟩:=hb.held (by omega);omega
theorem LJ {r:aC}{s:ay}{w:Nat}{a:au}{n1 n2:Nm}{v1:Nat}(g1:H.get n1=some (.arr 1 (s.ae.map aD) v1 false))(e1:v1≤s.ae.length)(g2:n2.1<H.length)(hp:w<s.ae.length)(hwho:a.aR=w)(k:a.kind=1)(hH:0<H.length):
  aN KC (aF KC) 136 [Sa r n1 n2 s, .pure (.agg a.row)] c H=some (.pure (.tuple []),H.set n1 (.arr 1 ((dn s w a).ae.map aD) s.ae.length false)):=by
 have l1:=ai.bQ g1;have d1: ¬n1.1=H.length:=(by omega);have d2: ¬n2.1=H.length:=(by omega);have hd:=lT (s:=s) (w:=w) k;refine aM (bh KC aw Tryz.func136 rfl rfl Ey rfl rfl rfl (by simp) hH ?_);rw [bH];unfold Sa;simp [d1,d2,g1,e1,hp,hwho,aD,aH,ah,hd]
def LK (L:Nat)(r:aC)(s:ay):dB:= .box [.pure (.int .i64 r.wide), .pure (.int .i64 r.deep), .pure (.slice (r.ae.map aV.row)), .pure (.slice (r.aa.map a8.row)), .pure (.slice (r.seen.map aD)), .pure (.slice (r.a7.map aD)), .pure (.slice (r.aj.map au.row)), .bd (L,mA) 1 s.ae.length 0 s.ae.length, .bd (L,nd) 2 s.ao.length 0 s.ao.length, .aS]
structure ME (L:Nat)(F:Fr)(r:aC)(s:ay)(tk:List (Int×Int))(nx:ay):Prop extends MF F r s tk where
 ji:F.ji
 g7:F.get 7=some (LK L r nx)
 h1: ∃v,v≤nx.ae.length∧F.get mA=some (.arr 1 (nx.ae.map aD) v false)
 h2:F.get nd=some (.arr 2 (nx.ao.map aI.row) 0 false)
theorem Gn {r:aC}{s:ay}(ht0:r.aa=[])(hS:fB r s)(hW:WB r)(aj:List au)(hal:aj.length≤1000000)(hA: ∀a∈aj,AB r a.aR.toNat a)(Q:GX→bM→Prop):
  ∀(k i:Nat) (F:Fr) (tk:List (Int×Int)) (nx:ay),i+k=aj.length→ME H.length F r s tk nx→w7 s (aj.take i) tk→qT r s (aj.take i)→nx=kZ s (aj.take i)→
  ((cQ r s (aj.drop i) tk nx i).2.2=0→ ∀F',(∃tk',ME H.length F' r s tk' (cQ r s (aj.drop i) tk nx i).1)→qT r s aj→(cQ r s (aj.drop i) tk nx i).1=kZ s aj→Q (.exit 0) ⟨[(4, .aA (H.length,4) 0),(5,aO),(6,aO),(7, .aA (H.length,7) 0)],F'::H,65⟩)→
  ((cQ r s (aj.drop i) tk nx i).2.2≠0→(cQ r s (aj.drop i) tk nx i).1=s→ ∀F',F'.get 4=some (bL r s)→Q .ret ⟨[(4, .aA (H.length,4) 0),(5, .pure (.int .i64 (cQ r s (aj.drop i) tk nx i).2.1)),(6, .pure (.int .i64 (cQ r s (aj.drop i) tk nx i).2.2)),(7, .aA (H.length,7) 0)],F'::H,65⟩)→
  gZ KC aw 118 (lp Tryz.f118 0) [2,4,7,8,19,20,21] [4,5,6,7] Q
   [(2, .aA (H.length,2) 0),(4, .aA (H.length,4) 0),(7, .aA (H.length,7) 0),(8, .map (H.length,18)),(19, .pure (.slice (aj.map au.row))),(20, .pure (.int .i64 aj.length)),(21, .pure (.int .i64 i))] (F::H) 65:=by
 intro k
 induction k with
 |zero=>
  intro i F tk nx hi hF hT hG hnx h1 h2;apply az;conv=>arg 4;whnf
  have hnl: ¬i<aj.length:=(by omega);have e:aj.drop i=[]:=List.drop_of_length_le (by omega);have et:aj.take i=aj:=List.take_of_length_le (by omega);rw [e]at h1;simp [hnl];exact h1 rfl F ⟨tk,hF⟩ (et▸hG) (by show nx=_;rw [hnx,et])
 |succ k ih=>
  intro i F tk nx hi hF hT hG hnx h1 h2;have hia:i<aj.length:=(by omega);have hw:=c8 (x:=(i:Int)+1) (by omega) (by omega);have ed:aj.drop i=aj[i]::aj.drop (i+1):=List.drop_eq_getElem_cons hia;have et:aj.take (i+1)=aj.take i++[aj[i]]:=List.take_succ_eq_append_getElem hia;have ne: ¬H.length=H.length+1:=(by omega);obtain⟨a,ha⟩: ∃a,aj[i]=a:=⟨_,rfl⟩;have hAa:AB r a.aR.toNat a:=hA a (ha▸List.getElem_mem hia);obtain⟨w,hwq⟩: ∃w,a.aR.toNat=w:=⟨_,rfl⟩;rw [ha]at ed et;rw [ed]at h1 h2;unfold cQ at h1 h2;have g2:=hF.g2;have g4:=hF.g4;have g7:=hF.g7;have M:=fun c (H:ai) (hH:0<H.length)=>yM (c:=c) (H:=H) hS hW hAa hH;have T:=fun c (H:ai) (hH:0<H.length)=>ud (c:=c) (H:=H) hS hAa hH;have hAk:=hAa.kind;have kk:((a.kind.toNat:Nat):Int)=a.kind:=(by omega);have W:=fun c (H:ai) (hH:0<H.length)=>Dk (c:=c) (H:=H) (k:=a.kind.toNat) (by omega) hH;rw [kk]at W;apply az;conv=>arg 4;whnf
  cases hp:bV r s a.aR.toNat a with
  |false=>
   rw [hp]at M;simp only [hp,if_true]at h2;have h2':=h2 (by decide) trivial (F.ins 4 (bL r s)) (Fr.bc ..);rw [bH]at M;simp only [bL]at g2 h2';simp only [oK]at g4;simp only [aP]at M;simp [hia,ha,bH,ne,g2,g4,M,aH];exact h2'
  |true=>
   rw [hp]at M;obtain⟨l,hl⟩: ∃l,eI s a.aR.toNat a=l:=⟨_,rfl⟩;have hll:l.length≤1000:=by
    rw [←hl];unfold eI
    repeat' split
    all_goals simp
   rw [hl]at T h1 h2;simp only [hp,Bool.true_eq_false,if_false]at h1 h2;have L1:=fun Q=>yj (H:=H) hF.toMF a aj aj.length i l hll Q l.length 0 (by omega);simp only [List.drop_zero,bU]at L1;have hF1s:(F.ins 18 (.map (kE (fU tk l)))).ji:=Fr.dZ hF.ji;rw [bH]at M T;simp only [bL]at g2;simp only [oK]at g4;simp only [aP]at M T;simp [hia,ha,bH,ne,g2,g4,M,T];refine L1 _ (fun hfr=> ?_) (fun hfr=> ?_)
   ·clear L1;rw [if_pos hfr]at h1 h2;have hGs:qT r s (aj.take (i+1)):=(by rw [et];exact hG.snoc hT hAa hp (by rw [hl];exact hfr));have hTs:w7 s (aj.take (i+1)) (fU tk l):=(by rw [et,←hl];exact hT.snoc);have aft:=(qT.after hS (et▸hGs):fB r (kZ s (aj.take i))∧_);rw [←hnx]at aft;have hD:=o6 aft.1 hAa aft.2;have L2:=fun Q=>Bm (H:=H) (a:=a) aj aj.length i l hll Q l.length 0 F tk (by omega) hF.ji hF.gm;simp only [List.drop_zero,bU]at L2;simp [ne];refine L2 _ ?_;clear L2;have q12:mA≠nd:=(by decide);have q21:nd≠mA:=(by decide);have e1: ∀k,k≠18→(F.ins 18 (.map (kE (fU tk l)))).get k=F.get k:=fun k hk=>Fr.ax _ hk _;obtain⟨u1,w1,hh1⟩:=hF.h1;have hh1':=(e1 mA (by decide)).trans hh1;have hh2':=(e1 nd (by decide)).trans hF.h2;have g71:=(e1 7 (by decide)).trans g7;have gm1:(F.ins 18 (.map (kE (fU tk l)))).get 18=some (.map (kE (fU tk l))):=Fr.bc ..;have g21:=(e1 2 (by decide)).trans hF.g2;have g41:=(e1 4 (by decide)).trans hF.g4;generalize F.ins 18 (.map (kE (fU tk l)))=F1 at hF1s hh1' hh2' g71 gm1 g21 g41⊢;have hnt:nx.aa=[]:=List.eq_nil_of_length_eq_zero (by rw [aft.1.tl,ht0];rfl);have hk1:=Tp hD hnt;have ed':=LJ (H:=[(10,bU a)]::F1::H) (c:=62) (r:=r) (s:=nx) (w:=a.aR.toNat) (a:=a) (n1:=(H.length,mA)) (n2:=(H.length,nd)) (v1:=u1) (by simp [ne,hh1']) w1 (by simp;omega) hD.hp hD.aR hk1 (by simp);have LD:=kD (s:=nx) (w:=a.aR.toNat) hAk;have LH:(dn nx a.aR.toNat a).ao=nx.ao:=(by rw [lT hk1]);obtain⟨F2,hF2⟩: ∃F2,F1.ins mA (.arr 1 ((dn nx a.aR.toNat a).ae.map aD) nx.ae.length false)=F2:=⟨_,rfl⟩;have hsc:ai.set ([(10,bU a)]::F1::H) (H.length,mA) (.arr 1 ((dn nx a.aR.toNat a).ae.map aD) nx.ae.length false)=[(10,bU a)]::F2::H:=by
     rw [←hF2];simp [ne]
    rw [hsc]at ed';have o2: ∀k,k≠mA→F2.get k=F1.get k:=fun k h1=>(by rw [←hF2,Fr.ax _ h1]);have enx:LK H.length r (dn nx a.aR.toNat a)=LK H.length r nx:=by simp only [LK,LD]
    have MX2:ME H.length F2 r s (fU tk l) (dn nx a.aR.toNat a):={
     g2:=(o2 2 (by decide)).trans g21
     g4:=(o2 4 (by decide)).trans g41
     gm:=(o2 18 (by decide)).trans gm1
     ji:=by rw [←hF2];exact Fr.dZ hF1s
     g7:=by rw [enx];exact(o2 7 (by decide)).trans g71
     h1:=⟨nx.ae.length,by omega,by rw [←hF2,Fr.bc]⟩
     h2:=by rw [LH];exact(o2 nd q21).trans hh2'}
    have ih':=ih (i+1) F2 (fU tk l) (dn nx a.aR.toNat a) (by omega) MX2 hTs hGs (by rw [hnx,et,iS];rfl) h1 h2;rw [bH]at ed';simp only [LK]at g71;simp only [Sa,bU]at ed';rw [hk1]at ed';rw [hk1]at W;simp at W;simp [hk1,ne,g71,W,ed',hw];simpa using ih'
   ·clear L1;rw [if_neg hfr]at h2;have h2':=h2 (show (12:Int)≠0 by decide) rfl (F.ins 4 (bL r s)) (Fr.bc ..)
    simp only [bL]at h2'⊢;simp;exact h2'
theorem Dm {r:aC}{s:ay}(hS:fB r s)(hW:WB r)(hFu:Full s)(ht0:r.aa=[])(aj:List au)(hal:aj.length≤1000000)(hA: ∀a∈aj,AB r a.aR.toNat a)(hH:0<H.length):
  aN KC (aF KC) 118 [.pure (.agg (aP r s)), .pure (.slice (aj.map au.row))] c H=
   some (.pure (.tuple [.agg (aP r (cQ r s aj [] s 0).1), .int .i64 (cQ r s aj [] s 0).2.1, .int .i64 (cQ r s aj [] s 0).2.2]),H):=by
 refine aM (ba KC aw Tryz.func118 rfl rfl Ex rfl rfl rfl (by simp) hH ?_);have k1:ak 17 28679=mA:=(by decide);have k2:ak 17 28683=nd:=(by decide);have hst:s.aa=[]:=List.eq_nil_of_length_eq_zero (by rw [hS.tl,ht0];rfl);have C:=u4 (c:=17) (H:=[(2,bL r s),(4,oK)]::H) r hFu hst (by simp) (by simp [k1,mA]) (by simp [k2,nd]);simp only [List.length_cons,Nat.add_sub_cancel,k1,k2]at C;obtain⟨F0,hF0⟩: ∃F0:Fr,[(2,bL r s),(4,oK),(mA, .arr 1 (s.ae.map aD) 0 false),(nd, .arr 2 (s.ao.map aI.row) 0 false)]=F0:=⟨_,rfl⟩;have hC:ai.set (ai.set ([(2,bL r s),(4,oK)]::H) (H.length,mA) (.arr 1 (s.ae.map aD) 0 false)) (H.length,nd) (.arr 2 (s.ao.map aI.row) 0 false)=F0::H:=by
  rw [←hF0];simp [mA,nd]
 rw [hC]at C;obtain⟨F1,hF1⟩: ∃F1,(F0.ins 7 (LK H.length r s)).ins 18 (.map [])=F1:=⟨_,rfl⟩;have f07:F0.get 7=none:=(by rw [←hF0];simp [mA,nd]);have f018:F0.get 18=none:=(by rw [←hF0];simp [mA,nd]);have o1: ∀k,k≠7→k≠18→F1.get k=F0.get k:=fun k h1 h2=>by rw [←hF1,Fr.ax _ h2,Fr.ax _ h1]
 have MX1:ME H.length F1 r s [] s:={
  g2:=(o1 2 (by decide) (by decide)).trans (by rw [←hF0];simp)
  g4:=(o1 4 (by decide) (by decide)).trans (by rw [←hF0];simp)
  gm:=by rw [←hF1,Fr.bc];rfl
  ji:=by
   rw [←hF1];refine Fr.dZ (Fr.dZ ?_);rw [←hF0];simp [Fr.ji,mA,nd]
  g7:=by rw [←hF1,Fr.ax _ (by decide),Fr.bc]
  h1:=⟨0,Nat.zero_le _,(o1 _ (by decide) (by decide)).trans (by rw [←hF0];simp [mA,nd])⟩
  h2:=(o1 _ (by decide) (by decide)).trans (by rw [←hF0];simp [mA,nd])}
 have L1:=fun Q=>Gn (H:=H) ht0 hS hW aj hal hA Q aj.length 0 F1 [] s (by omega) MX1 (fun x=>by simp) ⟨fun a ha=>by simp at ha,by simp⟩ rfl;simp only [List.drop_zero]at L1;simp only [aP,Sa,bL,oK]at C;have f018':(F0.ins 7 (LK H.length r s)).get 18=none:=(Fr.ax _ (by decide) _).trans f018;simp only [LK]at hF1 f018';unfold aP;simp [C,f07,f018',Fr.bc,Fr.cP,hF1];refine L1 _ (fun he F' hF' hG hm=> ?_) (fun he hm F' h4=> ?_)
 ·obtain⟨tk',hF'⟩:=hF';have g7:=hF'.g7;have g4:=hF'.g4;have LL:=Ew hS hG;rw [hm]at hF' g7;obtain⟨v1,a1,b1⟩:=hF'.h1;have b2:=hF'.h2;have hft:(kZ s aj).aa=[]:=List.eq_nil_of_length_eq_zero (by rw [LL.2.2,hst];rfl);have o4: ∀(x:dB) (k:Nat),k≠4→(F'.ins 4 x).get k=F'.get k:=fun x k hk=>Fr.ax _ hk _;have c1:=fun x=>(o4 x mA (by decide)).trans b1;have c2:=fun x=>(o4 x nd (by decide)).trans b2;have hat:=zw he;rw [hm];simp only [LK]at g7;simp only [oK]at g4;simp [g7,g4,aH,Fr.bc]
  have fin: ∀x,fY KC 118 c (.tuple [.agg [.pure (.int .i64 r.wide), .pure (.int .i64 r.deep), .pure (.slice (r.ae.map aV.row)), .pure (.slice (r.aa.map a8.row)), .pure (.slice (r.seen.map aD)), .pure (.slice (r.a7.map aD)), .pure (.slice (r.aj.map au.row)), .bd (H.length,mA) 1 (kZ s aj).ae.length 0 (kZ s aj).ae.length, .bd (H.length,nd) 2 (kZ s aj).ao.length 0 (kZ s aj).ao.length, .aS], .pure (.int .i64 0), .pure (.int .i64 0)]) (F'.ins 4 x::H)=
    some (.pure (.tuple [.agg (aP r (kZ s aj)), .int .i64 0, .int .i64 0]),H):=fun x=>by
   have d1:=c1 x;have d2:=c2 x;generalize F'.ins 4 x=F5 at d1 d2;have hnl: ¬H.length≤H.length-1:=(by omega);rw [ah (by simp)];simp [hnl,d1,d2,a1,aP,hft];exact⟨List.take_of_length_le (by simp),List.take_of_length_le (by simp)⟩
  rw [fin,fP,hat,he];simp only [aP]
 ·rw [hm];simp only [bL]at h4;simp [h4,ah]
theorem xI {r:aC}{s:ay}(hS:fB r s)(hW:WB r)(hFu:Full s)(aj:List au)(hal:aj.length≤1000000)(hA: ∀a∈aj,AB r a.aR.toNat a)(hH:0<H.length):
  aN KC (aF KC) 118 [.pure (.agg (aP r s)), .pure (.slice (aj.map au.row))] c H=
   some (.pure (.tuple [.agg (aP r (cQ r s aj [] s 0).1), .int .i64 (cQ r s aj [] s 0).2.1, .int .i64 (cQ r s aj [] s 0).2.2]),H):=by
 by_cases h:s.aa=[]
 ·exact Dm hS hW hFu (List.eq_nil_of_length_eq_zero (by rw [←hS.tl,h];rfl)) aj hal hA hH
 ·exact Dl hS hW hFu h aj hal hA hH
end
section
variable {c:Nat} {H:ai}
def b7 (a:au):au→Bool:=fun b=>b.bR==a.bR
noncomputable def dg (r:aC):Nat→ay→List au→Nat→List ay×ay×Int×Int
 |0,s,_,_=>([],s,-1,0)
 |_+1,s,[],_=>([],s,-1,0)
 |k+1,s,a::rest,i=>
  let g:=(a::rest).takeWhile (b7 a)
  let m:=cQ r s g [] s 0
  if m.2.2≠0 then ([],s,i+m.2.1,m.2.2)
  else let q:=dg r k m.1 ((a::rest).drop g.length) (i+g.length);(m.1::q.1,q.2)
def xh (r:aC)(s:ay):Fr:=[(3,bL r s),(6,oK)]
theorem LM {r:aC}{s:ay}(g:GV)(aj:List au)(hal:aj.length≤1000000)(i:Nat)(hi:i<aj.length)(V:ai)(hcl: ∀f2,clean (f2::[]::xh r s::V) (V.length+1) g=g)(Q:GX→bM→Prop): ∀k j:Nat,j+k=aj.length→
  Q (.exit 2) ⟨[(1, .pure (.slice (aj.map au.row))),(2,g),(3, .aA (V.length,3) 0),(6, .aA (V.length,6) 0),(9, .pure (.int .i64 i)),(10, .pure (.int .i64 ((j+((aj.drop j).takeWhile (b7 aj[i])).length:Nat):Int)))],[]::xh r s::V,64⟩→
  gZ KC aw 93 (lp Tryz.f93 1) [1,2,3,6,9,10] [1,2,3,6,9,10] Q
   [(1, .pure (.slice (aj.map au.row))),(2,g),(3, .aA (V.length,3) 0),(6, .aA (V.length,6) 0),(9, .pure (.int .i64 i)),(10, .pure (.int .i64 j))] ([]::xh r s::V) 64:=by
 intro k
 induction k with
 |zero=>
  intro j hj h1;have e:aj.drop j=[]:=List.drop_of_length_le (by omega);rw [e]at h1;have hnl: ¬j<aj.length:=(by omega);apply az;conv=>arg 4;whnf
  simp [xh]at hcl;simp [hnl,xh,hcl];simpa [xh]using h1
 |succ k ih=>
  intro j hj h1;have hja:j<aj.length:=(by omega);have hw:=c8 (x:=(j:Int)+1) (by omega) (by omega);have ed:aj.drop j=aj[j]::aj.drop (j+1):=List.drop_eq_getElem_cons hja;rw [ed,List.takeWhile_cons]at h1;simp [xh]at hcl;apply az;conv=>arg 4;whnf
  cases he:(aj[j].bR==aj[i].bR)with
  |true=>
   rw [show b7 aj[i] aj[j]=true from he]at h1
   simp only [if_true,List.length_cons]at h1;have ih':=ih (j+1) (by omega) (by rw [show j+1+((aj.drop (j+1)).takeWhile (b7 aj[i])).length=j+(((aj.drop (j+1)).takeWhile (b7 aj[i])).length+1)by omega];exact h1)
   simp [hja,hi,bH,he,hw,xh,hcl];simpa [xh]using ih'
  |false=>
   rw [show b7 aj[i] aj[j]=false from he]at h1
   simp [hja,hi,bH,he,xh,hcl];simpa [xh]using h1
theorem sY {r:aC}{s:ay}: ∀{g p:List au} {tk:List (Int×Int)} {nx:ay} {i:Nat},w7 s p tk→qT r s p→nx=kZ s p→(∀a∈g,AB r a.aR.toNat a)→(cQ r s g tk nx i).2.2=0→qT r s (p++g)∧(cQ r s g tk nx i).1=kZ s (p++g)
 | [],p,tk,nx,i,_,hG,hn,_,_=>by rw [List.append_nil];exact⟨hG,hn⟩
 |a::g,p,tk,nx,i,hT,hG,hn,hA,h=>by
  unfold cQ at h⊢;split at h
  ·simp at h
  ·rename_i h1;split at h
   ·rename_i h2;have h1':bV r s a.aR.toNat a=true:=(by simpa using h1);have:=sY (hT.snoc (a:=a)) (hG.snoc hT (hA a (List.mem_cons_self ..)) h1' h2) (by rw [hn,iS];rfl) (fun b hb=>hA b (List.mem_cons_of_mem _ hb)) h;rw [if_neg h1,if_pos h2]
    rwa [List.append_assoc,List.singleton_append]at this
   ·simp at h
theorem Bn {r:aC}{s:ay}: ∀{g:List au} {tk:List (Int×Int)} {nx:ay} {i:Nat},(cQ r s g tk nx i).2.2≠0→(cQ r s g tk nx i).1=s
 | [],_,_,_,h=>absurd rfl h
 |a::g,tk,nx,i,h=>by
  unfold cQ at h⊢;split
  ·rfl
  ·rename_i h1;rw [if_neg h1]at h;split
   ·rename_i h2;rw [if_pos h2]at h;exact Bn h
   ·rfl
theorem Bo {r:aC}{s:ay}: ∀{g:List au} {tk:List (Int×Int)} {nx:ay} {i:Nat},0≤(cQ r s g tk nx i).2.1∧(cQ r s g tk nx i).2.1≤i+g.length
 | [],_,_,i=>by simp [cQ]
 |a::g,tk,nx,i=>by
  unfold cQ;split
  ·simp only [List.length_cons];omega
  ·split
   ·have:=Bo (r:=r) (s:=s) (g:=g) (tk:=fU tk (eI s a.aR.toNat a)) (nx:=dn nx a.aR.toNat a) (i:=i+1);simp only [List.length_cons];omega
   ·simp only [List.length_cons];omega
theorem uH {r:aC}{s s':ay}(h:fB r s)(h':fB r s')(hF:Full s):Full s':=by
 have e1:=h'.pl.trans h.pl.symm;have e2:=h'.hl.trans h.hl.symm;have e3:=h'.tl.trans h.tl.symm;have a1:=List.length_pos_iff.2 hF.p0;have a2:=List.length_pos_iff.2 hF.h0;have:=hF.pl;have:=hF.hl;have:=hF.tl;exact⟨List.length_pos_iff.1 (by omega),List.length_pos_iff.1 (by omega),by omega,by omega,by omega⟩
theorem Ja {r:aC} (hW:WB r) (g:GV) (aj:List au) (hal:aj.length≤1000000) (hA: ∀a∈aj,AB r a.aR.toNat a) (V:List ay→ai) (LV:Nat) (hV: ∀l,(V l).length=LV) (hV0:0<LV)
  (hcl0: ∀f1 f0 l,clean (f1::f0::V l) LV g=g) (hcl1: ∀f2 f1 f0 l,clean (f2::f1::f0::V l) (LV+1) g=g)
  (hsee: ∀l s' c f1 f0,l.length≤1000001→fB r s'→Full s'→dM KC (aF KC) g [.pure (.agg (aP r s'))] c (f1::f0::V l)=some (.pure (.tuple []),f1::f0::V (l++[s'])))
  (Q:GX→bM→Prop): ∀(k i:Nat) (s:ay) (l:List ay),aj.length-i≤k→i≤aj.length→l.length≤i+1→fB r s→Full s→
  ((dg r k s (aj.drop i) i).2.2.2=0→Q (.exit 0) ⟨[(3, .aA (LV,3) 0),(6, .aA (LV,6) 0),(7,aO),(8,aO)],xh r (dg r k s (aj.drop i) i).2.1::V (l++(dg r k s (aj.drop i) i).1),64⟩)→
  ((dg r k s (aj.drop i) i).2.2.2≠0→ ∀s',Q .ret ⟨[(3, .aA (LV,3) 0),(6, .aA (LV,6) 0),(7, .pure (.int .i64 (dg r k s (aj.drop i) i).2.2.1)),(8, .pure (.int .i64 (dg r k s (aj.drop i) i).2.2.2))],[(3,bL r s'),(6,bL r (dg r k s (aj.drop i) i).2.1)]::V (l++(dg r k s (aj.drop i) i).1),64⟩)→
  gZ KC aw 93 (lp Tryz.f93 0) [1,2,3,6,9] [3,6,7,8] Q
   [(1, .pure (.slice (aj.map au.row))),(2,g),(3, .aA (LV,3) 0),(6, .aA (LV,6) 0),(9, .pure (.int .i64 i))] (xh r s::V l) 64:=by
 intro k
 induction k with
 |zero=>
  intro i s l hk hi hll hS hF h1 h2;have hnl: ¬i<aj.length:=(by omega);have e:i=aj.length:=(by omega);apply az;conv=>arg 4;whnf
  simp [dg]at h1;simp [hnl,hV,xh];simpa [xh]using h1
 |succ k ih=>
  intro i s l hk hi hll hS hF h1 h2;by_cases hia:i<aj.length
  ·have ed:aj.drop i=aj[i]::aj.drop (i+1):=List.drop_eq_getElem_cons hia;obtain⟨a,ha⟩: ∃a,aj[i]=a:=⟨_,rfl⟩;rw [ha]at ed;obtain⟨gr,hgr⟩: ∃gr,(a::aj.drop (i+1)).takeWhile (b7 a)=gr:=⟨_,rfl⟩;have hg1:1≤gr.length:=by
    rw [←hgr,List.takeWhile_cons,show b7 a a=true from by simp [b7]]
    simp
   have hgp:gr<+:aj.drop i:=(by rw [ed,←hgr];exact List.takeWhile_prefix _);have hgl:i+gr.length≤aj.length:=(by have:=hgp.length_le;simp at this;omega);have hgt:gr=(aj.drop i).take gr.length:=List.prefix_iff_eq_take.1 hgp;have hsl:List.drop i (List.take (i+gr.length) (aj.map au.row))=gr.map au.row:=by
    rw [←List.map_take,←List.map_drop];congr 1;rw [List.drop_take,Nat.add_sub_cancel_left];exact hgt.symm
   have hgA: ∀b∈gr,AB r b.aR.toNat b:=fun b hb=>hA b (List.mem_of_mem_drop (hgp.subset hb));have hgal:gr.length≤1000000:=(by omega);have M:=fun c (H:ai) (hH:0<H.length)=>xI (c:=c) (H:=H) hS hW hF gr hgal hgA hH;obtain⟨m,hm⟩: ∃m,cQ r s gr [] s 0=m:=⟨_,rfl⟩;have hbad:=Bn (r:=r) (s:=s) (g:=gr) (tk:=[]) (nx:=s) (i:=0);have hgood:=sY (r:=r) (s:=s) (g:=gr) (p:=[]) (tk:=[]) (nx:=s) (i:=0) (fun x=>by simp) ⟨fun a ha=>by simp at ha,by simp⟩ rfl hgA;have hrng:=Bo (r:=r) (s:=s) (g:=gr) (tk:=[]) (nx:=s) (i:=0);rw [hm]at M hbad hgood hrng;rw [ed]at h1 h2;unfold dg at h1 h2;simp only [hgr,hm]at h1 h2;have L1:=fun Q=>LM (r:=r) (s:=s) g aj hal i hia (V l) (fun f2=>by rw [hV];exact hcl1 _ _ _ _) Q (aj.length-i) i (by omega);rw [ed,ha,hgr]at L1;simp only [hV,xh]at L1;have hc0:=hcl0;obtain⟨e,hee⟩: ∃e,i+gr.length=e:=⟨_,rfl⟩;rw [hee]at L1 hsl hgl;have hle: ¬(e:Int)<(i:Int):=(by omega);have hle2:i≤e:=(by omega);have hmin:min e aj.length=e:=(by omega);have hrl: ∀x:au,x.row.length=9:=fun _=>rfl;obtain⟨x1,x2,x3⟩:=m;simp only at hbad hgood hrng h1 h2 M;have hw:=c8 (x:=(i:Int)+x2) (by omega) (by omega);apply az;conv=>arg 4;whnf
   simp [hia,hV,xh];refine L1 _ ?_;clear L1;simp only [bL,oK];simp only [aP]at M;by_cases he:x3=0
   ·subst he;obtain⟨hG,hx1⟩:=hgood rfl;have hS1:fB r x1:=(by rw [hx1];exact hG.snd hS);have hF1:=uH hS hS1 hF;simp only [ne_eq,not_true_eq_false,if_false]at h1 h2;have edr:(a::aj.drop (i+1)).drop gr.length=aj.drop (i+gr.length):=(by rw [←ed,List.drop_drop]);rw [edr,hee]at h1 h2;have ih':=ih e x1 (l++[x1]) (by omega) hgl (by simp;omega) hS1 hF1 (fun h=>by rw [List.append_assoc];exact h1 h) (fun h s'=>by rw [List.append_assoc];exact h2 h s');have SE:=fun c f1 f0=>hsee l x1 c f1 f0 (by omega) hS1 hF1;simp only [aP]at SE;simp only [xh,bL,oK]at ih';simp [hV,hle,hle2,hgl,hmin,hsl,hrl,M,SE,aH,hcl0];exact ih'
   ·have hx1:=hbad he;have he':(x3 !=0)=true:=(by simpa using he);simp only [ne_eq,he,not_false_eq_true,if_true]at h2;have h2':=h2 trivial s;simp only [bL,List.append_nil]at h2';simp only [hx1]at M;simp [hV,hle,hle2,hgl,hmin,hsl,hrl,M,he',aH,hw];exact h2'
  ·have e:aj.drop i=[]:=List.drop_of_length_le (by omega);rw [e]at h1;apply az;conv=>arg 4;whnf
   simp [dg]at h1;simp [hia,hV,xh];simpa [xh]using h1
end
section
variable {c:Nat} {H:ai}
structure R7 (r:aC)(g:GV)(V:List ay→ai)(LV:Nat):Prop where
 len: ∀l,(V l).length=LV
 pos:0<LV
 can:canon g=g
 EM: ∀H,dx H g=(g,H)
 cl: ∀(fs:List Fr) l n,LV-1≤n→clean (fs++V l) n g=g
 VU: ∀(fs:List Fr) l s' c,fs≠[]→l.length≤1000001→fB r s'→Full s'→dM KC (aF KC) g [.pure (.agg (aP r s'))] c (fs++V l)=some (.pure (.tuple []),fs++V (l++[s']))
theorem yL {r:aC}(hW:WB r){g:GV}{V:List ay→ai}{LV:Nat}(hg:R7 r g V LV)(aj:List au)(hal:aj.length≤1000000)(hA: ∀a∈aj,AB r a.aR.toNat a){s:ay}(hS:fB r s)(hF:Full s):
  bJ KC (aF KC) 93 [.pure (.agg (aP r s)), .pure (.slice (aj.map au.row)),g] c (V [])=
   some (.pure (.tuple [.agg (aP r (dg r aj.length s aj 0).2.1), .int .i64 (dg r aj.length s aj 0).2.2.1, .int .i64 (dg r aj.length s aj 0).2.2.2]),V (s::(dg r aj.length s aj 0).1)):=by
 have hV:=hg.len;refine aM (aK KC aw Tryz.func93 rfl rfl Tq (by simp) (by rw [hV];exact hg.pos) ?_);have hc:=hg.can;have S1:=fun(f0:Fr) c=>hg.VU [f0] [] s c (by simp) (by simp) hS hF;simp only [List.cons_append,List.nil_append]at S1;have L1:=fun Q=>Ja hW g aj hal hA V LV hV hg.pos (fun f1 f0 l=>hg.cl [f1,f0] l LV (by omega)) (fun f2 f1 f0 l=>hg.cl [f2,f1,f0] l (LV+1) (by omega)) (fun l s' c f1 f0 hl h1 h2=>hg.VU [f1,f0] l s' c (by simp) hl h1 h2) Q aj.length 0 s [s] (by omega) (by omega) (by simp) hS hF;simp only [List.drop_zero]at L1;simp only [xh,bL,oK,aP]at L1 S1⊢;simp [hV,hc,S1];simp at L1;refine L1 _ (fun h=> ?_) (fun h s'=> ?_)
 ·have hat: ∀k i s aj,(dg r k s aj i).2.2.2=0→(dg r k s aj i).2.2.1= -1:=by
   intro k
   induction k with
   |zero=>intro i s aj h;rfl
   |succ k ih=>
    intro i s aj h
    cases aj with
    |nil=>rfl
    |cons a rest=>
     unfold dg at h⊢;simp only at h⊢;split at h
     ·rename_i h1;exact absurd h h1
     ·rename_i h1;rw [if_neg h1];exact ih _ _ _ h
  have e1:=hat _ _ _ _ h;simp [hV,aH];rw [ah (by simp)];simp [h,e1]
 ·simp [hV,aH];rw [ah (by simp)];simp
noncomputable def di (r:aC):List ay×ay×Int×Int:=
 let q:=dg r r.aj.length (aL r) r.aj 0
 (aL r::q.1,q.2.1,if q.2.2.2=0∧ql r q.2.1=false then ((r.aj.length:Int),11)else q.2.2)
theorem iL {r:aC}: ∀(k:Nat) (s:ay) (aj:List au) (i:Nat),fB r s→(∀a∈aj,AB r a.aR.toNat a)→fB r (dg r k s aj i).2.1∧ ∀s'∈(dg r k s aj i).1,fB r s'
 |0,s,_,_,hS,_=>⟨hS,fun _ h=>by simp [dg]at h⟩
 |_+1,s,[],_,hS,_=>⟨hS,fun _ h=>by simp [dg]at h⟩
 |k+1,s,a::rest,i,hS,hA=>by
  unfold dg;simp only;split
  ·exact⟨hS,fun _ h=>by simp at h⟩
  ·rename_i h;have h':(cQ r s ((a::rest).takeWhile (b7 a)) [] s 0).2.2=0:=(by simpa using h);have hgA: ∀b∈(a::rest).takeWhile (b7 a),AB r b.aR.toNat b:=fun b hb=>hA b ((List.takeWhile_prefix _).subset hb);obtain⟨hG,e⟩:=sY (r:=r) (s:=s) (p:=[]) (tk:=[]) (nx:=s) (i:=0) (fun x=>by simp) ⟨fun a ha=>by simp at ha,by simp⟩ rfl hgA h';have hS1:fB r (cQ r s ((a::rest).takeWhile (b7 a)) [] s 0).1:=(by rw [e];exact hG.snd hS);have:=iL k _ ((a::rest).drop ((a::rest).takeWhile (b7 a)).length) (i+((a::rest).takeWhile (b7 a)).length) hS1 (fun b hb=>hA b (List.mem_of_mem_drop hb));refine⟨this.1,fun s' hs'=> ?_⟩;rcases List.mem_cons.1 hs' with rfl|hs'
   ·exact hS1
   ·exact this.2 s' hs'
theorem R7.up {r:aC}{g:GV}{V:List ay→ai}{LV:Nat}(h:R7 r g V LV)(F:Fr):R7 r g (fun l=>F::V l) (LV+1) where
 len:=fun l=>by simp [h.len]
 pos:=by omega
 can:=h.can
 EM:=h.EM
 cl:=fun fs l n hn=>by
  have:=h.cl (fs++[F]) l n (by omega);simpa using this
 VU:=fun fs l s' c hf hl h1 h2=>by
  have:=h.VU (fs++[F]) l s' c (by simp) hl h1 h2;simpa using this
theorem jC {K:Ctx}{rec:Rec}{f:FuncId}{args:List GV}(h1:K.zV f=false)(h2:K.Ai f=false)(h3:K.EM f=true):aN K rec f args c H=bJ K rec f (bz H args).1 c (bz H args).2:=by
 unfold aN;simp [h1,h2,h3]
theorem xa {K:Ctx}{rec:Rec}{f:FuncId}{a b:List GV}(h:a.map canon=b.map canon):bJ K rec f a c H=bJ K rec f b c H:=by
 have hl:a.length=b.length:=(by have:=congrArg List.length h;simpa using this);unfold bJ;rw [h,hl]
theorem rf {r:aC}(hW:WB r)(hS:fB r (aL r))(hp0:r.ae≠[])(hal:r.aj.length≤1000000)(hA: ∀a∈r.aj,AB r a.aR.toNat a){g:GV}{V:List ay→ai}{LV:Nat}(hg:R7 r g V LV):
  bJ KC (aF KC) 58 [.pure (.agg r.row),g] c (V [])=
   some (.pure (.tuple [.agg (aP r (di r).2.1), .int .i64 (di r).2.2.1, .int .i64 (di r).2.2.2]),V (di r).1):=by
 have hV:=hg.len;have hF:Full (aL r):=⟨by simpa [aL]using hp0,by simpa [aL]using hp0,by simp [aL];exact hW.pl,by simp [aL];exact hW.pl,by simp [aL];exact hW.tl⟩;refine aM (aK KC aw Tryz.func58 rfl rfl Tr (by simp) (by rw [hV];exact hg.pos) ?_);have C:=fun F=>sC (c:=12) (H:=F::V []) r hW.pl hW.tl (by simp);have fz: ∀H,bz H [.pure (.agg (aP r (aL r))), .pure (.slice (r.aj.map au.row)),g]=([.pure (.agg (aP r (aL r))), .pure (.slice (r.aj.map au.row)),g],H):=fun H=>by simp [bz,hg.EM]
 have R2: ∀F:Fr,aN KC (aF KC) 93 [.pure (.agg (aP r (aL r))), .pure (.slice (r.aj.map au.row)),g] 16 (F::V [])=
   some (.pure (.tuple [.agg (aP r (dg r r.aj.length (aL r) r.aj 0).2.1), .int .i64 (dg r r.aj.length (aL r) r.aj 0).2.2.1, .int .i64 (dg r r.aj.length (aL r) r.aj 0).2.2.2]),F::V (aL r::(dg r r.aj.length (aL r) r.aj 0).1)):=fun F=>by
  rw [jC rfl rfl rfl,fz];exact yL (c:=16) hW (hg.up F) r.aj hal hA hS hF
 have hc:=hg.can;obtain⟨q,hq⟩: ∃q,dg r r.aj.length (aL r) r.aj 0=q:=⟨_,rfl⟩;have ha:di r=(aL r::q.1,q.2.1,if q.2.2.2=0∧ql r q.2.1=false then ((r.aj.length:Int),11)else q.2.2):=(by unfold di;simp only [hq]);rw [hq]at R2;rw [ha];have hSq:=iL r.aj.length (aL r) r.aj 0 hS hA;rw [hq]at hSq;obtain⟨l,s,bR,e⟩:=q;simp only at hSq R2⊢;have OR:=fun c (H:ai) (hH:0<H.length)=>vp (c:=c) (H:=H) r s hW.tl (by rw [hSq.1.hl];exact hW.pl) hSq.1.tl hH;rw [gK]at C⊢;simp only [aP]at C R2 OR⊢;by_cases he:e=0
 ·subst he
  cases ho:ql r s with
  |true=>
   rw [ho]at OR;simp [C,R2,OR,hV,hc,aH];rw [ah (by simp)];simp
  |false=>
   rw [ho]at OR;simp [C,R2,OR,hV,hc,aH];rw [ah (by simp)];simp
 ·have he':(e==0)=false:=(by simpa using he);simp [C,R2,hV,hc,he,he',aH];rw [ah (by simp)];simp
end
def oI (l:List au)(x:au):List au:=(l.reverse.dropWhile fun y=>decide (x.bR<y.bR)).reverse++x::(l.reverse.takeWhile fun y=>decide (x.bR<y.bR)).reverse
def dV (l:List au):List au:=l.foldl oI []
theorem u5 {A B:List au}{x:au}(hB: ∀b∈B,x.bR<b.bR)(hA: ∀a,A.getLast? =some a→ ¬x.bR<a.bR):oI (A++B) x=A++x::B:=by
 unfold oI;rw [List.reverse_append];have hB': ∀b∈B.reverse,(fun y:au=>decide (x.bR<y.bR)) b=true:=fun b hb=>(by simpa using hB b (List.mem_reverse.1 hb));rw [List.dropWhile_append_of_pos hB',List.takeWhile_append_of_pos hB'];have hd:A.reverse.dropWhile (fun y=>decide (x.bR<y.bR))=A.reverse∧A.reverse.takeWhile (fun y=>decide (x.bR<y.bR))=[]:=by
  cases h:A.reverse with
  |nil=>exact⟨rfl,rfl⟩
  |cons a r=>
   have:A.getLast? =some a:=(by rw [←List.head?_reverse,h];rfl);have:=hA a this;simp [List.dropWhile_cons,List.takeWhile_cons,this]
 rw [hd.1,hd.2];simp
theorem Dn (l:List au)(x:au): ∃A B,l=A++B∧oI l x=A++x::B∧(∀b∈B,x.bR<b.bR)∧(∀a,A.getLast? =some a→ ¬x.bR<a.bR):=by
 refine⟨(l.reverse.dropWhile fun y=>decide (x.bR<y.bR)).reverse,(l.reverse.takeWhile fun y=>decide (x.bR<y.bR)).reverse, ?_,rfl,fun b hb=> ?_,fun a ha=> ?_⟩
 ·rw [←List.reverse_append,List.takeWhile_append_dropWhile,List.reverse_reverse]
 ·have h: ∀(l:List au) (b:au),b∈l.takeWhile (fun y=>decide (x.bR<y.bR))→x.bR<b.bR:=fun l b=>by
   induction l with
   |nil=>intro h;simp at h
   |cons y l ih=>
    intro h;rw [List.takeWhile_cons]at h;split at h
    ·rename_i hy;rcases List.mem_cons.1 h with rfl|h
     ·simpa using hy
     ·exact ih h
    ·cases h
  exact h _ _ (List.mem_reverse.1 hb)
 ·rw [List.getLast?_reverse]at ha;have:=List.head?_dropWhile_not (fun y:au=>decide (x.bR<y.bR)) l.reverse;rw [ha]at this;simpa using this
theorem Gp (l:List au)(x:au):List.Perm (oI l x) (x::l):=by
 obtain⟨A,B,e1,e2,_,_⟩:=Dn l x;rw [e2,e1];exact List.perm_middle
theorem wo: ∀(l a:List au),List.Perm (l.foldl oI a) (a++l)
 | [],a=>by simp
 |x::l,a=>by
  rw [List.foldl_cons];exact(wo l (oI a x)).trans (((Gp a x).append_right l).trans (by simpa using(List.perm_middle (l₁:=a) (l₂:=l) (a:=x)).symm))
theorem vh (l:List au):List.Perm (dV l) l:=by unfold dV;simpa using wo l []
theorem kH (l:List au):(dV l).length=l.length:=(vh l).length_eq
theorem pF {r:aC}{k:Nat}{s:ay}{a:au}{rest:List au}{i:Nat}:dg r (k+1) s (a::rest) i=
  (if (cQ r s ((a::rest).takeWhile (b7 a)) [] s 0).2.2≠0 then ([],s,(i:Int)+(cQ r s ((a::rest).takeWhile (b7 a)) [] s 0).2.1,(cQ r s ((a::rest).takeWhile (b7 a)) [] s 0).2.2)
  else ((cQ r s ((a::rest).takeWhile (b7 a)) [] s 0).1::(dg r k (cQ r s ((a::rest).takeWhile (b7 a)) [] s 0).1 ((a::rest).drop ((a::rest).takeWhile (b7 a)).length) (i+((a::rest).takeWhile (b7 a)).length)).1,
   (dg r k (cQ r s ((a::rest).takeWhile (b7 a)) [] s 0).1 ((a::rest).drop ((a::rest).takeWhile (b7 a)).length) (i+((a::rest).takeWhile (b7 a)).length)).2)):=by
 rw [dg]
def oJ (l:List au)(a:au):List au:=l.takeWhile fun b=>decide (b.bR<a.bR)
theorem u9 (f:au→Bool): ∀l:List au,l.takeWhile f=l.take (l.takeWhile f).length
 | []=>rfl
 |a::l=>by
  rw [List.takeWhile_cons];split
  ·rw [List.length_cons,List.take_succ_cons,←u9 f l]
  ·rfl
theorem vc (f:au→Bool): ∀(l:List au) (j:Nat) (hj:j<l.length),j<(l.takeWhile f).length→f l[j]=true
 | [],j,hj,_=>by simp at hj
 |a::l,j,hj,h=>by
  rw [List.takeWhile_cons]at h;split at h
  ·rename_i ha
   cases j with
   |zero=>exact ha
   |succ j=>exact vc f l j (by simpa using hj) (by simpa using h)
  ·simp at h
theorem sD (f:au→Bool): ∀(l:List au) (hj:(l.takeWhile f).length<l.length),f (l[(l.takeWhile f).length]'hj)=false
 | [],hj=>by simp at hj
 |a::l,hj=>by
  by_cases ha:f a=true
  ·have e:((a::l).takeWhile f).length=(l.takeWhile f).length+1:=(by rw [List.takeWhile_cons,if_pos ha];rfl);have:=sD f l (by rw [e]at hj;simpa using hj);simp only [e,List.getElem_cons_succ];exact this
  ·have e:((a::l).takeWhile f).length=0:=(by rw [List.takeWhile_cons,if_neg ha];rfl);simp only [e,List.getElem_cons_zero];simpa using ha
theorem Pc {l:List au}(hp:l.Pairwise fun a b=>a.bR≤b.bR){i j:Nat}(hi:i<l.length)(hj:j<l.length)(h:i≤j):l[i].bR≤l[j].bR:=by
 rcases Nat.lt_or_eq_of_le h with h|h
 ·exact List.pairwise_iff_getElem.1 hp i j hi hj h
 ·subst h;exact Int.le_refl _
theorem u6 {l:List au}{act:Nat}(h:act<l.length)(hp:l.Pairwise fun a b=>a.bR≤b.bR):
  (oJ l l[act]).length≤act∧(∀j (hj:j<l.length),j<(oJ l l[act]).length→l[j].bR<l[act].bR)∧ ∀j (hj:j<l.length),(oJ l l[act]).length≤j→j≤act→l[j].bR=l[act].bR:=by
 have h1: ∀j (hj:j<l.length),j<(oJ l l[act]).length→l[j].bR<l[act].bR:=fun j hj hm=>by
  have:=vc (fun b:au=>decide (b.bR<l[act].bR)) l j hj hm;simpa using this
 have h2:(oJ l l[act]).length≤act:=by
  rcases Nat.lt_or_ge act (oJ l l[act]).length with hm|hm
  ·have:=h1 act h hm;omega
  ·exact hm
 refine⟨h2,h1,fun j hj hm hja=> ?_⟩;have hml:(oJ l l[act]).length<l.length:=(by omega);have h3:=sD (fun b:au=>decide (b.bR<l[act].bR)) l hml;have h3': ¬(l[(oJ l l[act]).length]'hml).bR<l[act].bR:=of_decide_eq_false h3;have h4:=Pc hp hml hj hm;have h5:=Pc hp hj h hja;omega
noncomputable def u7 (r:aC)(a:au):ay:=(dg r (oJ r.aj a).length (aL r) (oJ r.aj a) 0).2.1
def late (aR:Int)(a:au):au:=if a.aR=aR then {a with bR:=a.bR+1}else a
noncomputable def nr (r:aC)(act:Nat)(kind:Int):List au:=
 if kind=2 then (if bV r (u7 r (r.aj.getD act cI)) (r.aj.getD act cI).aR.toNat {(r.aj.getD act cI)with hand:=1-(r.aj.getD act cI).hand}=true
  then r.aj.set act {(r.aj.getD act cI)with hand:=1-(r.aj.getD act cI).hand}else r.aj.eraseIdx act)
 else if kind=3 then dV (r.aj.take act++(r.aj.drop act).map (late (r.aj.getD act cI).aR))
 else r.aj.eraseIdx act
def ou (r:aC)(act:Nat)(kind:Int):Int:=(r.aj.getD act cI).bR+if kind=3 then 1 else 0
def gY (m:Int)(l:List au):List au:=l.takeWhile fun a=>decide (a.bR≤m)
def behind (m:Int)(l:List au):List au:=l.dropWhile fun a=>decide (a.bR≤m)
theorem tH (m:Int)(l:List au):gY m l++behind m l=l:=List.takeWhile_append_dropWhile
noncomputable def sI:aC→ay→Nat→au→Bool:=ov fun r s w a=>bV r s w a && !eQ r.seen [s.ae.getD w 0,if a.kind=1 then a.cell else s.ae.getD w 0]
theorem rC (r:aC)(s:ay)(w:Nat)(a:au):sI r s w a=(bV r s w a && !eQ r.seen [s.ae.getD w 0,if a.kind=1 then a.cell else s.ae.getD w 0]):=by rw [sI,cN]
noncomputable def uu (r:aC)(w:Nat)(all:List au)(fin:ay→List au→Bool):Nat→ay→List au→Option (List au)
 |0,s,l=>if fin s l=true then some l else none
 |n+1,s,l=>all.findSome? fun a=>if sI r s w a=true then uu r w all fin n (dn s w a) (l++[a])else none
theorem lu {α β:Type}{f g:α→Option β}: ∀{l:List α},(∀a∈l,f a=g a)→l.findSome? f=l.findSome? g
 | [],_=>rfl
 |a::l,h=>by
  rw [List.findSome?_cons,List.findSome?_cons,h a (by simp),lu (l:=l) fun b hb=>h b (by simp [hb])]
theorem y6 {r:aC}{w:Nat}{all:List au}{fin:ay→List au→Bool}: ∀n s l m,uu r w all fin n s l=some m→m.length=l.length+n∧(∃t,m=l++t∧ ∀a∈t,a∈all)
 |0,s,l,m,h=>by
  unfold uu at h;split at h
  ·cases h;exact⟨rfl,[],by simp,by simp⟩
  ·cases h
 |n+1,s,l,m,h=>by
  unfold uu at h;obtain⟨a,ha,h⟩:=List.exists_of_findSome?_eq_some h;split at h
  ·obtain⟨e,t,e2,ht⟩:=y6 n _ _ m h;refine⟨by rw [e,List.length_append,List.length_singleton];omega,a::t,by rw [e2];simp,fun b hb=> ?_⟩;rcases List.mem_cons.1 hb with rfl|hb
   ·exact ha
   ·exact ht b hb
  ·cases h
theorem Il {r:aC}{s:ay}{a:au}(hp:bV r s a.aR.toNat a=true):cQ r s [a] [] s 0=(dn s a.aR.toNat a,0,0):=by
 unfold cQ;rw [if_neg (by simp [hp]),if_pos (by simp)];rfl
theorem iZ {f:au→Bool}: ∀{l:List au} {x:au},x∈l.takeWhile f→f x=true∧x∈l
 | [],_,h=>by simp at h
 |a::l,x,h=>by
  rw [List.takeWhile_cons]at h;split at h
  ·rename_i ha;rcases List.mem_cons.1 h with rfl|h
   ·exact⟨ha,by simp⟩
   ·exact⟨(iZ h).1,by simp [(iZ h).2]⟩
  ·cases h
noncomputable def lK (r:aC)(B:List au)(s:ay)(l:List au):Bool:=decide ((dg r B.length s B 0).2.2.2=0) && ql r (dg r B.length s B 0).2.1
end Go.Gh
