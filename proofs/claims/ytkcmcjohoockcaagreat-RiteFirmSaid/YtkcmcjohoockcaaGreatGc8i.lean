/- Texts joined: the evaluator over ghost values, its soundness, the walks. Spaces struck and names made short by a program, for the size. -/
import Derived.Test.YtkcmcjohoockcaaGreatGc8h
import Derived.Test.YtkcmcjohoockcaaGreatGc8f
namespace Go.Gh
open Go.Proofs
set_option linter.unusedVariables false
set_option linter.unusedSimpArgs false
set_option linter.unnecessarySimpa false
set_option maxRecDepth 100000
set_option maxHeartbeats 8000000
section
variable {H:aj}
theorem zZ (wd:Int): ∃(p wd':Int),xk wd [1,1,2]=(p,wd')∧1≤p∧p≤2:=by
 have h:=kB wd 3 (by omega);obtain⟨y,hy⟩: ∃y,lA wd 3=y:=⟨_,rfl⟩;rw [hy]at h;have e:xk wd [1,1,2]=(List.getD [1,1,2] y.1.toNat 0,y.2):=by
  rw [sC,if_neg (by simp)];show (List.getD [1,1,2] (lA wd 3).1.toNat 0,(lA wd 3).2)=_
  rw [hy]
 refine⟨_,_,e, ?_⟩;have:y.1.toNat=0∨y.1.toNat=1∨y.1.toNat=2:=(by omega);rcases this with e|e|e<;>rw [e]<;>decide
theorem mR {nm:Nm} (hlt:nm.1<H.length) (r0:aA) (k m:Nat) (T:Int) (F:Fr) (ai:List ak) (s:aw) (q:Nat) (t:Int) (hR:CP H.length r0 m T F ai s q t) (Q:GX→bO→Prop)
  (ih: ∀F' acts' s' q' t' wd',CP H.length r0 (m+2) (T+2) F' acts' s' q' t'→uo KC au 11 (lp Tryz.f11 0) [0,6,7,8,9,10] [6,7,8,9] Q (fA nm H.length t' k) (F'::H.set nm (bw wd')) 174)
  (F4:Fr) (acts':List ak) (t2:aw) (p wd':Int) (fm:FM H.length F4 r0 acts' s q t2) (h1:t2.ah.length=s.ah.length∧t2.aq.length=s.aq.length∧t2.aa.length=s.aa.length)
  (hM:Made r0 acts' t2 (t+p)) (hp:p≤2) (hl':acts'.length≤m+2):
  mm (qq ⟨[(0,GV.ay nm 0),(6,GV.ay (H.length,6) 0),(7,GV.ay (H.length,7) 0),(8,GV.ay (H.length,8) 0),(9,GV.pure (PV.int IntKind.i64 (t+p))),(10,GV.pure (PV.int IntKind.i64 (k:Int)))],
    Fr.ins 8 (dE.box [GV.bc (H.length,fo (kq q)) 1 s.ah.length 0 s.ah.length,GV.bc (H.length,cZ (kq q)) 2 s.aq.length 0 s.aq.length,GV.bc (H.length,eV (kq q)) 2 s.aa.length 0 s.aa.length]) F4::H.set nm (bw wd'),174⟩)
   fun st=>uo KC au 11 (lp Tryz.f11 0) [0,6,7,8,9,10] [6,7,8,9] Q st.s st.h st.nt:=by
 have hl: ∀w,(H.set nm (bw w)).length=H.length:=fun w=>aj.length_set _ _ _;obtain⟨F',eg,hF⟩:=FM.fin (H:=H.set nm (bw wd')) (nt:=174) (sl:=fA nm H.length (t+p) k) (by rw [hl];omega) (by rw [hl];exact fm) (fun j hj=>by rw [hl];exact vD hlt j hj);rw [hl]at hF;simp only [fA,dK,h1,hl]at eg;rw [eg,gB];have tT:=hR.tT;exact ih F' acts' t2 (kq q) (t+p) wd' ⟨hF,(sN q).2,hM,hl',by omega⟩
theorem DZ {nm:Nm} (hlt:nm.1<H.length) (r0:aA) (n:Nat) (hb:RB r0 n) (hn:r0.wide*r0.deep=n) (k:Nat) (hk:k≤1000) (m:Nat) (hm:m≤10000) (T:Int) (hT:T≤1000000) (F:Fr) (ai:List ak) (s:aw) (q:Nat) (t:Int) (wd:Int) (hR:CP H.length r0 m T F ai s q t) (Q:GX→bO→Prop)
  (w:Nat) (wd1 wd2:Int) (a:ak) (e1:lA wd r0.ah.length=((w:Int),wd1)) (hw:w<r0.ah.length) (e2:gd (jD r0 ai) s w (bL n r0.aa.length r0.ah.length w) wd1=((a,true),wd2))
  (hA:AB r0 w a) (pa:b7 r0 s w a=true) (za:a.cd=0∧a.gR=0)
  (o:Nat) (wd3 wd4:Int) (x:ak) (bx:Bool) (e3:lA wd2 r0.ah.length=((o:Int),wd3)) (ho:o<r0.ah.length) (e4:gd (jD r0 (ai++[setAt a t])) s o (bL n r0.aa.length r0.ah.length o) wd3=((x,bx),wd4))
  (hX:bx=true→AB r0 o x∧b7 r0 s o x=true∧x.cd=0∧x.gR=0)
  (ih: ∀F' acts' s' q' t' wd',CP H.length r0 (m+2) (T+2) F' acts' s' q' t'→uo KC au 11 (lp Tryz.f11 0) [0,6,7,8,9,10] [6,7,8,9] Q (fA nm H.length t' k) (F'::H.set nm (bw wd')) 174):
  uo KC au 11 (lp Tryz.f11 0) [0,6,7,8,9,10] [6,7,8,9] Q (fA nm H.length t ((k+1:Nat):Int)) (F::H.set nm (bw wd)) 174:=by
 have hne: ¬nm.1=H.length:=(by omega);have hne2: ¬nm.1=H.length+1:=(by omega);have hne3: ¬nm.1=H.length+1+1:=(by omega);have hle:nm.1≤H.length:=(by omega);have hl: ∀w,(H.set nm (bw w)).length=H.length:=fun w=>aj.length_set _ _ _;have hB:=fun w f0 f1=>Cq hlt w f0 f1;have hW:=fun w f0 f1=>u7 hlt w f0 f1;have g7:=hR.fi.g7;have g8:=hR.fi.g8;have hS:=hR.md.snd;have M:=fun f0 c=>vz (f0:=f0) (c:=c) hlt hb hR.fi.toFB hR.fi.sc hS.toE9 w hw wd1;rw [e2]at M;have hk1:(0:Int)<(k:Int)+1:=(by omega);have hw1:=dp (x:=(k:Int)) (by omega) (by omega);have hkk:((k:Int)+1-1)=k:=(by omega);have pl:=hb.pl;have tl:=hb.tl;have ml:=hR.ml;have hpl:((r0.ah.length:Int))≤9223372036854775807:=(by omega);have t0:=hR.md.t0;have tT:=hR.tT;have hA':AB r0 w (setAt a t):=oC hA;have pa':b7 r0 s w (setAt a t)=true:=nh.trans pa;have eh:=hS.hl;obtain⟨F1,z,fm1,ow1,ow2⟩:=T4 (H0:=H.set nm (bw wd2)) (hl _) hR.q2 hR.fi hS.toE9 hb (setAt a t);obtain⟨F2,fm2,dd⟩:=Ql (H0:=H.set nm (bw wd2)) (hl _) hR.q2 fm1 (oM hS hA' pa') (by omega) [(12,bW (setAt a t)),(14, .box [.bc (H.length,fo (kq q)) 1 s.ah.length 0 s.ah.length, .bc (H.length,cZ (kq q)) 2 s.aq.length 0 s.aq.length, .bc (H.length,eV (kq q)) 2 s.aa.length 0 s.aa.length])] 57;obtain⟨F3,F4,fm4,ap1,f37,f34⟩:=Ia (H0:=H.set nm (bw wd2)) (hl _) hR.q2 fm2 (setAt a t) (by omega);have g71:=fm1.g7;have g81:=fm1.g8;have g72:=fm2.g7;have g82:=fm2.g8;have g74:=fm4.g7;have g84:=fm4.g8;have M2:=fun f0 c=>vz (f0:=f0) (c:=c) hlt hb fm4.toFB fm4.sc hS.toE9 o ho wd3;rw [e4]at M2;have LD:=kC (s:=s) (w:=w) hA'.kind;have ewho:(setAt a t).aO.toNat=w:=(by rw [hA'.aO];simp);have hM1: ∀p:Int,1≤p→Made r0 (ai++[setAt a t]) (da s w (setAt a t)) (t+p):=fun p hp=>by
  have:=hR.md.grp (g:=[setAt a t]) (t':=t+p) ⟨fun b hb'=>by simp only [List.mem_singleton]at hb';subst hb';rw [ewho];exact⟨hA',pa'⟩,List.pairwise_singleton ..⟩ (by simp) (fun b hb'=>by simp only [List.mem_singleton]at hb';subst hb';exact⟨rfl,za⟩) (by omega)
  rwa [rJ,ewho,y8]at this
 simp only [gD,dK]at g7 g8 g71 g81 g72 g82 f37 f34 g74 g84;have LD':=LD;have ap1:=fun f0=>ap1 f0 62 (fun _=>rfl);simp only [rM,lC,H8,ak.row,setAt,bW,List.map_append,List.map_cons,List.map_nil]at LD' M M2 ow1 ow2 dd ap1 f37 f34 g74;have P:=fun(f0:Fr) (w:Int) (c:Nat)=>Eb (c:=c) (l:=[1,1,2]) (hB w f0 F4) (by simp);simp only [aF,List.map_cons,List.map_nil,hW]at P;apply sQ;conv=>arg 4;whnf
 cases bx with
 |false=>
  obtain⟨p,wd6,e6,p1,p2⟩:=zZ wd4;have hwp:=dp (x:=t+p) (by omega) (by omega);simp [fA,hk1,hl,kV,hB,hW,hlt,hne,hne2,aj.dF,hle,g7,g8,e1,hpl,M,hkk,hw1,ow1,ow2,g71,g81,dd,g72,g82,ap1,f37,f34,g74,g84,e3,M2,P,e6,hwp];exact mR hlt r0 k m T F ai s q t hR Q ih F4 _ _ p wd6 fm4 LD (hM1 p p1) p2 (by simp;omega)
 |true=>
  obtain⟨hX1,px,zx⟩:=hX rfl;by_cases how:o=w
  ·obtain⟨p,wd6,e6,p1,p2⟩:=zZ wd4;have hwp:=dp (x:=t+p) (by omega) (by omega);subst how;simp [fA,hk1,hl,kV,hB,hW,hlt,hne,hne2,aj.dF,hle,g7,g8,e1,hpl,M,hkk,hw1,ow1,ow2,g71,g81,dd,g72,g82,ap1,f37,f34,g74,g84,e3,M2,P,e6,hwp];exact mR hlt r0 k m T F ai s q t hR Q ih F4 _ _ p wd6 fm4 LD (hM1 p p1) p2 (by simp;omega)
  ·have how':((o:Int)==(w:Int))=false:=(by simp;omega);have how2:((o:Int) !=(w:Int))=true:=(by simp;omega);obtain⟨wd5,e5⟩: ∃y,yJ wd4 2=y:=⟨_,rfl⟩;obtain⟨b1,wd5⟩:=wd5;obtain⟨p,wd6,e6,p1,p2⟩:=zZ wd5;have hwp:=dp (x:=t+p) (by omega) (by omega)
   cases b1 with
   |false=>
    simp [fA,hk1,hl,kV,mZ,hB,hW,hlt,hne,hne2,aj.dF,hle,g7,g8,e1,hpl,M,hkk,hw1,ow1,ow2,g71,g81,dd,g72,g82,ap1,f37,f34,g74,g84,e3,M2,P,e6,hwp,how',how2,e5];exact mR hlt r0 k m T F ai s q t hR Q ih F4 _ _ p wd6 fm4 LD (hM1 p p1) p2 (by simp;omega)
   |true=>
    have AP:=fun(f0:Fr) (c:Nat)=>H9 (c:=c) (f0:=f0) (H0:=H.set nm (bw wd5)) (hl _) fm4.sc hS.toE9 (a:=setAt a t) (b:=x) hw ho hA'.aO hA'.hand hX1.aO hX1.hand
    cases hap:qm s w (setAt a t) o x with
    |false=>
     rw [hap]at AP;simp only [lC,ak.row,setAt]at AP;simp [fA,hk1,hl,kV,mZ,hB,hW,hlt,hne,hne2,aj.dF,hle,g7,g8,e1,hpl,M,hkk,hw1,ow1,ow2,g71,g81,dd,g72,g82,ap1,f37,f34,g74,g84,e3,M2,P,e6,hwp,how',how2,e5,AP];exact mR hlt r0 k m T F ai s q t hR Q ih F4 _ _ p wd6 fm4 LD (hM1 p p1) p2 (by simp;omega)
    |true=>
     rw [hap]at AP;have hap':=Fi.1 hap;have hX':AB r0 o (setAt x t):=oC hX1;have px':b7 r0 s o (setAt x t)=true:=nh.trans px;have hap2:JF (b9 s w (setAt a t)) (b9 s o (setAt x t)):=(by rw [zg (a:=x)];exact hap');have one:=xI hS hA' hX' pa' px' hap2;have S1:=hS.TA hA' pa';have e1h:=S1.hl;obtain⟨F5,fm5,dd5⟩:=Ql (H0:=H.set nm (bw wd5)) (hl _) hR.q2 fm4 (oM S1 hX' one.2.1) (by omega) [(12,bW (setAt a t)),(14, .box [.bc (H.length,fo (kq q)) 1 s.ah.length 0 s.ah.length, .bc (H.length,cZ (kq q)) 2 s.aq.length 0 s.aq.length, .bc (H.length,eV (kq q)) 2 s.aa.length 0 s.aa.length]),(16,bW (setAt x t))] 97;obtain⟨F6,F7,fm7,ap5,f67,f76⟩:=Ia (H0:=H.set nm (bw wd5)) (hl _) hR.q2 fm5 (setAt x t) (by simp;omega);have g75:=fm5.g7;have g85:=fm5.g8;have g77:=fm7.g7;have g87:=fm7.g8;have L2:=kC (s:=da s w (setAt a t)) (w:=o) hX'.kind;have P5:=fun(f0:Fr) (w:Int) (c:Nat)=>Eb (c:=c) (l:=[1,1,2]) (hB w f0 F7) (by simp);have ewho2:(setAt x t).aO.toNat=o:=(by rw [hX'.aO];simp);have hM2:Made r0 (ai++[setAt a t,setAt x t]) (da (da s w (setAt a t)) o (setAt x t)) (t+p):=by
      have:=hR.md.grp (g:=[setAt a t,setAt x t]) (t':=t+p) ⟨fun b hb'=>by
       simp only [List.mem_cons,List.not_mem_nil,or_false]at hb';rcases hb' with rfl|rfl
       ·rw [ewho];exact⟨hA',pa'⟩
       ·rw [ewho2];exact⟨hX',px'⟩,by
        rw [List.pairwise_cons];refine⟨fun b hb'=> ?_,List.pairwise_singleton ..⟩;simp only [List.mem_singleton]at hb';subst hb';unfold tch;rw [ewho,ewho2];exact hap2⟩ (by simp) (fun b hb'=>by
       simp only [List.mem_cons,List.not_mem_nil,or_false]at hb';rcases hb' with rfl|rfl
       ·exact⟨rfl,za⟩
       ·exact⟨rfl,zx⟩) (by omega)
      rwa [rJ,ewho,rJ,ewho2,y8]at this
     have ap5:=fun f0=>ap5 f0 102 (fun e=>by simp at e);simp only [gD,dK]at g75 g85 g77 g87 f67 f76;simp only [lC,H8,ak.row,setAt,bW,List.map_append,List.map_cons,List.map_nil,LD',List.append_assoc,List.cons_append,List.nil_append]at AP dd5 ap5 f67 f76 g75 g77;simp only [aF,List.map_cons,List.map_nil,hW]at P5;simp [fA,hk1,hl,kV,mZ,hB,hW,hlt,hne,hne2,aj.dF,hle,g7,g8,e1,hpl,M,hkk,hw1,ow1,ow2,g71,g81,dd,g72,g82,ap1,f37,f34,g74,g84,e3,M2,P,e6,hwp,how',how2,e5,AP,dd5,g75,g85,ap5,f67,f76,g77,g87,P5];exact mR hlt r0 k m T F ai s q t hR Q ih F7 _ _ p wd6 fm7 (by omega) (by rw [List.append_assoc];exact hM2) p2 (by simp;omega)
end
section
variable {H:aj}
theorem ui {r:aA}{s:aw}{w:Nat}{all:List ak}{wd wd':Int}{a:ak}(hl:all.length≤1000000)(h:gd r s w all wd=((a,true),wd')):a∈all∧b7 r s w a=true:=by
 rw [vH]at h;have hlen:=qD r s w all;split at h
 ·cases h
 ·rename_i hne;have h0:0<(eZ r s w all).length:=List.length_pos_iff.2 hne;have hr:=kB wd (eZ r s w all).length (by omega);generalize lA wd (eZ r s w all).length=y at h hr;have hi:y.1.toNat<(eZ r s w all).length:=(by omega);have e:=(Prod.mk.inj (Prod.mk.inj h).1).1;rw [aQ hi]at e;exact CU (e▸List.getElem_mem hi)
theorem GD {nm:Nm}(hlt:nm.1<H.length)(r0:aA)(n:Nat)(hb:RB r0 n)(hn:r0.wide*r0.deep=n)(Q:GX→bO→Prop): ∀(k:Nat) (m:Nat) (T:Int) (F:Fr) (ai:List ak) (s:aw) (q:Nat) (t:Int) (wd:Int),k≤1000→m+2*k≤10000→T+2*k≤100000→CP H.length r0 m T F ai s q t→
  (∀F' acts' s' q' t' wd',CP H.length r0 (m+2*k) (T+2*k) F' acts' s' q' t'→Q (.exit 0) ⟨[(6, .ay (H.length,6) 0),(7, .ay (H.length,7) 0),(8, .ay (H.length,8) 0),(9, .pure (.int .i64 t'))],F'::H.set nm (bw wd'),174⟩)→
  uo KC au 11 (lp Tryz.f11 0) [0,6,7,8,9,10] [6,7,8,9] Q (fA nm H.length t (k:Int)) (F::H.set nm (bw wd)) 174:=by
 have hl: ∀w,(H.set nm (bw w)).length=H.length:=fun w=>aj.length_set _ _ _;intro k
 induction k with
 |zero=>
  intro m T F ai s q t wd _ _ _ hR hq;apply sQ;conv=>arg 4;whnf
  simp [fA,hl];exact hq F ai s q t wd (by simpa using hR)
 |succ k ih=>
  intro m T F ai s q t wd hk hm hT hR hq;have pl:=hb.pl;have tl:=hb.tl;have n9:=hb.n9;have p0:0<r0.ah.length:=List.length_pos_iff.2 hb.p0;obtain⟨w,wd1,e1,hw⟩:=pE wd r0.ah.length (by omega) (by omega);have hw':w<r0.ah.length:=(by omega);have el:=fun w:Nat=>vF n r0.aa.length r0.ah.length (w:Int);have el': ∀w:Nat,(bL n r0.aa.length r0.ah.length (w:Int)).length≤1000000:=fun w=>(by have:=el w;omega);have again: ∀(m':Nat) (T':Int),m'≤m+2→T'≤T+2→ ∀F' acts' s' q' t' wd',CP H.length r0 m' T' F' acts' s' q' t'→uo KC au 11 (lp Tryz.f11 0) [0,6,7,8,9,10] [6,7,8,9] Q (fA nm H.length t' k) (F'::H.set nm (bw wd')) 174:=fun m' T' hm' hT' F' acts' s' q' t' wd' hR'=>by
   refine ih m' T' F' acts' s' q' t' wd' (by omega) (by omega) (by omega) hR' fun F2 acts2 s2 q2 t2 wd2 hR2=>hq F2 acts2 s2 q2 t2 wd2 ?_;have a:=hR2.ml;have b:=hR2.tT;exact⟨hR2.fi,hR2.q2,hR2.md,by omega,by omega⟩
  obtain⟨y,e2⟩: ∃y,gd (jD r0 ai) s w (bL n r0.aa.length r0.ah.length w) wd1=y:=⟨_,rfl⟩;obtain⟨⟨a,b⟩,wd2⟩:=y
  cases b with
  |false=>exact CQ hlt r0 n hb k (by omega) m T F ai s q t wd hR Q w wd1 wd2 a e1 hw' e2 (fun F' wd' h=>again m T (by omega) (by omega) F' ai s q t wd' h)
  |true=>
   obtain⟨ha,pa⟩:=ui (el' w) e2;obtain⟨hA,_,za⟩:=mz hn hw' ha;rw [show jD r0 ai={r0 with ai:=ai}from rfl,sO]at pa
   obtain⟨o,wd3,e3,ho⟩:=pE wd2 r0.ah.length (by omega) (by omega);have ho':o<r0.ah.length:=(by omega);obtain⟨y,e4⟩: ∃y,gd (jD r0 (ai++[setAt a t])) s o (bL n r0.aa.length r0.ah.length o) wd3=y:=⟨_,rfl⟩;obtain⟨⟨x,bx⟩,wd4⟩:=y;refine DZ hlt r0 n hb hn k (by omega) m (by omega) T (by omega) F ai s q t wd hR Q w wd1 wd2 a e1 hw' e2 hA pa za o wd3 wd4 x bx e3 ho' e4 (fun hbx=> ?_) (again (m+2) (T+2) (by omega) (by omega));subst hbx;obtain⟨hx,px⟩:=ui (el' o) e4;obtain⟨hX,_,zx⟩:=mz hn ho' hx;rw [show jD r0 (ai++[setAt a t])={r0 with ai:=ai++[setAt a t]}from rfl,sO]at px
   exact⟨hX,px,zx⟩
end
section
variable {H:aj}
section
variable {F f0 f1:Fr} {r0:aA} {ai:List ak} {s:aw} {q L:Nat}
theorem FI.doS (hq:q≤2)(h:FI L F r0 ai s q){t':aw}{v1 v2 v3:Nat}(h1:v1≤t'.ah.length)(h2:v2≤t'.aq.length)(h3:v3≤t'.aa.length)(hl:t'.ah.length=s.ah.length∧t'.aq.length=s.aq.length∧t'.aa.length=s.aa.length):FI L (qt F q v1 v2 v3 t') r0 ai t' q:=by
 have e:dK L q t'=dK L q s:=(by simp only [dK,hl]);have b:=ze h.toFB q hq v1 v2 v3 t';rw [←e]at b
 exact {b with
  sc:=zd F q hq t' h1 h2 h3
  CM:=fun k hk hg=>by
   by_cases h1:k=fo q
   ·exact .inl h1
   by_cases h2:k=cZ q
   ·exact .inr (.inl h2)
   by_cases h3:k=eV q
   ·exact .inr (.inr h3)
   rw [jv _ _ _ _ _ _ h1 h2 h3]at hg;exact h.CM k hk hg}
theorem FI.app (hq:q≤2)(h:FI L F r0 ai s q){acts':List ak}(hne:acts'≠[]):FI L (zf L F r0 acts') r0 acts' s q:=by
 obtain⟨a,b,c⟩:=kZ q hq;have one: ∀k,(∀j∈fixed,j≠k)→(zf L F r0 acts').get k=F.get k:=fun k hk=>jw _ _ _ _ (hk 62 (by decide)).symm (hk 7 (by decide)).symm
 exact {En h.toFB hne with
  sc:=h.sc.other (one _ a) (one _ b) (one _ c)
  CM:=fun k hk hg=>by
   have h1:k≠62:=fun e=>(by subst e;cases hk);have h2:k≠7:=fun e=>(by subst e;cases hk);rw [jw _ _ _ _ h1 h2]at hg;exact h.CM k hk hg}
theorem Vb (hq:q≤2)(h:FI H.length F r0 ai s q){w:Nat}{a:ak}(hb:Fe s w a)(hhl:s.aq.length≤1000000)(f0 f1:Fr)(c:Nat):
  ∃F2,FI H.length F2 r0 ai (da s w a) q∧aL KC (aE KC) 51 [H8 H.length q s, .pure (.agg a.row)] c (f0::f1::F::H)=some (.pure (.tuple []),f0::f1::F2::H):=by
 obtain⟨nV,m9,lM,_⟩:=pD q hq;have ne: ¬H.length=H.length+1:=(by omega);have ne2: ¬H.length=H.length+1+1:=(by omega);have g: ∀k,aj.get (f0::f1::F::H) (H.length,k)=F.get k:=fun k=>(by simp [ne]);have st: ∀k b,F.get k=some b→aj.set (f0::f1::F::H) (H.length,k) b=f0::f1::F::H:=fun k b hb=>(by simp [ne,Fr.rL h.jr hb]);have nn: ∀a b:Nat,a≠b→((H.length,a):Nm)≠(H.length,b):=fun a b h e=>h (Prod.mk.inj e).2;obtain⟨⟨u1,a1,b1⟩,⟨u2,a2,b2⟩,⟨u3,a3,b3⟩⟩:=h.sc;have S:mc (f0::f1::F::H) (H.length,fo q) (H.length,cZ q) (H.length,eV q) u1 u2 u3 s:={nV:=nn _ _ nV,m9:=nn _ _ m9,lM:=nn _ _ lM,g1:=(g _).trans b1,g2:=(g _).trans b2,g3:=(g _).trans b3,e1:=a1,e2:=a2,e3:=a3,s1:=st _ _ b1,s2:=st _ _ b2,s3:=st _ _ b3};obtain⟨v1,v2,v3,c1,c2,c3,e⟩:=Qk (c:=c) S hb hhl (by simp);have LD:=kC (s:=s) (w:=w) hb.kind;refine⟨qt F q v1 v2 v3 (da s w a),h.doS hq (by omega) (by omega) (by omega) LD,e.trans ?_⟩;simp [cA,qt,ne]
theorem N9 (hq:q≤2)(h:FI H.length F r0 ai s q)(a:ak)(hn:ai.length≤1000000)(h0:ai≠[])(f0 f1:Fr)(ka:Nat):
  ∃F2 F3,FI H.length F3 r0 (ai++[a]) s q∧yH H.length ka (cY (H.length,62) 9 (ai.map ak.row)) 9 72 [a.row] (f0::f1::F::H)=some (cY (H.length,62) 9 ((ai++[a]).map ak.row),f0::f1::F2::H)∧
   F2.get 7=some (gD H.length r0 ai)∧F2.ins 7 (gD H.length r0 (ai++[a]))=F3:=by
 have ne: ¬H.length=H.length+1:=(by omega);refine⟨F.ins 62 (.arr 9 ((ai++[a]).map ak.row) 0 false),_,h.app hq (acts':=ai++[a]) (by simp), ?_, ?_,rfl⟩
 ·have ek:yH H.length ka (cY (H.length,62) 9 (ai.map ak.row)) 9 72 [a.row] (f0::f1::F::H)=yH H.length 62 (cY (H.length,62) 9 (ai.map ak.row)) 9 72 [a.row] (f0::f1::F::H):=by
   unfold cY;rw [if_neg (by simpa using h0)];rfl
  rw [ek,rb (fun hr=>absurd (by simpa using hr) h0) (fun hr=>by simp [ne,h.ga h0]) (by simp;omega) (by simp;omega)];simp [ne]
 ·rw [Fr.az _ (by decide)];exact h.g7
end
def mT (t:Int)(w:Nat)(hd:Int):ak:=⟨t,w,3,hd,0,0,0,0,0⟩
theorem EI {r:aA}{t hd:Int}{w:Nat}(hw:w<r.ah.length)(hh:hd=0∨hd=1):AB r w (mT t w hd):=
 ⟨rfl,hw,hh,⟨by simp [mT],by simp [mT]⟩,fun h=>by simp [mT]at h,fun h=>by simp [mT]at h,fun h=>by simp [mT]at h,by simp [nP,mT]⟩
theorem Ji {r0:aA}{ai:List ak}{s:aw}{t hd:Int}{w:Nat}(h:Made r0 ai s t)(hw:w<r0.ah.length)(hh:hd=0∨hd=1)(h0:0≤aV s.aq w hd):
  b7 r0 s w (mT t w hd)=true∧Made r0 (ai++[mT t w hd]) (da s w (mT t w hd)) (t+1)∧aV (da s w (mT t w hd)).aq w hd= -1∧
  (∀w' hd',(hd'=0∨hd'=1)→ ¬(w'=w∧hd'=hd)→aV (da s w (mT t w hd)).aq w' hd'=aV s.aq w' hd'):=by
 have pa:b7 r0 s w (mT t w hd)=true:=(by rw [yX rfl];exact decide_eq_true h0);have hA:=EI (r:=r0) (t:=t) hw hh;have ew:(mT t w hd).aO.toNat=w:=(by simp [mT]);have hwh:w<s.aq.length:=(by rw [h.snd.hl];exact hw);refine⟨pa, ?_, ?_,fun w' hd' h1 h2=> ?_⟩
 ·have:=h.grp (g:=[mT t w hd]) (t':=t+1) ⟨fun b hb=>by simp only [List.mem_singleton]at hb;subst hb;rw [ew];exact⟨hA,pa⟩,List.pairwise_singleton ..⟩ (by simp) (fun b hb=>by simp only [List.mem_singleton]at hb;subst hb;exact⟨rfl,rfl,rfl⟩) (by omega)
  rwa [rJ,ew,y8]at this
 ·rw [mC rfl];show aV (bp s.aq w hd (-1)) w hd= -1
  rw [Cw w hd hwh hh hh,if_pos ⟨rfl,rfl⟩]
 ·rw [mC rfl];show aV (bp s.aq w hd (-1)) w' hd'=_
  rw [Cw w' hd' hwh hh h1,if_neg h2]
theorem Jj {r0:aA}{s:aw}{t hd:Int}{w:Nat}(h:Made r0 [] s t)(hw:w<r0.ah.length):aV s.aq w hd= -1:=by
 have e:s=aJ r0:=(by rw [h.sc];rfl);subst e;unfold aV;have:(aJ r0).aq.getD w bA=empty:=by
  rw [aQ (by simp [aJ];exact hw)];simp [aJ]
 rw [this];split<;>rfl
def lz (L:Nat)(t:Int)(w:Nat)(hd:Int):a7:=[(6, .ay (L,6) 0),(7, .ay (L,7) 0),(8, .ay (L,8) 0),(9, .pure (.int .i64 t)),(18, .pure (.int .i64 w)),(19, .pure (.int .i64 hd))]
theorem B5 (r0:aA) (n:Nat) (hb:RB r0 n) (m:Nat) (hm:m≤100000) (T:Int) (hT:T≤1000000) (F:Fr) (ai:List ak) (s:aw) (q:Nat) (t:Int) (hR:CP H.length r0 m T F ai s q t) (Q:GX→bO→Prop) (w:Nat) (hw:w<r0.ah.length) (hd:Int) (hh:hd=0∨hd=1)
  (ih: ∀F' acts' s' t',CP H.length r0 (m+1) (T+1) F' acts' s' q t'→aV s'.aq w hd= -1→(∀w' hd',(hd'=0∨hd'=1)→ ¬(w'=w∧hd'=hd)→aV s'.aq w' hd'=aV s.aq w' hd')→
   iB KC au 11 (lp Tryz.f11 2) [6,7,8,9,18,19] [6,7,8,9,18] Q (lz H.length t' w (hd+1)) ([]::F'::H) 174):
  iB KC au 11 (lp Tryz.f11 2) [6,7,8,9,18,19] [6,7,8,9,18] Q (lz H.length t w hd) ([]::F::H) 174:=by
 have g7:=hR.fi.g7;have g8:=hR.fi.g8;obtain⟨v2,hv2,gh⟩:=hR.fi.sc.h2;have hS:=hR.md.snd;have hwh:w<s.aq.length:=(by rw [hS.hl];exact hw);have eh:=hS.hl;have pl:=hb.pl;have ml:=hR.ml;have t0:=hR.md.t0;have tT:=hR.tT;have R:=fZ hS.toE9 (w:=w) (hand:=hd) hw;have hw1:=dp (x:=hd+1) (by omega) (by omega);have hw2:=dp (x:=t+1) (by omega) (by omega);have hlt:hd<2:=(by omega);have ne: ¬H.length=H.length+1:=(by omega);obtain⟨x,hx⟩: ∃x,aV s.aq w hd=x:=⟨_,rfl⟩;have hx':aV s.aq w hd=(if hd=0 then s.aq[w].l else s.aq[w].r):=by
  unfold aV;rw [aQ hwh]
 by_cases h0:0≤x
 ·have a0:ai≠[]:=fun e=>by
   subst e;have:=Jj (hd:=hd) hR.md hw;omega
  obtain⟨pa,M,z1,z2⟩:=Ji hR.md hw hh (by rw [hx];exact h0);have hA:=EI (r:=r0) (t:=t) hw hh;obtain⟨F2,fi2,dd⟩:=Vb hR.q2 hR.fi (oM hS hA pa) (by omega) [(20,bW (mT t w hd))] [] 135;obtain⟨F3,F4,fi4,ap,f37,f34⟩:=N9 hR.q2 fi2 (mT t w hd) (by omega) a0 [(20,bW (mT t w hd))] [] 140;have g72:=fi2.g7;have g82:=fi2.g8;have I:=ih F4 _ _ (t+1) ⟨fi4,hR.q2,M,by simp;omega,by omega⟩ z1 z2;simp only [gD,dK]at g7 g8 g72 g82 f37 f34;simp only [H8,lC,ak.row,mT,bW,List.map_append,List.map_cons,List.map_nil]at dd ap f37 f34;apply ax;conv=>arg 4;whnf
  rcases hh with rfl|rfl
  ·rw [if_pos rfl]at hx';have hx2:s.aq[w].l=x:=hx'.symm.trans hx;simp [lz]at I;simp [lz,g7,g8,gh,hv2,ne,hwh,aG.row,hx2,h0,dd,g72,g82,ap,f37,f34,hw2];exact I
  ·rw [if_neg (by decide)]at hx';have hx2:s.aq[w].r=x:=hx'.symm.trans hx;have w11:IntKind.i64.wrap (1+1)=2:=rfl;simp [lz]at I;simp [lz,g7,g8,gh,hv2,ne,hwh,aG.row,hx2,h0,dd,g72,g82,ap,f37,f34,hw2,w11];exact I
 ·have z1:aV s.aq w hd= -1:=(by omega);have I:=ih F ai s t ⟨hR.fi,hR.q2,hR.md,by omega,by omega⟩ z1 (fun w' hd' _ _=>rfl);simp only [gD,dK]at g7 g8;apply ax;conv=>arg 4;whnf
  rcases hh with rfl|rfl
  ·rw [if_pos rfl]at hx';have hx2:s.aq[w].l=x:=hx'.symm.trans hx;simp [lz]at I;simp [lz,g7,g8,gh,hv2,ne,hwh,aG.row,hx2,h0];exact I
  ·rw [if_neg (by decide)]at hx';have hx2:s.aq[w].r=x:=hx'.symm.trans hx;have w11:IntKind.i64.wrap (1+1)=2:=rfl;simp [lz]at I;simp [lz,g7,g8,gh,hv2,ne,hwh,aG.row,hx2,h0,w11];exact I
end
section
variable {H:aj}
theorem GF (r0:aA)(n:Nat)(hb:RB r0 n)(q:Nat)(Q:GX→bO→Prop): ∀(k w m:Nat) (T:Int) (F:Fr) (ai:List ak) (s:aw) (t:Int),w+k=r0.ah.length→m+2*k≤100000→T+2*k≤1000000→CP H.length r0 m T F ai s q t→
  (∀w' hd',w'<w→(hd'=0∨hd'=1)→aV s.aq w' hd'= -1)→
  (∀F' acts' s' t',CP H.length r0 (m+2*k) (T+2*k) F' acts' s' q t'→(∀w' hd',w'<r0.ah.length→(hd'=0∨hd'=1)→aV s'.aq w' hd'= -1)→Q (.exit 2) ⟨[(6, .ay (H.length,6) 0),(7, .ay (H.length,7) 0),(8, .ay (H.length,8) 0)],F'::H,174⟩)→
  iB KC au 11 (lp Tryz.f11 1) [6,7,8,9,18] [6,7,8] Q [(6, .ay (H.length,6) 0),(7, .ay (H.length,7) 0),(8, .ay (H.length,8) 0),(9, .pure (.int .i64 t)),(18, .pure (.int .i64 w))] (F::H) 174:=by
 have pl:=hb.pl;intro k
 induction k with
 |zero=>
  intro w m T F ai s t hw hm hT hR hz hq;have g7:=hR.fi.g7;simp only [gD]at g7;have hwl: ¬w<r0.ah.length:=(by omega);apply ax;conv=>arg 4;whnf
  simp [g7,hwl];exact hq F ai s t (by simpa using hR) (fun w' hd' h1 h2=>hz w' hd' (by omega) h2)
 |succ k ih=>
  intro w m T F ai s t hw hm hT hR hz hq;have g7:=hR.fi.g7;simp only [gD]at g7;have hwl:w<r0.ah.length:=(by omega);have hw1:=dp (x:=(w:Int)+1) (by omega) (by omega);apply ax;conv=>arg 4;whnf
  simp [g7,hwl];refine B5 r0 n hb m (by omega) T (by omega) F ai s q t hR _ w hwl 0 (.inl rfl) (fun F1 acts1 s1 t1 hR1 z1 y1=> ?_);refine B5 r0 n hb (m+1) (by omega) (T+1) (by omega) F1 acts1 s1 q t1 hR1 _ w hwl (0+1) (.inr rfl) (fun F2 acts2 s2 t2 hR2 z2 y2=> ?_);apply ax;conv=>arg 4;whnf
  simp [lz,hw1];have hR2':CP H.length r0 (m+2) (T+2) F2 acts2 s2 q t2:=⟨hR2.fi,hR2.q2,hR2.md,hR2.ml,by have:=hR2.tT;omega⟩;refine ih (w+1) (m+2) (T+2) F2 acts2 s2 t2 (by omega) (by omega) (by omega) hR2' (fun w' hd' h1 h2=> ?_) (fun F' acts' s' t' hR' h'=>hq F' acts' s' t' ?_ h')
  ·by_cases e:w'=w
   ·subst e;rcases h2 with rfl|rfl
    ·rw [y2 w' 0 (.inl rfl) (by simp)];exact z1
    ·simpa using z2
   ·rw [y2 w' hd' h2 (fun h=>e h.1),y1 w' hd' h2 (fun h=>e h.1)];exact hz w' hd' (by omega) h2
  ·have a:=hR'.ml;have b:=hR'.tT;exact⟨hR'.fi,hR'.q2,hR'.md,by omega,by omega⟩
def Bw (t:aZ)(sp:bC):aZ:={t with home:=sp.cell,want:=sp.state}
def kF (ts:List aZ)(sps:List bC)(i:Nat):List aZ:=ts.mapIdx fun j t=>if j<i then Bw t (sps.getD j aR)else t
theorem mH (ts:List aZ)(sps:List bC)(i:Nat):(kF ts sps i).length=ts.length:=by simp [kF]
theorem ke (ts:List aZ)(sps:List bC)(i j:Nat)(h:j<ts.length):(kF ts sps i)[j]'(by simpa [kF]using h)=if j<i then Bw ts[j] (sps.getD j aR)else ts[j]:=by simp [kF]
theorem GG (ts:List aZ)(sps:List bC)(i:Nat)(h:i<ts.length):kF ts sps (i+1)=(kF ts sps i).set i (Bw ts[i] (sps.getD i aR)):=by
 refine List.ext_getElem (by simp [kF]) fun j h1 h2=> ?_;have hj:j<ts.length:=(by simpa [kF]using h1);rw [List.getElem_set,ke _ _ _ _ hj,ke _ _ _ _ hj];by_cases e:i=j
 ·subst e;simp
 ·rw [if_neg e];by_cases h3:j<i
  ·rw [if_pos h3,if_pos (by omega)]
  ·rw [if_neg h3,if_neg (by omega)]
structure FT (L:Nat)(F:Fr)(r0:aA)(ai:List ak)(s:aw)(q:Nat)(ts:List aZ):Prop where
 g6:F.get 6=some iI
 g7:F.get 7=some (gD L r0 ai)
 g8:F.get 8=some (dK L q s)
 gp:F.get 188441=some (.arr 2 (r0.ah.map aS.row) 0 false)
 gl:r0.aX≠[]→F.get 393241=some (.arr 1 (r0.aX.map aF) 0 false)
 ga:ai≠[]→F.get 62=some (.arr 9 (ai.map ak.row) 0 false)
 h3: ∃v,v≤s.aa.length∧F.get (eV q)=some (.arr 2 (s.aa.map bC.row) v false)
 gt: ∃v,v≤ts.length∧F.get 339993=some (.arr 5 (ts.map aZ.row) v false)
 tl:ts.length=r0.aa.length
theorem FT.ins {L:Nat}{F:Fr}{r0:aA}{ai:List ak}{s:aw}{q:Nat}{ts ts':List aZ}(hq:q≤2)(h:FT L F r0 ai s q ts){v:Nat}(hv:v≤ts'.length)(hl:ts'.length=ts.length):FT L (F.ins 339993 (.arr 5 (ts'.map aZ.row) v false)) r0 ai s q ts' where
 g6:=(Fr.az _ (by decide) _).trans h.g6
 g7:=(Fr.az _ (by decide) _).trans h.g7
 g8:=(Fr.az _ (by decide) _).trans h.g8
 gp:=(Fr.az _ (by decide) _).trans h.gp
 gl:=fun hl=>(Fr.az _ (by decide) _).trans (h.gl hl)
 ga:=fun hl=>(Fr.az _ (by decide) _).trans (h.ga hl)
 h3:=by
  obtain⟨v,a,b⟩:=h.h3;exact⟨v,a,(Fr.az _ ((kZ q hq).2.2 339993 (by decide)).symm _).trans b⟩
 gt:=⟨v,hv,Fr.bJ ..⟩
 tl:=hl.trans h.tl
theorem GH (r0:aA)(n:Nat)(hb:RB r0 n)(ai:List ak)(s:aw)(q:Nat)(hq:q≤2)(hsl:s.aa.length=r0.aa.length)(Q:GX→bO→Prop): ∀(k i:Nat) (F:Fr) (ts:List aZ),i+k=r0.aa.length→FT H.length F r0 ai s q ts→ts=kF r0.aa s.aa i→
  (∀F',FT H.length F' r0 ai s q (kF r0.aa s.aa r0.aa.length)→Q (.exit 6) ⟨[(6, .ay (H.length,6) 0),(7, .ay (H.length,7) 0)],F'::H,174⟩)→
  iB KC au 11 (lp Tryz.f11 3) [6,7,8,21] [6,7] Q [(6, .ay (H.length,6) 0),(7, .ay (H.length,7) 0),(8, .ay (H.length,8) 0),(21, .pure (.int .i64 i))] (F::H) 174:=by
 have tl:=hb.tl;intro k
 induction k with
 |zero=>
  intro i F ts hi h hts hq';have g7:=h.g7;simp only [gD]at g7;have hwl: ¬i<r0.aa.length:=(by omega);apply ax;conv=>arg 4;whnf
  simp [g7,hwl];have e:i=r0.aa.length:=(by omega);subst e;rw [hts]at h;exact hq' F h
 |succ k ih=>
  intro i F ts hi h hts hq';have g7:=h.g7;have g8:=h.g8;simp only [gD,dK]at g7 g8;obtain⟨v3,a3,b3⟩:=h.h3;obtain⟨vt,ba,bt⟩:=h.gt;have tl':=h.tl;have hwl:i<r0.aa.length:=(by omega);have hil:i<ts.length:=(by omega);have his:i<s.aa.length:=(by omega);have hw1:=dp (x:=(i:Int)+1) (by omega) (by omega);have ne: ¬H.length=H.length+1:=(by omega);have nk:eV q≠339993:=((kZ q hq).2.2 339993 (by decide)).symm;have I:=fun ts' h1 h2=>ih (i+1) (F.ins 339993 (.arr 5 (ts'.map aZ.row) ts'.length false)) ts' (by omega) (h.ins hq (Nat.le_refl _) h1) h2 hq';have a3':v3≤r0.aa.length:=(by omega);have at2:vt≤r0.aa.length:=(by omega);apply ax;conv=>arg 4;whnf
  simp [g7,g8,hwl,b3,bt,a3',at2,ne,hil,his,tl',hsl,hw1,bC.row,aZ.row,Fr.bJ,Fr.az,Fr.iq,nk];have ei:ts[i]=r0.aa[i]:=by
   subst hts;rw [ke _ _ _ _ hwl,if_neg (by omega)]
  have I2:=I (ts.set i (Bw r0.aa[i] (s.aa.getD i aR))) (by simp) (by rw [hts,GG _ _ _ hwl]);rw [aQ his]at I2;simp [aZ.row,Bw,tl',ei]at I2⊢;exact I2
end
section
variable {c:Nat} {H:aj}
def G2 (L:Nat)(r0:aA):Fr:=eG 393241 1 (r0.aX.map aF) [(6,iI),(7,gD L r0 []),(188441, .arr 2 (r0.ah.map aS.row) 0 false),(339993, .arr 5 (r0.aa.map aZ.row) 0 false)]
def G4 (L:Nat)(r0:aA):Fr:=eG 393241 1 (r0.aX.map aF) [(6,iI),(7,gD L r0 []),(8,dK L 0 (aJ r0)),(90139, .arr 1 ((aJ r0).ah.map aF) 0 false),(110619, .arr 2 ((aJ r0).aq.map aG.row) 0 false),(188441, .arr 2 (r0.ah.map aS.row) 0 false),(217115, .arr 2 ((aJ r0).aa.map bC.row) 0 false),(339993, .arr 5 (r0.aa.map aZ.row) 0 false)]
theorem Oa {key es:Nat}{rows:List (List PV)}{fr:Fr}(h:fr.jr):(eG key es rows fr).jr:=by
 unfold eG;split
 ·exact h
 ·exact Fr.dZ h
theorem Ob {key es:Nat}{rows:List (List PV)}{fr:Fr}{x:Nat×dE}(hs:fr.jr)(h:x∈eG key es rows fr):x=(key, .arr es rows 0 false)∨x∈fr:=by
 unfold eG at h;split at h
 ·exact .inr h
 ·rcases Fr.pC hs h with e|e
  ·exact .inl e
  ·exact .inr e.1
theorem Jk (L:Nat)(r0:aA):Fr.jr [(6,iI),(7,gD L r0 []),(8,dK L 0 (aJ r0)),(90139, .arr 1 ((aJ r0).ah.map aF) 0 false),(110619, .arr 2 ((aJ r0).aq.map aG.row) 0 false),(188441, .arr 2 (r0.ah.map aS.row) 0 false),(217115, .arr 2 ((aJ r0).aa.map bC.row) 0 false),(339993, .arr 5 (r0.aa.map aZ.row) 0 false)]:=by
 simp [Fr.jr]
theorem aaH (L:Nat)(r0:aA):FI L (G4 L r0) r0 [] (aJ r0) 0 where
 jr:=Oa (Jk L r0)
 g6:=by unfold G4;rw [bQ (by decide)];simp
 g7:=by unfold G4;rw [bQ (by decide)];simp
 g8:=by unfold G4;rw [bQ (by decide)];simp
 gp:=by unfold G4;rw [bQ (by decide)];simp
 gt:=by unfold G4;rw [bQ (by decide)];simp
 gl:=fun h=>by unfold G4;rw [cV (by simpa using h)]
 M3:=fun _=>by unfold G4;rw [bQ (by decide)];simp
 ga:=fun h=>absurd rfl h
 ref:=fun x hx hne k hk=>by
  rcases Ob (Jk L r0) hx with e|e
  ·subst e;rfl
  ·simp only [List.mem_cons,List.not_mem_nil,or_false]at e;rcases e with rfl|rfl|rfl|rfl|rfl|rfl|rfl|rfl
   ·rfl
   ·exact xJ hk
   ·exact absurd rfl hne
   ·rfl
   ·rfl
   ·rfl
   ·rfl
   ·rfl
 sc:=⟨⟨0,Nat.zero_le _,by unfold G4 fo;rw [bQ (by decide)];simp⟩,⟨0,Nat.zero_le _,by unfold G4 cZ;rw [bQ (by decide)];simp⟩,⟨0,Nat.zero_le _,by unfold G4 eV;rw [bQ (by decide)];simp⟩⟩
 CM:=fun k hk hg=>by
  have n0:k≠393241:=fun e=>(by subst e;cases hk);have ne: ∀j,gv j=false→k≠j:=fun j hj e=>(by subst e;rw [hj]at hk;cases hk);unfold G4 at hg;rw [bQ n0]at hg;simp only [Fr.cO,Fr.get_nil]at hg;rw [if_neg (ne 6 (by decide)),if_neg (ne 7 (by decide)),if_neg (ne 8 (by decide)),if_neg (ne 90139 (by decide)),if_neg (ne 110619 (by decide)),if_neg (ne 188441 (by decide)),if_neg (ne 217115 (by decide)),if_neg (ne 339993 (by decide))]at hg;exact absurd rfl hg
theorem Qo {r0:aA}(h:vC r0): ∃n:Nat,RB r0 n∧r0.wide*r0.deep=n:=by
 obtain⟨w,hw⟩:=Int.eq_ofNat_of_zero_le (show 0≤r0.wide by have:=h.w1;omega)
 obtain⟨d,hd⟩:=Int.eq_ofNat_of_zero_le (show 0≤r0.deep by have:=h.d1;omega)
 have w1:=h.w1;have w3:=h.w3;have d1:=h.d1;have d3:=h.d3;have e:r0.wide*r0.deep=((w*d:Nat):Int):=(by rw [hw,hd];simp);have l9:w*d≤3*3:=Nat.mul_le_mul (by omega) (by omega);have l1:0<w*d:=Nat.mul_pos (by omega) (by omega);exact⟨w*d,⟨by rw [e];exact dp (by omega) (by omega),l1,by omega,by omega,h.p3,h.t4,h.p0,h.t0,h.seen⟩,e⟩
theorem aaI {L:Nat}(hL:L=H.length){r0:aA}(hs:r0.seen=[]):pM (G2 L r0::H) (rM L r0 []) (.agg (jD r0 []).row):=by
 subst hL;have g: ∀k,aj.get (G2 H.length r0::H) (H.length,k)=(G2 H.length r0).get k:=fun k=>(by simp);rw [eE];unfold rM;rw [uC];simp only [jD,rE,uB,rC,and_true,true_and];refine⟨⟨_,0,false,(g _).trans (by unfold G2;rw [bQ (by decide)];simp),Nat.zero_le _,by simp,rfl,rfl,rfl⟩,⟨_,0,false,(g _).trans (by unfold G2;rw [bQ (by decide)];simp),Nat.zero_le _,by simp,rfl,rfl,rfl⟩, ?_,uE fun hr=>(g _).trans (by unfold G2;rw [cV hr]),uE fun hr=>absurd rfl hr⟩;rw [hs];rfl
def fQ (r0:aA)(ai:List ak)(s:aw):aA:={r0 with ai:=ai,aa:=kF r0.aa s.aa r0.aa.length}
structure mI (r0:aA)(ai:List ak)(s:aw)(m:Nat):Prop where
 room:vC r0
 made: ∃t:Int,Made r0 ai s t∧t≤2+m
 len:ai.length≤m
 aq: ∀w' hd',w'<r0.ah.length→(hd'=0∨hd'=1)→aV s.aq w' hd'= -1
def kt (c:Nat):Nat:=ao c 339993
def kl (c:Nat):Nat:=ao c 393241
def ka (c:Nat):Nat:=ao c 62
theorem Gr {nm:Nm}(hB0:fU H nm){sd N:Nat}(hsd:1≤sd∧sd≤3)(hN:N≤15)(hN1:1≤N):
  ∃r0 ai s wd,mI r0 ai s (2*N+6)∧aL KC (aE KC) 11 [.ay nm 0, .pure (.int .i64 sd), .pure (.int .i64 N)] c H=
   some (.pure (.agg (fQ r0 ai s).row),H.set nm (bw wd)):=by
 have hlt:=gz hB0;have hset:=jI hB0;have hne: ¬nm.1=H.length:=(by omega);have hne2: ¬nm.1=H.length+1:=(by omega);have hle:nm.1≤H.length:=by omega
 suffices hs:mm (aL KC (aE KC) 11 [.ay nm 0, .pure (.int .i64 sd), .pure (.int .i64 N)] c H) (fun x=> ∃r0 ai s wd,mI r0 ai s (2*N+6)∧x=(.pure (.agg (fQ r0 ai s).row),H.set nm (bw wd)))by
  obtain⟨x,hx,r0,ai,s,wd,h1,h3⟩:=hs;exact⟨r0,ai,s,wd,h1,by rw [hx,h3]⟩
 refine bd KC au Tryz.func11 rfl rfl Sy rfl rfl rfl (by simp) (by omega) ?_;have hl: ∀w,(H.set nm (bw w)).length=H.length:=fun w=>aj.length_set _ _ _;obtain⟨r0,wd1,hRB,eroom⟩:=Fz (c:=24) (H:=[(6,iI)]::H) (nm:=nm) (dU hB0) hsd (by simp [ao]) (by simp [ao]) (by simp [ao]) (fun k e=>hne (by rw [e];simp));obtain⟨n,hb,hn⟩:=Qo hRB;have k1:ao 24 46=188441:=(by decide);have k2:ao 24 83=339993:=(by decide);have k3:ao 24 96=393241:=(by decide);have f1:ao 26 22=90139:=(by decide);have f2:ao 26 27=110619:=(by decide);have f3:ao 26 53=217115:=(by decide);have hroom:jf (aj.set (aj.set ([(6,iI)]::H.set nm (bw wd1)) (H.length,188441) (.arr 2 (r0.ah.map aS.row) 0 false)) (H.length,339993) (.arr 5 (r0.aa.map aZ.row) 0 false)) (H.length,393241) 1 (r0.aX.map aF)=eG 393241 1 (r0.aX.map aF) [(6,iI),(188441, .arr 2 (r0.ah.map aS.row) 0 false),(339993, .arr 5 (r0.aa.map aZ.row) 0 false)]::H.set nm (bw wd1):=by
  unfold jf eG;by_cases hls:r0.aX.map aF=[]
  ·rw [if_pos hls,if_pos hls];simp [hl]
  ·rw [if_neg hls,if_neg hls];simp [hl]
 simp only [List.length_cons,Nat.add_sub_cancel,k1,k2,k3,aj.dF hlt,hroom]at eroom;have efirst:=Fa (c:=26) (H:=G2 H.length r0::H.set nm (bw wd1)) (jD r0 []) (aaI (H:=H.set nm (bw wd1)) (hl _).symm hRB.seen) hRB.p0 hRB.t0 (by show r0.ah.length≤_;have:=hb.pl;omega) (by show r0.aa.length≤_;have:=hb.tl;omega) (by simp) (by simp [hl,f1,G2]) (by simp [hl,f2,G2]) (by simp [hl,f3,G2])
 have hfirst:cA (G2 H.length r0::H.set nm (bw wd1)) (H.length,90139) (H.length,110619) (H.length,217115) 0 0 0 (aJ (jD r0 []))=eG 393241 1 (r0.aX.map aF) [(6,iI),(7,gD H.length r0 []),(90139, .arr 1 ((aJ r0).ah.map aF) 0 false),(110619, .arr 2 ((aJ r0).aq.map aG.row) 0 false),(188441, .arr 2 (r0.ah.map aS.row) 0 false),(217115, .arr 2 ((aJ r0).aa.map bC.row) 0 false),(339993, .arr 5 (r0.aa.map aZ.row) 0 false)]::H.set nm (bw wd1):=by
  show cA _ _ _ _ 0 0 0 (aJ r0)=_
  simp [cA,hl,G2]
 simp only [List.length_cons,Nat.add_sub_cancel,hl,f1,f2,f3,hfirst]at efirst;obtain⟨t,wd2,e2,ht⟩:=pE wd1 3 (by omega) (by omega);obtain⟨i,wd3,e3,hi1,hi2⟩:=mF wd2 N (by omega) (by omega);have hB:=fun w f0=>ZR hlt w f0;have hW:=fun w f0=>Qm hlt w f0;have e4:rM H.length r0 []=vL (H.length,188441) (H.length,339993) (H.length,393241) r0:=rfl;rw [e4]at efirst;simp [iI,vL,lC,gD,G2,fI]at eroom efirst;have RS:CP H.length r0 0 2 (G4 H.length r0) [] (aJ r0) 0 t:=⟨aaH _ _,by omega,Made.first hRB (by omega),by simp,by omega⟩
 have L1:=fun Q=>GD (H:=H) hlt r0 n hb hn Q i 0 2 (G4 H.length r0) [] (aJ r0) 0 t wd3 (by omega) (by omega) (by omega) RS;simp [fA,G4,gD,dK,fo,cZ,eV,iI,fI]at L1;simp [iI,eroom,hl,efirst,kV,uS,hB,hW,hne,hlt,hle,aj.dF,e2,e3];refine L1 _ fun F1 acts1 s1 q1 t1 wd4 hR1=> ?_;clear L1;simp;have L2:=fun Q=>GF (H:=H.set nm (bw wd4)) r0 n hb q1 Q r0.ah.length 0 (2*i) (2+2*i) F1 acts1 s1 t1 (by omega) (by have:=hb.pl;omega) (by have:=hb.pl;omega) (by rw [hl];exact hR1) (fun w' hd' h=>absurd h (by omega));simp only [hl]at L2;refine L2 _ fun F2 acts2 s2 t2 hR2 hz=> ?_;clear L2;simp
 have L3:=fun Q=>GH (H:=H.set nm (bw wd4)) r0 n hb acts2 s2 q1 hR2.q2 hR2.md.snd.tl Q r0.aa.length 0 F2 r0.aa (by omega) (by
  rw [hl];exact⟨hR2.fi.g6,hR2.fi.g7,hR2.fi.g8,hR2.fi.gp,hR2.fi.gl,hR2.fi.ga,hR2.fi.sc.h3,⟨0,Nat.zero_le _,hR2.fi.gt⟩,rfl⟩) (by
  refine List.ext_getElem (by simp [kF]) fun j h1 h2=> ?_;rw [ke _ _ _ _ h1,if_neg (by omega)])
 simp only [hl]at L3;refine L3 _ fun F3 hF=> ?_;clear L3;have g6:=hF.g6;have g7:=hF.g7;obtain⟨v,hv,gt⟩:=hF.gt;simp only [iI,gD]at g6 g7;have p3:=hRB.p3;have ml:=hR2.ml;have tT:=hR2.tT;have hRes:mI r0 acts2 s2 (2*N+6):=⟨hRB,⟨t2,hR2.md,by omega⟩,by omega,hz⟩;simp [g6,g7,hl,Fr.bJ];have gp':=hF.gp;have gl':=hF.gl;have ga':=hF.ga;have tl:(kF r0.aa s2.aa r0.aa.length).length=r0.aa.length:=mH _ _ _
 suffices hs: ∀x,fW KC 11 c (.agg [.pure (.int .i64 r0.wide), .pure (.int .i64 r0.deep), .bc (H.length,188441) 2 r0.ah.length 0 r0.ah.length, .bc (H.length,339993) 5 r0.aa.length 0 r0.aa.length, .aW,cY (H.length,393241) 1 (r0.aX.map aF),cY (H.length,62) 9 (acts2.map ak.row)]) (F3.ins 6 x::H.set nm (bw wd4))=
   some (.pure (.agg (fQ r0 acts2 s2).row),H.set nm (bw wd4))by
  rw [hs,gB];exact⟨r0,acts2,s2,hRes,wd4,rfl⟩
 intro x;have e6: ∀k,k≠6→(F3.ins 6 x).get k=F3.get k:=fun k h=>Fr.az _ h _;have e1:=(e6 188441 (by decide)).trans gp';have e2:=(e6 339993 (by decide)).trans gt;have e3:=fun h=>(e6 393241 (by decide)).trans (gl' h);have e4:=fun h=>(e6 62 (by decide)).trans (ga' h);generalize F3.ins 6 x=F5 at e1 e2 e3 e4;rw [ae (by simp)];have lt:(H.set nm (bw wd4)).length-1<H.length:=(by rw [hl];omega);have hv':v≤r0.aa.length:=(by rw [←tl];exact hv);have nl: ¬H.length≤H.length-1:=(by omega);have q1: ∀k,aj.get (F5::H.set nm (bw wd4)) (H.length,k)=F5.get k:=fun k=>(by simp [hl]);have tk1:List.take r0.ah.length (r0.ah.map aS.row)=r0.ah.map aS.row:=List.take_of_length_le (by simp);have tk2:List.take r0.aa.length ((kF r0.aa s2.aa r0.aa.length).map aZ.row)=(kF r0.aa s2.aa r0.aa.length).map aZ.row:=List.take_of_length_le (by simp [tl]);have hc1:cH (F5::H.set nm (bw wd4)) ((H.set nm (bw wd4)).length-1) (.bc (H.length,188441) 2 r0.ah.length 0 r0.ah.length)= .pure (.slice (r0.ah.map aS.row)):=by
  simp [hl,nl,q1,e1,tk1]
 have hc2:cH (F5::H.set nm (bw wd4)) ((H.set nm (bw wd4)).length-1) (.bc (H.length,339993) 5 r0.aa.length 0 r0.aa.length)= .pure (.slice ((kF r0.aa s2.aa r0.aa.length).map aZ.row)):=by
  simp [hl,nl,q1,e2,tk2,tl,hv']
 have hc3:cH (F5::H.set nm (bw wd4)) ((H.set nm (bw wd4)).length-1) (cY (H.length,393241) 1 (r0.aX.map aF))=if r0.aX.map aF=[]then .aW else .pure (.slice (r0.aX.map aF)):=dc (hl _) lt (fun h=>e3 (by simpa using h));have hc4:cH (F5::H.set nm (bw wd4)) ((H.set nm (bw wd4)).length-1) (cY (H.length,62) 9 (acts2.map ak.row))=if acts2.map ak.row=[]then .aW else .pure (.slice (acts2.map ak.row)):=dc (hl _) lt (fun h=>e4 (by simpa using h));rw [py];have e:canon (cW ([.pure (.int .i64 r0.wide), .pure (.int .i64 r0.deep), .bc (H.length,188441) 2 r0.ah.length 0 r0.ah.length, .bc (H.length,339993) 5 r0.aa.length 0 r0.aa.length, .aW,cY (H.length,393241) 1 (r0.aX.map aF),cY (H.length,62) 9 (acts2.map ak.row)].map (cH (F5::H.set nm (bw wd4)) ((H.set nm (bw wd4)).length-1))))= .pure (.agg (fQ r0 acts2 s2).row):=by
  refine oB ?_;have ci: ∀rows:List (List PV),cn (if rows=[]then .aW else .pure (.slice rows))= .pure (.slice rows):=fun rows=>by
   split
   ·rename_i h;subst h;rfl
   ·rfl
  simp only [List.map_cons,List.map_nil,lN,hc1,hc2,hc3,hc4,ci];rw [eE];show _=_
  simp [fQ,hRB.seen]
 rw [e]
end
section
variable {c:Nat} {H:aj}
theorem su {l key es bytes:Nat}{rows:List (List PV)}{fr:Fr}(hl:H.length=l)(hf:fr.get key=none)(hb:rows.length*bytes≤1099511627776):
  yH l key .aW es bytes rows (fr::H)=some (cY (l,key) es rows,eG key es rows fr::H):=by
 subst hl;unfold cY eG;by_cases h:rows=[]
 ·subst h;simp
 ·have: ¬H.length+1≤H.length:=(by omega);simp [h,hf,hb,this]
theorem EJ (l:List Int)(hn:l.length≤1000000)(hH:0<H.length):aL KC (aE KC) 56 [.pure (.slice (l.map aF))] c H=some (.pure (.slice (l.map aF)),H):=by
 refine aM (bd KC au Tryz.func56 rfl rfl S6 rfl rfl rfl (by simp) hH ?_);have hb:l.length*8≤1099511627776:=(by omega);have A:=su (H:=H) (l:=H.length) (key:=5) (es:=1) (bytes:=8) (rows:=l.map aF) (fr:=[]) rfl rfl (by simpa using hb);have hall: ∀x:Int,(aF x).length=1:=fun x=>rfl;simp [A,hall];rw [ae]
 ·rw [gB,Ty rfl (by omega)]
 ·simp
def Cr (n2 n3 n7:Nm)(r:aA):GV:= .agg [.pure (.int .i64 r.wide), .pure (.int .i64 r.deep),cY n2 2 (r.ah.map aS.row),cY n3 5 (r.aa.map aZ.row), .pure (.slice (r.seen.map aF)), .pure (.slice (r.aX.map aF)),cY n7 9 (r.ai.map ak.row)]
def HM (H:aj)(n2 n3 n7:Nm)(r:aA):aj:=jf (jf (jf H n2 2 (r.ah.map aS.row)) n3 5 (r.aa.map aZ.row)) n7 9 (r.ai.map ak.row)
theorem Cs (r:aA) (h:gL r) (hH:0<H.length)
  (hf1:H.get (H.length-1,ao c 6)=none) (hf2:H.get (H.length-1,ao c 10)=none) (hf3:H.get (H.length-1,ao c 22)=none):
  aL KC (aE KC) 13 [.pure (.agg r.row)] c H=some (Cr (H.length-1,ao c 6) (H.length-1,ao c 10) (H.length-1,ao c 22) r,HM H (H.length-1,ao c 6) (H.length-1,ao c 10) (H.length-1,ao c 22) r):=by
 refine aM (bd KC au Tryz.func13 rfl rfl SB rfl rfl rfl (by simp) hH ?_);rw [eE];have h1:=h.p;have h2:=h.t;have h3:=h.a;have b1:r.ah.length*16≤1099511627776:=(by omega);have b2:r.aa.length*40≤1099511627776:=(by omega);have b3:r.ai.length*72≤1099511627776:=(by omega);have l1: ∀x:aS,x.row.length=2:=fun x=>rfl;have l2: ∀x:aZ,x.row.length=5:=fun x=>rfl;have l3: ∀x:ak,x.row.length=9:=fun x=>rfl;have I1:=fun c (H:aj) (hH:0<H.length)=>EJ (c:=c) (H:=H) r.seen h.s hH;have I2:=fun c (H:aj) (hH:0<H.length)=>EJ (c:=c) (H:=H) r.aX h.l hH;have A1:=fun fr hf=>su (H:=H) (l:=H.length) (key:=6) (es:=2) (bytes:=16) (rows:=r.ah.map aS.row) (fr:=fr) rfl hf (by simpa using b1);have A2:=fun fr hf=>su (H:=H) (l:=H.length) (key:=10) (es:=5) (bytes:=40) (rows:=r.aa.map aZ.row) (fr:=fr) rfl hf (by simpa using b2);have A3:=fun fr hf=>su (H:=H) (l:=H.length) (key:=22) (es:=9) (bytes:=72) (rows:=r.ai.map ak.row) (fr:=fr) rfl hf (by simpa using b3);simp [A1,A2,A3,l1,l2,l3,I1,I2];have nV:ao c 6≠ao c 10:=(by unfold ao;omega);have m9:ao c 6≠ao c 22:=(by unfold ao;omega);have lM:ao c 10≠ao c 22:=(by unfold ao;omega);have nn: ∀a b:Nat,a≠b→((H.length-1,b):Nm)≠(H.length-1,a):=fun a b h e=>h (Prod.mk.inj e).2.symm;have gg: ∀(H':aj) (a b:Nat) (x:dE),a≠b→(H'.set (H.length-1,a) x).get (H.length-1,b)=H'.get (H.length-1,b):=fun H' a b x h=>aj.aH x (nn a b h);have d2:=fun x=>(gg H _ _ x nV).trans hf2;have d3:=fun x=>(gg H _ _ x m9).trans hf3;have d3':=fun x=>(gg H _ _ x lM).trans hf3;have d4:=fun x y=>(gg (H.set (H.length-1,ao c 6) x) _ _ y lM).trans (d3 x)
 suffices hs: ∀x y,fW KC 13 c (Cr (H.length,6) (H.length,10) (H.length,22) r) (eG 22 9 (r.ai.map ak.row) (eG 10 5 (r.aa.map aZ.row) (eG 6 2 (r.ah.map aS.row) [(1,x),(2,y)]))::H)=
   some (Cr (H.length-1,ao c 6) (H.length-1,ao c 10) (H.length-1,ao c 22) r,HM H (H.length-1,ao c 6) (H.length-1,ao c 10) (H.length-1,ao c 22) r)by
  have:=hs;unfold Cr at this;rw [this,gB];rfl
 intro x y;unfold Cr HM;by_cases e1:r.ah=[]
 ·by_cases e2:r.aa=[]
  ·by_cases e3:r.ai=[]
   ·simp [e1,e2,e3,cY,eG,bU,refs,dM,c9,cz,dq,dr,dedup,cJ,cf,tr,ux,jY,gY,jf,hf1,hf2,hf3,d2,d3,d3',d4]
   ·simp [e1,e2,e3,cY,eG,bU,refs,dM,c9,cz,dq,dr,dedup,cJ,cf,tr,ux,jY,gY,jf,hf1,hf2,hf3,d2,d3,d3',d4]
  ·by_cases e3:r.ai=[]
   ·simp [e1,e2,e3,cY,eG,bU,refs,dM,c9,cz,dq,dr,dedup,cJ,cf,tr,ux,jY,gY,jf,hf1,hf2,hf3,d2,d3,d3',d4]
   ·simp [e1,e2,e3,cY,eG,bU,refs,dM,c9,cz,dq,dr,dedup,cJ,cf,tr,ux,jY,gY,jf,hf1,hf2,hf3,d2,d3,d3',d4]
 ·by_cases e2:r.aa=[]
  ·by_cases e3:r.ai=[]
   ·simp [e1,e2,e3,cY,eG,bU,refs,dM,c9,cz,dq,dr,dedup,cJ,cf,tr,ux,jY,gY,jf,hf1,hf2,hf3,d2,d3,d3',d4]
   ·simp [e1,e2,e3,cY,eG,bU,refs,dM,c9,cz,dq,dr,dedup,cJ,cf,tr,ux,jY,gY,jf,hf1,hf2,hf3,d2,d3,d3',d4]
  ·by_cases e3:r.ai=[]
   ·simp [e1,e2,e3,cY,eG,bU,refs,dM,c9,cz,dq,dr,dedup,cJ,cf,tr,ux,jY,gY,jf,hf1,hf2,hf3,d2,d3,d3',d4]
   ·simp [e1,e2,e3,cY,eG,bU,refs,dM,c9,cz,dq,dr,dedup,cJ,cf,tr,ux,jY,gY,jf,hf1,hf2,hf3,d2,d3,d3',d4]
theorem yO {F:Fr}{l key es:Nat}{rows:List (List PV)}(hl:H.length=l):jf (F::H) (l,key) es rows=eG key es rows F::H:=by
 subst hl;unfold jf eG;split
 ·rfl
 ·simp
theorem rU {key es:Nat}{rows:List (List PV)}{F:Fr}{b:dE}:(eG key es rows F).ins key b=F.ins key b:=by
 unfold eG;split
 ·rfl
 ·exact Fr.iq _
end
section
variable {c:Nat} {H:aj}
theorem jR {K:Ctx}{rec:Rec}{f:FuncId}{args:List GV}(h1:jy args=false)(h2:K.Af f=false)(h3:K.EO f=false):aL K rec f args c H=bI K rec f args c H:=by
 unfold aL;simp [h1,h2,h3]
section
variable {x:List PV} {l:List (List PV)}
theorem yz:iH KC .eql 22 (.pure (.slice (x::l)))=some (.bool false):=by
 unfold iH;rw [EP,Tryz.underlying22];rfl
theorem yA:iH KC .eql 23 (.pure (.slice (x::l)))=some (.bool false):=by
 unfold iH;rw [EP,Tryz.underlying23];rfl
theorem yB:iH KC .eql 24 (.pure (.slice (x::l)))=some (.bool false):=by
 unfold iH;rw [EP,Tryz.underlying24];rfl
theorem yC:iH KC .eql 25 (.pure (.slice (x::l)))=some (.bool false):=by
 unfold iH;rw [EP,Tryz.underlying25];rfl
theorem yD:iH KC .eql 38 (.pure (.slice (x::l)))=some (.bool false):=by
 unfold iH;rw [EP,Tryz.underlying38];rfl
theorem yE:iH KC .eql 39 (.pure (.slice (x::l)))=some (.bool false):=by
 unfold iH;rw [EP,Tryz.underlying39];rfl
end
theorem o7 (l:List Int)(h0:l≠[])(hn:l.length≤1000000)(hH:0<H.length)(hf:H.get (H.length-1,ao c 7)=none):
  aL KC (aE KC) 99 [.pure (.slice (l.map aF))] c H=some (.bc (H.length-1,ao c 7) 1 l.length 0 l.length,H.set (H.length-1,ao c 7) (.arr 1 (l.map aF) 0 false)):=by
 obtain⟨x,l',rfl⟩:=List.exists_cons_of_ne_nil h0;have hb:(l'.length+1)*8≤1099511627776:=(by simp at hn;omega);have hall: ∀x:Int,(aF x).length=1:=fun x=>rfl;have hnl: ¬H.length+1≤H.length:=(by omega);rw [jR rfl rfl rfl];refine aM (aK KC au Tryz.func99 rfl rfl Tw (by simp) hH ?_);simp [yz,yA,yB,yC,yD,yE,hb,hall,hnl,bU,refs,dM,c9,cz,dq,dr,dedup,cJ,cf,tr,hf,ux,jY,gY]
theorem sv (l:List aG)(h0:l≠[])(hn:l.length≤1000000)(hH:0<H.length)(hf:H.get (H.length-1,ao c 7)=none):
  aL KC (aE KC) 100 [.pure (.slice (l.map aG.row))] c H=some (.bc (H.length-1,ao c 7) 2 l.length 0 l.length,H.set (H.length-1,ao c 7) (.arr 2 (l.map aG.row) 0 false)):=by
 obtain⟨x,l',rfl⟩:=List.exists_cons_of_ne_nil h0;have hb:(l'.length+1)*16≤1099511627776:=(by simp at hn;omega);have hall: ∀x:aG,(aG.row x).length=2:=fun x=>rfl;have hnl: ¬H.length+1≤H.length:=(by omega);rw [jR rfl rfl rfl];refine aM (aK KC au Tryz.func100 rfl rfl Ls (by simp) hH ?_);simp [yz,yA,yB,yC,yD,yE,hb,hall,hnl,bU,refs,dM,c9,cz,dq,dr,dedup,cJ,cf,tr,hf,ux,jY,gY]
theorem z8 (l:List bC)(h0:l≠[])(hn:l.length≤1000000)(hH:0<H.length)(hf:H.get (H.length-1,ao c 7)=none):
  aL KC (aE KC) 101 [.pure (.slice (l.map bC.row))] c H=some (.bc (H.length-1,ao c 7) 2 l.length 0 l.length,H.set (H.length-1,ao c 7) (.arr 2 (l.map bC.row) 0 false)):=by
 obtain⟨x,l',rfl⟩:=List.exists_cons_of_ne_nil h0;have hb:(l'.length+1)*16≤1099511627776:=(by simp at hn;omega);have hall: ∀x:bC,(bC.row x).length=2:=fun x=>rfl;have hnl: ¬H.length+1≤H.length:=(by omega);rw [jR rfl rfl rfl];refine aM (aK KC au Tryz.func101 rfl rfl Lt (by simp) hH ?_);simp [yz,yA,yB,yC,yD,yE,hb,hall,hnl,bU,refs,dM,c9,cz,dq,dr,dedup,cJ,cf,tr,hf,ux,jY,gY]
theorem vZ (l:List aS)(h0:l≠[])(hn:l.length≤1000000)(hH:0<H.length)(hf:H.get (H.length-1,ao c 7)=none):
  aL KC (aE KC) 102 [.pure (.slice (l.map aS.row))] c H=some (.bc (H.length-1,ao c 7) 2 l.length 0 l.length,H.set (H.length-1,ao c 7) (.arr 2 (l.map aS.row) 0 false)):=by
 obtain⟨x,l',rfl⟩:=List.exists_cons_of_ne_nil h0;have hb:(l'.length+1)*16≤1099511627776:=(by simp at hn;omega);have hall: ∀x:aS,(aS.row x).length=2:=fun x=>rfl;have hnl: ¬H.length+1≤H.length:=(by omega);rw [jR rfl rfl rfl];refine aM (aK KC au Tryz.func102 rfl rfl Lu (by simp) hH ?_);simp [yz,yA,yB,yC,yD,yE,hb,hall,hnl,bU,refs,dM,c9,cz,dq,dr,dedup,cJ,cf,tr,hf,ux,jY,gY]
theorem w8 (l:List aZ)(h0:l≠[])(hn:l.length≤1000000)(hH:0<H.length)(hf:H.get (H.length-1,ao c 7)=none):
  aL KC (aE KC) 103 [.pure (.slice (l.map aZ.row))] c H=some (.bc (H.length-1,ao c 7) 5 l.length 0 l.length,H.set (H.length-1,ao c 7) (.arr 5 (l.map aZ.row) 0 false)):=by
 obtain⟨x,l',rfl⟩:=List.exists_cons_of_ne_nil h0;have hb:(l'.length+1)*40≤1099511627776:=(by simp at hn;omega);have hall: ∀x:aZ,(aZ.row x).length=5:=fun x=>rfl;have hnl: ¬H.length+1≤H.length:=(by omega);rw [jR rfl rfl rfl];refine aM (aK KC au Tryz.func103 rfl rfl Lv (by simp) hH ?_);simp [yz,yA,yB,yC,yD,yE,hb,hall,hnl,bU,refs,dM,c9,cz,dq,dr,dedup,cJ,cf,tr,hf,ux,jY,gY]
theorem tM (l:List ak)(h0:l≠[])(hn:l.length≤1000000)(hH:0<H.length)(hf:H.get (H.length-1,ao c 7)=none):
  aL KC (aE KC) 75 [.pure (.slice (l.map ak.row))] c H=some (.bc (H.length-1,ao c 7) 9 l.length 0 l.length,H.set (H.length-1,ao c 7) (.arr 9 (l.map ak.row) 0 false)):=by
 obtain⟨x,l',rfl⟩:=List.exists_cons_of_ne_nil h0;have hb:(l'.length+1)*72≤1099511627776:=(by simp at hn;omega);have hall: ∀x:ak,(ak.row x).length=9:=fun x=>rfl;have hnl: ¬H.length+1≤H.length:=(by omega);rw [jR rfl rfl rfl];refine aM (aK KC au Tryz.func75 rfl rfl Tj (by simp) hH ?_);simp [yz,yA,yB,yC,yD,yE,hb,hall,hnl,bU,refs,dM,c9,cz,dq,dr,dedup,cJ,cf,tr,hf,ux,jY,gY]
end
section
variable {c:Nat} {H:aj}
def bM (r:aA)(s:aw):dE:= .box [.pure (.int .i64 r.wide), .pure (.int .i64 r.deep), .pure (.slice (r.ah.map aS.row)), .pure (.slice (r.aa.map aZ.row)), .pure (.slice (r.seen.map aF)), .pure (.slice (r.aX.map aF)), .pure (.slice (r.ai.map ak.row)), .pure (.slice (s.ah.map aF)), .pure (.slice (s.aq.map aG.row)), .pure (.slice (s.aa.map bC.row))]
structure Full (s:aw):Prop where
 p0:s.ah≠[]
 h0:s.aq≠[]
 pl:s.ah.length≤1000000
 hl:s.aq.length≤1000000
 tl:s.aa.length≤1000000
theorem xY (r:aA){s:aw}(h:Full s)(ht0:s.aa≠[])(hH:0<H.length)(hf1:H.get (H.length-1,ao c 28679)=none)(hf2:H.get (H.length-1,ao c 28683)=none)(hf3:H.get (H.length-1,ao c 28687)=none):
  aL KC (aE KC) 63 [.pure (.agg (aP r s))] c H=some (tB r (H.length-1,ao c 28679) (H.length-1,ao c 28683) (H.length-1,ao c 28687) s,
   cA H (H.length-1,ao c 28679) (H.length-1,ao c 28683) (H.length-1,ao c 28687) 0 0 0 s):=by
 refine aM (bd KC au Tryz.func63 rfl rfl Hk rfl rfl rfl (by simp) hH ?_);have nV:ao c 28679≠ao c 28683:=(by unfold ao;omega);have m9:ao c 28679≠ao c 28687:=(by unfold ao;omega);have lM:ao c 28683≠ao c 28687:=(by unfold ao;omega);have k1:(H.length-1,ao c 28683)≠((H.length-1,ao c 28679):Nm):=fun e=>nV (Prod.mk.inj e).2.symm;have k2:(H.length-1,ao c 28687)≠((H.length-1,ao c 28679):Nm):=fun e=>m9 (Prod.mk.inj e).2.symm;have k3:(H.length-1,ao c 28687)≠((H.length-1,ao c 28683):Nm):=fun e=>lM (Prod.mk.inj e).2.symm;have g2: ∀b,(H.set (H.length-1,ao c 28679) b).get (H.length-1,ao c 28683)=none:=fun b=>(aj.aH b k1).trans hf2;have g3: ∀b b',((H.set (H.length-1,ao c 28679) b).set (H.length-1,ao c 28683) b').get (H.length-1,ao c 28687)=none:=fun b b'=>(aj.aH b' k3).trans ((aj.aH b k2).trans hf3);have m1:ao 6 7=28679:=(by decide);have m2:ao 10 7=28683:=(by decide);have m3:ao 14 7=28687:=(by decide);have C1:=fun(F:Fr) (hf:F.get 28679=none)=>o7 (c:=6) (H:=F::H) s.ah h.p0 h.pl (by simp) (by simp [m1,hf]);have C2:=fun(F:Fr) (hf:F.get 28683=none)=>sv (c:=10) (H:=F::H) s.aq h.h0 h.hl (by simp) (by simp [m2,hf]);have C3:=fun(F:Fr) (hf:F.get 28687=none)=>z8 (c:=14) (H:=F::H) s.aa ht0 h.tl (by simp) (by simp [m3,hf]);simp [m1,m2,m3]at C1 C2 C3;unfold aP;simp [C1,C2,C3,bU,refs,dM,c9,cz,dq,dr,dedup,cJ,cf,tr,hf1,g2,g3,ux,jY,gY,cA,tB]
def Uh (r:aA)(n1 n2:Nm)(s:aw):GV:= .agg [.pure (.int .i64 r.wide), .pure (.int .i64 r.deep), .pure (.slice (r.ah.map aS.row)), .pure (.slice (r.aa.map aZ.row)), .pure (.slice (r.seen.map aF)), .pure (.slice (r.aX.map aF)), .pure (.slice (r.ai.map ak.row)), .bc n1 1 s.ah.length 0 s.ah.length, .bc n2 2 s.aq.length 0 s.aq.length, .aW]
theorem B6:aL KC (aE KC) 101 [.pure (.slice [])] c H=some (.aW,H):=by
 unfold aL;rw [show KC.wP 101=true from rfl]
 simp [jy]
theorem vW (r:aA){s:aw}(h:Full s)(ht0:s.aa=[])(hH:0<H.length)(hf1:H.get (H.length-1,ao c 28679)=none)(hf2:H.get (H.length-1,ao c 28683)=none):
  aL KC (aE KC) 63 [.pure (.agg (aP r s))] c H=some (Uh r (H.length-1,ao c 28679) (H.length-1,ao c 28683) s,
   (H.set (H.length-1,ao c 28679) (.arr 1 (s.ah.map aF) 0 false)).set (H.length-1,ao c 28683) (.arr 2 (s.aq.map aG.row) 0 false)):=by
 refine aM (bd KC au Tryz.func63 rfl rfl Hk rfl rfl rfl (by simp) hH ?_);have nV:ao c 28679≠ao c 28683:=(by unfold ao;omega);have k1:(H.length-1,ao c 28683)≠((H.length-1,ao c 28679):Nm):=fun e=>nV (Prod.mk.inj e).2.symm;have g2: ∀b,(H.set (H.length-1,ao c 28679) b).get (H.length-1,ao c 28683)=none:=fun b=>(aj.aH b k1).trans hf2;have m1:ao 6 7=28679:=(by decide);have m2:ao 10 7=28683:=(by decide);have C1:=fun(F:Fr) (hf:F.get 28679=none)=>o7 (c:=6) (H:=F::H) s.ah h.p0 h.pl (by simp) (by simp [m1,hf]);have C2:=fun(F:Fr) (hf:F.get 28683=none)=>sv (c:=10) (H:=F::H) s.aq h.h0 h.hl (by simp) (by simp [m2,hf]);have C3:=fun(H:aj)=>B6 (c:=14) (H:=H);simp [m1,m2]at C1 C2;unfold aP;simp [ht0,C1,C2,C3,bU,refs,dM,c9,cz,dq,dr,dedup,cJ,cf,tr,hf1,g2,ux,jY,gY,Uh]
def acF (r:aA)(s:aw):Prop:= ∀i,i<r.aa.length→s.aa.getD i aR=⟨(r.aa.getD i dm).home,(r.aa.getD i dm).want⟩
def aaJ (s:aw):Prop:=s.aq=s.aq.map fun _=>empty
noncomputable def pN:aA→aw→Bool:=nO fun r s=>decide (s.aq=s.aq.map fun _=>empty) && decide (∀i,i<r.aa.length→s.aa.getD i aR=⟨(r.aa.getD i dm).home,(r.aa.getD i dm).want⟩)
theorem mA (r:aA)(s:aw):pN r s=(decide (s.aq=s.aq.map fun _=>empty) && decide (∀i,i<r.aa.length→s.aa.getD i aR=⟨(r.aa.getD i dm).home,(r.aa.getD i dm).want⟩)):=by rw [pN,cP]
theorem GI (r:aA)(s:aw)(hn:s.aq.length≤1000000)(Q:GX→bO→Prop): ∀k i:Nat,i+k=s.aq.length→
  ((∀j,i≤j→j<s.aq.length→s.aq.getD j bA=empty)→Q (.exit 0) ⟨[(1, .ay (H.length,1) 0),(2,aN)],[(1,bM r s)]::H,41⟩)→
  (¬(∀j,i≤j→j<s.aq.length→s.aq.getD j bA=empty)→Q .ret ⟨[(1, .ay (H.length,1) 0),(2, .pure (.bool false))],[(1,bM r s)]::H,41⟩)→
  iB KC au 94 (lp Tryz.f94 0) [1,9,10,11] [1,2] Q [(1, .ay (H.length,1) 0),(9, .pure (.slice (s.aq.map aG.row))),(10, .pure (.int .i64 s.aq.length)),(11, .pure (.int .i64 i))] ([(1,bM r s)]::H) 41:=by
 intro k
 induction k with
 |zero=>
  intro i hi h1 h2;apply ax;conv=>arg 4;whnf
  have: ¬i<s.aq.length:=(by omega);simp [this,bM];simpa [bM]using h1 (fun j a b=>by omega)
 |succ k ih=>
  intro i hi h1 h2;have hia:i<s.aq.length:=(by omega);have hw:=dp (x:=(i:Int)+1) (by omega) (by omega);have hg:=aQ (d:=bA) hia;apply ax;conv=>arg 4;whnf
  by_cases e1:s.aq[i].l= -1
  ·by_cases e2:s.aq[i].r= -1
   ·have he:s.aq.getD i bA=empty:=(by rw [hg];cases hh:s.aq[i];rw [hh]at e1 e2;simp only at e1 e2;rw [e1,e2];rfl);have ih':=ih (i+1) (by omega) (fun h=>h1 fun j a b=>by
     by_cases e:j=i
     ·rw [e];exact he
     ·exact h j (by omega) b) (fun h=>h2 fun h'=>h fun j a b=>h' j (by omega) b)
    simp [hia,aG.row,hw,bM,e1,e2];simpa [aG.row,bM]using ih'
   ·have e2':(s.aq[i].r== -1)=false:=(by simpa using e2);simp [hia,aG.row,bM,e1,e2'];simpa [bM]using h2 fun h'=>by
     have:=h' i (Nat.le_refl _) hia;rw [hg]at this;rw [this]at e2;exact e2 rfl
  ·have e1':(s.aq[i].l== -1)=false:=(by simpa using e1);simp [hia,aG.row,bM,e1'];simpa [bM]using h2 fun h'=>by
    have:=h' i (Nat.le_refl _) hia;rw [hg]at this;rw [this]at e1;exact e1 rfl
theorem GJ (r:aA)(s:aw)(hn:r.aa.length≤1000000)(hst:s.aa.length=r.aa.length)(Q:GX→bO→Prop): ∀k i:Nat,i+k=r.aa.length→
  ((∀j,i≤j→j<r.aa.length→s.aa.getD j aR=⟨(r.aa.getD j dm).home,(r.aa.getD j dm).want⟩)→Q (.exit 2) ⟨[(2,aN)],[(1,bM r s)]::H,41⟩)→
  (¬(∀j,i≤j→j<r.aa.length→s.aa.getD j aR=⟨(r.aa.getD j dm).home,(r.aa.getD j dm).want⟩)→Q .ret ⟨[(2, .pure (.bool false))],[(1,bM r s)]::H,41⟩)→
  iB KC au 94 (lp Tryz.f94 1) [1,21,22,23] [2] Q [(1, .ay (H.length,1) 0),(21, .pure (.slice (r.aa.map aZ.row))),(22, .pure (.int .i64 r.aa.length)),(23, .pure (.int .i64 i))] ([(1,bM r s)]::H) 41:=by
 intro k
 induction k with
 |zero=>
  intro i hi h1 h2;apply ax;conv=>arg 4;whnf
  have: ¬i<r.aa.length:=(by omega);simp [this,bM];simpa [bM]using h1 (fun j a b=>by omega)
 |succ k ih=>
  intro i hi h1 h2;have hia:i<r.aa.length:=(by omega);have his:i<s.aa.length:=(by omega);have hw:=dp (x:=(i:Int)+1) (by omega) (by omega);have hg:=aQ (d:=dm) hia;have hg2:=aQ (d:=aR) his;apply ax;conv=>arg 4;whnf
  by_cases e1:s.aa[i].cell=r.aa[i].home
  ·by_cases e2:s.aa[i].state=r.aa[i].want
   ·have he:s.aa.getD i aR=⟨(r.aa.getD i dm).home,(r.aa.getD i dm).want⟩:=(by rw [hg,hg2,←e1,←e2]);have ih':=ih (i+1) (by omega) (fun h=>h1 fun j a b=>by
     by_cases e:j=i
     ·rw [e];exact he
     ·exact h j (by omega) b) (fun h=>h2 fun h'=>h fun j a b=>h' j (by omega) b)
    simp [hia,his,aZ.row,bC.row,hw,bM,e1,e2];simpa [aZ.row,bC.row,bM]using ih'
   ·have e2':(s.aa[i].state==r.aa[i].want)=false:=(by simpa using e2);simp [hia,his,aZ.row,bC.row,bM,e1,e2'];simpa [bM]using h2 fun h'=>by
     have:=h' i (Nat.le_refl _) hia;rw [hg,hg2]at this;rw [this]at e2;exact e2 rfl
  ·have e1':(s.aa[i].cell==r.aa[i].home)=false:=(by simpa using e1);simp [hia,his,aZ.row,bC.row,bM,e1'];simpa [bM]using h2 fun h'=>by
    have:=h' i (Nat.le_refl _) hia;rw [hg,hg2]at this;rw [this]at e1;exact e1 rfl
theorem uW (r:aA)(s:aw)(hn:r.aa.length≤1000000)(hn2:s.aq.length≤1000000)(hst:s.aa.length=r.aa.length)(hH:0<H.length):
  aL KC (aE KC) 94 [.pure (.agg (aP r s))] c H=some (.pure (.bool (pN r s)),H):=by
 refine eJ rfl rfl rfl rfl rfl hH fun H hH=> ?_;refine aM (aK KC au Tryz.func94 rfl rfl Tv (by simp) hH ?_);have hd:=mA r s;have eh:(∀j,0≤j→j<s.aq.length→s.aq.getD j bA=empty)↔aaJ s:=by
  unfold aaJ;constructor
  ·intro h;refine List.ext_getElem (by simp) fun j h1 h2=> ?_;have:=h j (Nat.zero_le _) h1;rw [aQ h1]at this;simp [this]
  ·intro h j _ hj;rw [aQ hj];have:s.aq[j]'hj=(s.aq.map fun _=>empty)[j]'(by simpa using hj):=(by congr 1);rw [this];simp
 have et:(∀j,0≤j→j<r.aa.length→s.aa.getD j aR=⟨(r.aa.getD j dm).home,(r.aa.getD j dm).want⟩)↔acF r s:=⟨fun h i hi=>h i (Nat.zero_le _) hi,fun h i _ hi=>h i hi⟩;have L1:=fun Q=>GI (H:=H) r s hn2 Q s.aq.length 0 (by omega);rw [eh]at L1;have L2:=fun Q=>GJ (H:=H) r s hn hst Q r.aa.length 0 (by omega);rw [et]at L2;unfold aP;simp;simp [bM]at L1 L2;refine L1 _ (fun h=> ?_) (fun h=> ?_)
 ·simp;refine L2 _ (fun h2=> ?_) (fun h2=> ?_)
  ·have:pN r s=true:=(by rw [hd,decide_eq_true (p:=s.aq=s.aq.map fun _=>empty) h,Bool.true_and];exact decide_eq_true (p:= ∀i,i<r.aa.length→s.aa.getD i aR=⟨(r.aa.getD i dm).home,(r.aa.getD i dm).want⟩) h2);simp [ae,this]
  ·have:pN r s=false:=by
    rw [hd,Bool.and_eq_false_iff];right;exact decide_eq_false (p:= ∀i,i<r.aa.length→s.aa.getD i aR=⟨(r.aa.getD i dm).home,(r.aa.getD i dm).want⟩) h2
   simp [ae,this]
 ·have:pN r s=false:=by
   rw [hd,Bool.and_eq_false_iff];left;exact decide_eq_false (p:=s.aq=s.aq.map fun _=>empty) h
  simp [ae,this]
end
section
variable {c:Nat} {H:aj}
theorem aaK {l key es bytes cZ es2:Nat}{rows rows2:List (List PV)}{r:List PV}{X f0:Fr}(hl:H.length=l)(hne:key≠cZ)(hf:X.get key=none)(hb:(rows.length+1)*bytes≤1099511627776):
  yH l key (cY (l,key) es rows) es bytes [r] (f0::eG cZ es2 rows2 (eG key es rows X)::H)=some (cY (l,key) es (rows++[r]),f0::eG cZ es2 rows2 (eG key es (rows++[r]) X)::H):=by
 subst hl;have g: ∀rows,(eG cZ es2 rows2 (eG key es rows X)).get key=(eG key es rows X).get key:=fun rows=>bQ hne;have hh: ∀Fx:Fr,aj.get (f0::Fx::H) (H.length,key)=Fx.get key:=fun Fx=>(by simp);rw [rb (fun h=>(hh _).trans ((g _).trans (by rw [h,fJ,hf]))) (fun h=>(hh _).trans ((g _).trans (cV h))) (by simp;omega) hb];have e:(eG cZ es2 rows2 (eG key es rows X)).ins key (.arr es (rows++[r]) 0 false)=eG cZ es2 rows2 (eG key es (rows++[r]) X):=by
  rw [Mp hne,rU];congr 1;unfold eG;simp
 simp [e]
def o6:dE:= .box [.pure (.int .i64 0), .pure (.int .i64 0), .aW, .aW, .aW, .aW, .aW, .aW, .aW, .aW]
def D0 (r:aA)(L:Nat)(p:List Int)(h:List aG):Fr:=eG 31 2 (h.map aG.row) (eG 23 1 (p.map aF) [(1,aU r),(2,o6),(3, .box [.pure (.int .i64 r.wide), .pure (.int .i64 r.deep), .pure (.slice (r.ah.map aS.row)), .pure (.slice (r.aa.map aZ.row)), .pure (.slice (r.seen.map aF)), .pure (.slice (r.aX.map aF)), .pure (.slice (r.ai.map ak.row)),cY (L,23) 1 (p.map aF),cY (L,31) 2 (h.map aG.row), .aW])])
theorem GK (r:aA)(hpl:r.ah.length≤1000000)(Q:GX→bO→Prop): ∀(k i:Nat) (p:List Int) (h:List aG),i+k=r.ah.length→p.length=i→h.length=i→
  Q (.exit 0) ⟨[(1, .ay (H.length,1) 0),(2, .ay (H.length,2) 0),(3, .ay (H.length,3) 0)],D0 r H.length (p++(r.ah.drop i).map (·.cell)) (h++(r.ah.drop i).map fun _=>empty)::H,56⟩→
  iB KC au 92 (lp Tryz.f92 0) [1,2,3,11,12,13] [1,2,3] Q [(1, .ay (H.length,1) 0),(2, .ay (H.length,2) 0),(3, .ay (H.length,3) 0),(11, .pure (.slice (r.ah.map aS.row))),(12, .pure (.int .i64 r.ah.length)),(13, .pure (.int .i64 i))] (D0 r H.length p h::H) 56:=by
 intro k
 induction k with
 |zero=>
  intro i p h hi hp hh hq;have e1:r.ah.drop i=[]:=List.drop_of_length_le (by omega);rw [e1]at hq;apply ax;conv=>arg 4;whnf
  have: ¬i<r.ah.length:=(by omega);simp [this,D0];simpa [D0]using hq
 |succ k ih=>
  intro i p h hi hp hh hq;have hia:i<r.ah.length:=(by omega);have hw:=dp (x:=(i:Int)+1) (by omega) (by omega);have e1:r.ah.drop i=r.ah[i]::r.ah.drop (i+1):=List.drop_eq_getElem_cons hia;have ih':=ih (i+1) (p++[r.ah[i].cell]) (h++[empty]) (by omega) (by simp [hp]) (by simp [hh]) (by rw [e1,List.map_cons,List.map_cons]at hq;rw [List.append_assoc,List.append_assoc];exact hq);have b1:(p.length+1)*8≤1099511627776:=(by omega);have b2:(h.length+1)*16≤1099511627776:=(by omega);have K1:=fun(f0 X:Fr) hf=>aaK (H:=H) (l:=H.length) (key:=23) (es:=1) (bytes:=8) (cZ:=31) (es2:=2) (rows:=p.map aF) (rows2:=h.map aG.row) (r:=[.int .i64 r.ah[i].cell]) (X:=X) (f0:=f0) rfl (by decide) hf (by simpa using b1);have K2:=fun(f0 X:Fr) hf=>Hp (H:=H) (l:=H.length) (key:=31) (es:=2) (bytes:=16) (rows:=h.map aG.row) (r:=[.int .i64 (-1), .int .i64 (-1)]) (fr:=X) (f0:=f0) rfl hf (by simpa using b2);apply ax;conv=>arg 4;whnf
  simp [D0,aF,aG.row,empty]at ih';simp [hia,aS.row,D0,hw,K1,K2];exact ih'
def D3 (r:aA)(L:Nat)(p:List Int)(h:List aG)(t:List bC):Fr:=eG 51 2 (t.map bC.row) (eG 31 2 (h.map aG.row) (eG 23 1 (p.map aF) [(1,aU r),(2,o6),(3, .box [.pure (.int .i64 r.wide), .pure (.int .i64 r.deep), .pure (.slice (r.ah.map aS.row)), .pure (.slice (r.aa.map aZ.row)), .pure (.slice (r.seen.map aF)), .pure (.slice (r.aX.map aF)), .pure (.slice (r.ai.map ak.row)),cY (L,23) 1 (p.map aF),cY (L,31) 2 (h.map aG.row),cY (L,51) 2 (t.map bC.row)])]))
theorem GL (r:aA)(htl:r.aa.length≤1000000)(p:List Int)(h:List aG)(Q:GX→bO→Prop): ∀(k i:Nat) (t:List bC),i+k=r.aa.length→t.length=i→
  Q (.exit 2) ⟨[(2, .ay (H.length,2) 0),(3, .ay (H.length,3) 0)],D3 r H.length p h (t++(r.aa.drop i).map eY)::H,56⟩→
  iB KC au 92 (lp Tryz.f92 1) [2,3,36,37,38] [2,3] Q [(2, .ay (H.length,2) 0),(3, .ay (H.length,3) 0),(36, .pure (.slice (r.aa.map aZ.row))),(37, .pure (.int .i64 r.aa.length)),(38, .pure (.int .i64 i))] (D3 r H.length p h t::H) 56:=by
 intro k
 induction k with
 |zero=>
  intro i t hi ht hq;have e1:r.aa.drop i=[]:=List.drop_of_length_le (by omega);rw [e1]at hq;apply ax;conv=>arg 4;whnf
  have: ¬i<r.aa.length:=(by omega);simp [this,D3];simpa [D3]using hq
 |succ k ih=>
  intro i t hi ht hq;have hia:i<r.aa.length:=(by omega);have hw:=dp (x:=(i:Int)+1) (by omega) (by omega);have e1:r.aa.drop i=r.aa[i]::r.aa.drop (i+1):=List.drop_eq_getElem_cons hia;have ih':=ih (i+1) (t++[eY r.aa[i]]) (by omega) (by simp [ht]) (by rw [e1,List.map_cons]at hq;rw [List.append_assoc];exact hq);have b2:(t.length+1)*16≤1099511627776:=(by omega);have K2:=fun(f0 X:Fr) hf=>Hp (H:=H) (l:=H.length) (key:=51) (es:=2) (bytes:=16) (rows:=t.map bC.row) (r:=[.int .i64 r.aa[i].cell, .int .i64 r.aa[i].state]) (fr:=X) (f0:=f0) rfl hf (by simpa using b2);apply ax;conv=>arg 4;whnf
  simp [D3,bC.row,eY]at ih';simp [hia,aZ.row,D3,hw,K2];exact ih'
theorem sG (r:aA)(hpl:r.ah.length≤1000000)(htl:r.aa.length≤1000000)(hH:0<H.length):
  aL KC (aE KC) 92 [.pure (.agg r.row)] c H=some (.pure (.agg (aP r (aJ r))),H):=by
 refine aM (bd KC au Tryz.func92 rfl rfl Tt rfl rfl rfl (by simp) hH ?_);rw [eE];have L1:=fun Q h=>GK (H:=H) r hpl Q r.ah.length 0 [] [] (by omega) rfl rfl h;simp [D0,fI,fJ,aU,o6]at L1;simp;refine L1 _ ?_;clear L1;have L2:=fun p h Q hh=>GL (H:=H) r htl p h Q r.aa.length 0 [] (by omega) rfl hh;simp [D3,fI,fJ,aU,o6]at L2;simp;have L3:=L2 (r.ah.map (·.cell)) (r.ah.map fun _=>empty);simp at L3;refine L3 _ ?_;clear L2 L3;simp;obtain⟨a1,h1⟩: ∃a1,r.ah.map (aF ∘ fun x=>x.cell)=a1:=⟨_,rfl⟩;obtain⟨a2,h2⟩: ∃a2,r.ah.map (aG.row ∘ fun _=>empty)=a2:=⟨_,rfl⟩;obtain⟨a3,h3⟩: ∃a3,r.aa.map (bC.row ∘ eY)=a3:=⟨_,rfl⟩;rw [h1,h2,h3];generalize hx:dE.box [.pure (.int .i64 r.wide), .pure (.int .i64 r.deep), .pure (.slice (r.ah.map aS.row)), .pure (.slice (r.aa.map aZ.row)), .pure (.slice (r.seen.map aF)), .pure (.slice (r.aX.map aF)), .pure (.slice (r.ai.map ak.row)),cY (H.length,23) 1 a1,cY (H.length,31) 2 a2,cY (H.length,51) 2 a3]=x;obtain⟨y,hy⟩: ∃y,dE.box [.pure (.int .i64 r.wide), .pure (.int .i64 r.deep), .pure (.slice (r.ah.map aS.row)), .pure (.slice (r.aa.map aZ.row)), .pure (.slice (r.seen.map aF)), .pure (.slice (r.aX.map aF)), .pure (.slice (r.ai.map ak.row))]=y:=⟨_,rfl⟩;rw [hy];obtain⟨F,hF⟩: ∃F,eG 51 2 a3 (eG 31 2 a2 (eG 23 1 a1 [(1,y),(2,x),(3,x)]))=F:=⟨_,rfl⟩;have g1:a1≠[]→F.get 23=some (.arr 1 a1 0 false):=fun h=>(by rw [←hF,bQ (by decide),bQ (by decide),cV h]);have g2:a2≠[]→F.get 31=some (.arr 2 a2 0 false):=fun h=>(by rw [←hF,bQ (by decide),cV h]);have g3:a3≠[]→F.get 51=some (.arr 2 a3 0 false):=fun h=>(by rw [←hF,cV h]);rw [hF,ae (by simp),gB];have lt:H.length-1<H.length:=(by omega);rw [py];have ci: ∀rows:List (List PV),cn (if rows=[]then .aW else .pure (.slice rows))= .pure (.slice rows):=fun rows=>by
  split
  ·rename_i h;subst h;rfl
  ·rfl
 have e:canon (cW ([.pure (.int .i64 r.wide), .pure (.int .i64 r.deep), .pure (.slice (r.ah.map aS.row)), .pure (.slice (r.aa.map aZ.row)), .pure (.slice (r.seen.map aF)), .pure (.slice (r.aX.map aF)), .pure (.slice (r.ai.map ak.row)),cY (H.length,23) 1 a1,cY (H.length,31) 2 a2,cY (H.length,51) 2 a3].map (cH (F::H) (H.length-1))))= .pure (.agg (aP r (aJ r))):=by
  refine oB ?_;simp only [List.map_cons,List.map_nil,lN,dc rfl lt g1,dc rfl lt g2,dc rfl lt g3,ci];simp [aP,aJ,←h1,←h2,←h3,cn]
 rw [e]
end
section
variable {c:Nat} {H:aj}
def kG (tk:List (Int×Int)):List (PV×GV):=tk.map fun x=>(.agg [.int .i64 x.1, .int .i64 x.2], .pure (.bool true))
theorem mU (a b : Int) : ∀ (tk : List (Int × Int)) (i : Nat), cI (.agg [.int .i64 a, .int .i64 b]) (kG tk) i = some (if (a, b) ∈ tk then some (i + tk.idxOf (a, b), .pure (.bool true)) else none)
  | [], i => by simp [kG, cI]
  | (p, q) :: tk, i => by
    have ih := mU a b tk (i + 1)
    unfold kG at ih ⊢
    rw [List.map_cons]
    unfold cI
    by_cases h : a = p ∧ b = q
    · obtain ⟨rfl, rfl⟩ := h
      simp [nY, jx]
    · have h' : (a == p && b == q) = false := by
        rw [Bool.and_eq_false_iff]
        by_cases e : a = p
        · right; simpa using fun e2 => h ⟨e, e2⟩
        · left; simpa using e
      have hne : ¬ (a, b) = (p, q) := fun e => h ⟨(Prod.mk.inj e).1, (Prod.mk.inj e).2⟩
      have hne' : ¬ (p, q) = (a, b) := fun e => hne e.symm
      simp only [nY, jx, if_true, Bool.and_true, h', ih, List.mem_cons, hne, false_or]
      have hb : ((p, q) == (a, b)) = false := by simpa using hne'
      simp only [List.idxOf_cons, hb, cond_false, Option.some.injEq]
      by_cases hm : (a, b) ∈ tk
      · simp [hm]; omega
      · simp [hm]
def wJ (tk:List (Int×Int))(x:Int×Int):List (Int×Int):=if x∈tk then tk else tk++[x]
theorem Jl {tk:List (Int×Int)}{x y:Int×Int}:y∈wJ tk x↔y∈tk∨y=x:=by
 unfold wJ;split
 ·rename_i h;constructor
  ·exact .inl
  ·rintro(h'|rfl)
   ·exact h'
   ·exact h
 ·simp
def fS (tk l:List (Int×Int)):List (Int×Int):=l.foldl wJ tk
theorem yF {y:Int×Int}: ∀{l tk:List (Int×Int)},y∈fS tk l↔y∈tk∨y∈l
 | [],tk=>by simp [fS]
 |x::l,tk=>by
  show y∈fS (wJ tk x) l↔_
  rw [yF,Jl];simp only [List.mem_cons];constructor
  ·rintro((h|h)|h)
   ·exact .inl h
   ·exact .inr (.inl h)
   ·exact .inr (.inr h)
  ·rintro(h|h|h)
   ·exact .inl (.inl h)
   ·exact .inl (.inr h)
   ·exact .inr h
theorem Jm {tk:List (Int×Int)}{a b:Int}(h:(a,b)∈tk):(kG tk).set (tk.idxOf (a,b)) (.agg [.int .i64 a, .int .i64 b], .pure (.bool true))=kG tk:=by
 have hl:tk.idxOf (a,b)<tk.length:=List.idxOf_lt_length_iff.2 h;unfold kG;refine List.ext_getElem (by simp) fun j h1 h2=> ?_;rw [List.getElem_set];split
 ·rename_i e;subst e;simp [List.getElem_idxOf]
 ·rfl
theorem Jn {tk:List (Int×Int)}{a b:Int}:kG tk++[(.agg [.int .i64 a, .int .i64 b], .pure (.bool true))]=kG (tk++[(a,b)]):=by simp [kG]
structure MF (F:Fr)(r:aA)(s:aw)(tk:List (Int×Int)):Prop where
 g2:F.get 2=some (bM r s)
 g4:F.get 4=some o6
 gm:F.get 18=some (.map (kG tk))
theorem yG {F:Fr}{r:aA}{s:aw}{tk:List (Int×Int)}(hF:MF F r s tk)(a:ak)(g:List ak)(n i:Nat)(l:List (Int×Int))(hl:l.length≤1000)(Q:GX→bO→Prop): ∀k j:Nat,j+k=l.length→
  ((∀x∈l.drop j,x∉tk)→Q (.exit 2) ⟨[(2, .ay (H.length,2) 0),(4, .ay (H.length,4) 0),(5,aN),(6,aN),(7, .ay (H.length,7) 0),(8, .map (H.length,18)),(10, .ay (H.length+1,10) 0),(11, .pure (.slice (l.map dB))),(19, .pure (.slice (g.map ak.row))),(20, .pure (.int .i64 n)),(21, .pure (.int .i64 i))],[(10,bW a)]::F::H,65⟩)→
  (¬(∀x∈l.drop j,x∉tk)→Q .ret ⟨[(2, .ay (H.length,2) 0),(4, .ay (H.length,4) 0),(5, .pure (.int .i64 i)),(6, .pure (.int .i64 12)),(7, .ay (H.length,7) 0),(8, .map (H.length,18)),(10, .ay (H.length+1,10) 0),(11, .pure (.slice (l.map dB))),(19, .pure (.slice (g.map ak.row))),(20, .pure (.int .i64 n)),(21, .pure (.int .i64 i))],[(10,bW a)]::F.ins 4 (bM r s)::H,65⟩)→
  iB KC au 118 (lp Tryz.f118 1) [2,4,7,8,9,10,11,19,20,21,35,36,37] [2,4,5,6,7,8,10,11,19,20,21] Q
   [(2, .ay (H.length,2) 0),(4, .ay (H.length,4) 0),(7, .ay (H.length,7) 0),(8, .map (H.length,18)),(9, .pure (.int .i64 i)),(10, .ay (H.length+1,10) 0),(11, .pure (.slice (l.map dB))),(19, .pure (.slice (g.map ak.row))),(20, .pure (.int .i64 n)),(21, .pure (.int .i64 i)),(35, .pure (.slice (l.map dB))),(36, .pure (.int .i64 l.length)),(37, .pure (.int .i64 j))] ([(10,bW a)]::F::H) 65:=by
 have g2:=hF.g2;have g4:=hF.g4;have gm:=hF.gm;intro k
 induction k with
 |zero=>
  intro j hj h1 h2;apply ax;conv=>arg 4;whnf
  have hnl: ¬j<l.length:=(by omega);have e:l.drop j=[]:=List.drop_of_length_le (by omega);simp [hnl];simpa [bW]using h1 (by rw [e];simp)
 |succ k ih=>
  intro j hj h1 h2;have hja:j<l.length:=(by omega);have hw:=dp (x:=(j:Int)+1) (by omega) (by omega);have ed:l.drop j=l[j]::l.drop (j+1):=List.drop_eq_getElem_cons hja;have ne: ¬H.length=H.length+1:=(by omega);simp only [bM]at g2;simp only [o6]at g4;apply ax;conv=>arg 4;whnf
  by_cases hm:l[j]∈tk
  ·have hm':(l[j].1,l[j].2)∈tk:=hm;have h2':=h2 (fun h=>h l[j] (by rw [ed];exact List.mem_cons_self ..) hm);simp only [bM,bW]at h2';simp [hja,dB,gm,mU,hm',mapOf,ne,g2,g4,aD,bW];exact h2'
  ·have hm': ¬(l[j].1,l[j].2)∈tk:=hm;have ih':=ih (j+1) (by omega) (fun h=>h1 fun x hx=>by
    rw [ed]at hx;rcases List.mem_cons.1 hx with rfl|hx
    ·exact hm
    ·exact h x hx) (fun h=>h2 fun h'=>h fun x hx=>h' x (by rw [ed];exact List.mem_cons_of_mem _ hx))
   simp [hja,dB,gm,mU,hm',mapOf,ne,hw,bW];simpa [dB,bW]using ih'
theorem B7 {a:ak}(g:List ak)(n i:Nat)(l:List (Int×Int))(hl:l.length≤1000)(Q:GX→bO→Prop): ∀(k j:Nat) (F:Fr) (tk:List (Int×Int)),j+k=l.length→F.jr→F.get 18=some (.map (kG tk))→
  Q (.exit 4) ⟨[(2, .ay (H.length,2) 0),(4, .ay (H.length,4) 0),(7, .ay (H.length,7) 0),(8, .map (H.length,18)),(10, .ay (H.length+1,10) 0),(19, .pure (.slice (g.map ak.row))),(20, .pure (.int .i64 n)),(21, .pure (.int .i64 i))],[(10,bW a)]::F.ins 18 (.map (kG (fS tk (l.drop j))))::H,65⟩→
  iB KC au 118 (lp Tryz.f118 2) [2,4,7,8,10,19,20,21,47,48,49] [2,4,7,8,10,19,20,21] Q
   [(2, .ay (H.length,2) 0),(4, .ay (H.length,4) 0),(7, .ay (H.length,7) 0),(8, .map (H.length,18)),(10, .ay (H.length+1,10) 0),(19, .pure (.slice (g.map ak.row))),(20, .pure (.int .i64 n)),(21, .pure (.int .i64 i)),(47, .pure (.slice (l.map dB))),(48, .pure (.int .i64 l.length)),(49, .pure (.int .i64 j))] ([(10,bW a)]::F::H) 65:=by
 intro k
 induction k with
 |zero=>
  intro j F tk hj hs gm h1;apply ax;conv=>arg 4;whnf
  have hnl: ¬j<l.length:=(by omega);have e:l.drop j=[]:=List.drop_of_length_le (by omega);rw [e,show fS tk []=tk from rfl,Fr.rL hs gm]at h1
  simp only [bW]at h1;simp [hnl,bW];exact h1
 |succ k ih=>
  intro j F tk hj hs gm h1;have hja:j<l.length:=(by omega);have hw:=dp (x:=(j:Int)+1) (by omega) (by omega);have ed:l.drop j=l[j]::l.drop (j+1):=List.drop_eq_getElem_cons hja;have ne: ¬H.length=H.length+1:=(by omega);rw [ed,show fS tk (l[j]::l.drop (j+1))=fS (wJ tk l[j]) (l.drop (j+1))from rfl]at h1
  have ih':=ih (j+1) (F.ins 18 (.map (kG (wJ tk l[j])))) (wJ tk l[j]) (by omega) (Fr.dZ hs) (Fr.bJ ..) (by rw [Fr.iq];exact h1);apply ax;conv=>arg 4;whnf
  by_cases hm:l[j]∈tk
  ·have hm':(l[j].1,l[j].2)∈tk:=hm;have e2:wJ tk l[j]=tk:=(by unfold wJ;rw [if_pos hm]);rw [e2]at ih';have e3:=Jm hm';simp [hja,dB,gm,mU,hm',ne,hw,bW,Yw,kS,e3];simpa [dB,bW]using ih'
  ·have hm': ¬(l[j].1,l[j].2)∈tk:=hm;have e2:wJ tk l[j]=tk++[(l[j].1,l[j].2)]:=(by unfold wJ;rw [if_neg hm]);rw [e2]at ih';simp [hja,dB,gm,mU,hm',ne,hw,bW,Yw,kS,Jn];simpa [dB,bW]using ih'
end
section
variable {c:Nat} {H:aj}
noncomputable def cK (r:aA)(s:aw):List ak→List (Int×Int)→aw→Nat→aw×Int×Int
 | [],_,nx,_=>(nx,0,0)
 |a::g,tk,nx,i=>if b7 r s a.aO.toNat a=false then (s,i,10)else if∀x∈gn s a.aO.toNat a,x∉tk then cK r s g (fS tk (gn s a.aO.toNat a)) (da nx a.aO.toNat a) (i+1)else (s,i,12)
theorem qW.after {r:aA}: ∀{p:List ak} {s:aw} {a:ak},fT r s→qW r s (p++[a])→fT r (kY s p)∧b7 r (kY s p) a.aO.toNat a=true
 | [],s,a,hS,h=>⟨hS,(h.ab a (by simp)).2⟩
 |b::p,s,a,hS,h=>by
  obtain⟨h1,h2⟩:=h.tail hS;show fT r (kY (da s b.aO.toNat b) p)∧b7 r (kY (da s b.aO.toNat b) p) a.aO.toNat a=true
  exact qW.after h1 h2
def w7 (s:aw)(p:List ak)(tk:List (Int×Int)):Prop:= ∀x,x∈tk↔ ∃b∈p,x∈gn s b.aO.toNat b
theorem w7.snoc {s:aw}{p:List ak}{tk:List (Int×Int)}{a:ak}(h:w7 s p tk):w7 s (p++[a]) (fS tk (gn s a.aO.toNat a)):=fun x=>by
 rw [yF,h x];simp only [List.mem_append,List.mem_singleton];constructor
 ·rintro(⟨b,hb,hx⟩|hx)
  ·exact⟨b, .inl hb,hx⟩
  ·exact⟨a, .inr rfl,hx⟩
 ·rintro⟨b,hb|rfl,hx⟩
  ·exact .inl ⟨b,hb,hx⟩
  ·exact .inr hx
theorem qW.snoc {r:aA}{s:aw}{p:List ak}{tk:List (Int×Int)}{a:ak}(h:qW r s p)(ht:w7 s p tk)(hA:AB r a.aO.toNat a)(pa:b7 r s a.aO.toNat a=true)(hd: ∀x∈gn s a.aO.toNat a,x∉tk):qW r s (p++[a]) where
 ab:=fun b hb=>by
  rcases List.mem_append.1 hb with hb|hb
  ·exact h.ab b hb
  ·simp only [List.mem_singleton]at hb;subst hb;exact⟨hA,pa⟩
 ap:=by
  rw [List.pairwise_append];refine⟨h.ap,List.pairwise_singleton ..,fun b hb x hx=> ?_⟩;simp only [List.mem_singleton]at hx;subst hx;exact(vu.2 fun y h1 h2=>hd y h2 ((ht y).2 ⟨b,hb,h1⟩))
def Jo (k:Nat):Nat:=136+2*(k-1)
theorem Vc {r:aA}{s:aw}{w:Nat}{a:ak}{n1 n2 n3:Nm}{v1 v2 v3:Nat}(h:mc H n1 n2 n3 v1 v2 v3 s)(hb:Fe s w a)(hst: ∀t:Nat,t<s.aa.length→0≤(s.aa.getD t aR).state∧(s.aa.getD t aR).state<16)(hH:0<H.length):M1 H (Jo a.kind.toNat) r n1 n2 n3 s w a c:=by
 obtain⟨d1,d2,d3,d4,d5,d6,d7,d8⟩:=TY (r:=r) (c:=c) h hb hst hH;rcases nd hb.kind with k|k|k|k|k|k|k|k
 ·rw [show Jo a.kind.toNat=136 by rw [k];rfl];exact d1 k
 ·rw [show Jo a.kind.toNat=138 by rw [k];rfl];exact d2 k
 ·rw [show Jo a.kind.toNat=140 by rw [k];rfl];exact d3 k
 ·rw [show Jo a.kind.toNat=142 by rw [k];rfl];exact d4 k
 ·rw [show Jo a.kind.toNat=144 by rw [k];rfl];exact d5 k
 ·rw [show Jo a.kind.toNat=146 by rw [k];rfl];exact d6 k
 ·rw [show Jo a.kind.toNat=148 by rw [k];rfl];exact d7 k
 ·rw [show Jo a.kind.toNat=150 by rw [k];rfl];exact d8 k
def mo:Nat:=117469202
def mV:Nat:=117485586
def xf:Nat:=117501970
def Oc (L:Nat)(r:aA)(s:aw):dE:= .box [.pure (.int .i64 r.wide), .pure (.int .i64 r.deep), .pure (.slice (r.ah.map aS.row)), .pure (.slice (r.aa.map aZ.row)), .pure (.slice (r.seen.map aF)), .pure (.slice (r.aX.map aF)), .pure (.slice (r.ai.map ak.row)), .bc (L,mo) 1 s.ah.length 0 s.ah.length, .bc (L,mV) 2 s.aq.length 0 s.aq.length, .bc (L,xf) 2 s.aa.length 0 s.aa.length]
structure MX (L:Nat)(F:Fr)(r:aA)(s:aw)(tk:List (Int×Int))(nx:aw):Prop extends MF F r s tk where
 jr:F.jr
 g7:F.get 7=some (Oc L r nx)
 sc:SF F mo mV xf nx
theorem Jp {r:aA}{s:aw}(hS:fT r s)(hW:WB r)(ai:List ak)(hal:ai.length≤1000000)(hA: ∀a∈ai,AB r a.aO.toNat a)(Q:GX→bO→Prop):
  ∀(k i:Nat) (F:Fr) (tk:List (Int×Int)) (nx:aw),i+k=ai.length→MX H.length F r s tk nx→w7 s (ai.take i) tk→qW r s (ai.take i)→nx=kY s (ai.take i)→
  ((cK r s (ai.drop i) tk nx i).2.2=0→ ∀F',(∃tk',MX H.length F' r s tk' (cK r s (ai.drop i) tk nx i).1)→qW r s ai→(cK r s (ai.drop i) tk nx i).1=kY s ai→Q (.exit 0) ⟨[(4, .ay (H.length,4) 0),(5,aN),(6,aN),(7, .ay (H.length,7) 0)],F'::H,65⟩)→
  ((cK r s (ai.drop i) tk nx i).2.2≠0→(cK r s (ai.drop i) tk nx i).1=s→ ∀F',F'.get 4=some (bM r s)→Q .ret ⟨[(4, .ay (H.length,4) 0),(5, .pure (.int .i64 (cK r s (ai.drop i) tk nx i).2.1)),(6, .pure (.int .i64 (cK r s (ai.drop i) tk nx i).2.2)),(7, .ay (H.length,7) 0)],F'::H,65⟩)→
  iB KC au 118 (lp Tryz.f118 0) [2,4,7,8,19,20,21] [4,5,6,7] Q
   [(2, .ay (H.length,2) 0),(4, .ay (H.length,4) 0),(7, .ay (H.length,7) 0),(8, .map (H.length,18)),(19, .pure (.slice (ai.map ak.row))),(20, .pure (.int .i64 ai.length)),(21, .pure (.int .i64 i))] (F::H) 65:=by
 intro k
 induction k with
 |zero=>
  intro i F tk nx hi hF hT hG hnx h1 h2;apply ax;conv=>arg 4;whnf
  have hnl: ¬i<ai.length:=(by omega);have e:ai.drop i=[]:=List.drop_of_length_le (by omega);have et:ai.take i=ai:=List.take_of_length_le (by omega);rw [e]at h1;simp [hnl];exact h1 rfl F ⟨tk,hF⟩ (et▸hG) (by show nx=_;rw [hnx,et])
 |succ k ih=>
  intro i F tk nx hi hF hT hG hnx h1 h2;have hia:i<ai.length:=(by omega);have hw:=dp (x:=(i:Int)+1) (by omega) (by omega);have ed:ai.drop i=ai[i]::ai.drop (i+1):=List.drop_eq_getElem_cons hia;have et:ai.take (i+1)=ai.take i++[ai[i]]:=List.take_succ_eq_append_getElem hia;have ne: ¬H.length=H.length+1:=(by omega);obtain⟨a,ha⟩: ∃a,ai[i]=a:=⟨_,rfl⟩;have hAa:AB r a.aO.toNat a:=hA a (ha▸List.getElem_mem hia);obtain⟨w,hwq⟩: ∃w,a.aO.toNat=w:=⟨_,rfl⟩;rw [ha]at ed et;rw [ed]at h1 h2;unfold cK at h1 h2;have g2:=hF.g2;have g4:=hF.g4;have g7:=hF.g7;have M:=fun c (H:aj) (hH:0<H.length)=>y9 (c:=c) (H:=H) hS hW hAa hH;have T:=fun c (H:aj) (hH:0<H.length)=>tz (c:=c) (H:=H) hS hAa hH;have hAk:=hAa.kind;have kk:((a.kind.toNat:Nat):Int)=a.kind:=(by omega);have W:=fun c (H:aj) (hH:0<H.length)=>CI (c:=c) (H:=H) (k:=a.kind.toNat) (by omega) hH;rw [kk]at W;apply ax;conv=>arg 4;whnf
  cases hp:b7 r s a.aO.toNat a with
  |false=>
   rw [hp]at M;simp only [hp,if_true]at h2;have h2':=h2 (by decide) trivial (F.ins 4 (bM r s)) (Fr.bJ ..);rw [bE]at M;simp only [bM]at g2 h2';simp only [o6]at g4;simp only [aP]at M;simp [hia,ha,bE,ne,g2,g4,M,aD];exact h2'
  |true=>
   rw [hp]at M;obtain⟨l,hl⟩: ∃l,gn s a.aO.toNat a=l:=⟨_,rfl⟩;have hll:l.length≤1000:=by
    rw [←hl];unfold gn
    repeat' split
    all_goals simp
   rw [hl]at T h1 h2;simp only [hp,Bool.true_eq_false,if_false]at h1 h2;have L1:=fun Q=>yG (H:=H) hF.toMF a ai ai.length i l hll Q l.length 0 (by omega);simp only [List.drop_zero,bW]at L1;have hF1s:(F.ins 18 (.map (kG (fS tk l)))).jr:=Fr.dZ hF.jr;rw [bE]at M T;simp only [bM]at g2;simp only [o6]at g4;simp only [aP]at M T;simp [hia,ha,bE,ne,g2,g4,M,T];refine L1 _ (fun hfr=> ?_) (fun hfr=> ?_)
   ·clear L1;rw [if_pos hfr]at h1 h2;have hGs:qW r s (ai.take (i+1)):=(by rw [et];exact hG.snoc hT hAa hp (by rw [hl];exact hfr));have hTs:w7 s (ai.take (i+1)) (fS tk l):=(by rw [et,←hl];exact hT.snoc);have aft:=(qW.after hS (et▸hGs):fT r (kY s (ai.take i))∧_);rw [←hnx]at aft;have hD:=oM aft.1 hAa aft.2;have L2:=fun Q=>B7 (H:=H) (a:=a) ai ai.length i l hll Q l.length 0 F tk (by omega) hF.jr hF.gm;simp only [List.drop_zero,bW]at L2;simp [ne];refine L2 _ ?_;clear L2;have q12:mo≠mV:=(by decide);have q13:mo≠xf:=(by decide);have q23:mV≠xf:=(by decide);have e1: ∀k,k≠18→(F.ins 18 (.map (kG (fS tk l)))).get k=F.get k:=fun k hk=>Fr.az _ hk _;have sc1:SF (F.ins 18 (.map (kG (fS tk l)))) mo mV xf nx:=hF.sc.other (e1 _ (by decide)) (e1 _ (by decide)) (e1 _ (by decide));have g71:=(e1 7 (by decide)).trans g7;have gm1:(F.ins 18 (.map (kG (fS tk l)))).get 18=some (.map (kG (fS tk l))):=Fr.bJ ..;have g21:=(e1 2 (by decide)).trans hF.g2;have g41:=(e1 4 (by decide)).trans hF.g4;generalize F.ins 18 (.map (kG (fS tk l)))=F1 at hF1s sc1 g71 gm1 g21 g41⊢;obtain⟨u1,u2,u3,SS⟩:=sc1.self (f0:=[(10,bW a)]) (H:=H) hF1s q12 q13 q23;obtain⟨v1,v2,v3,b1,b2,b3,ed'⟩:=Vc (r:=r) (c:=62) SS hD aft.1.st (by simp);have LD:=kC (s:=nx) (w:=a.aO.toNat) hAk;obtain⟨F2,hF2⟩: ∃F2,((F1.ins mo (.arr 1 ((da nx a.aO.toNat a).ah.map aF) v1 false)).ins mV (.arr 2 ((da nx a.aO.toNat a).aq.map aG.row) v2 false)).ins xf (.arr 2 ((da nx a.aO.toNat a).aa.map bC.row) v3 false)=F2:=⟨_,rfl⟩;have hsc:cA ([(10,bW a)]::F1::H) (H.length,mo) (H.length,mV) (H.length,xf) v1 v2 v3 (da nx a.aO.toNat a)=[(10,bW a)]::F2::H:=by
     rw [←hF2];simp [cA,ne]
    rw [hsc]at ed';have o2: ∀k,k≠mo→k≠mV→k≠xf→F2.get k=F1.get k:=fun k h1 h2 h3=>(by rw [←hF2,Fr.az _ h3,Fr.az _ h2,Fr.az _ h1]);have enx:Oc H.length r (da nx a.aO.toNat a)=Oc H.length r nx:=by simp only [Oc,LD]
    have MX2:MX H.length F2 r s (fS tk l) (da nx a.aO.toNat a):={
     g2:=(o2 2 (by decide) (by decide) (by decide)).trans g21
     g4:=(o2 4 (by decide) (by decide) (by decide)).trans g41
     gm:=(o2 18 (by decide) (by decide) (by decide)).trans gm1
     jr:=by rw [←hF2];exact Fr.dZ (Fr.dZ (Fr.dZ hF1s))
     g7:=by rw [enx];exact(o2 7 (by decide) (by decide) (by decide)).trans g71
     sc:=⟨⟨v1,by omega,by rw [←hF2,Fr.az _ q13,Fr.az _ q12,Fr.bJ]⟩,⟨v2,by omega,by rw [←hF2,Fr.az _ q23,Fr.bJ]⟩,⟨v3,by omega,by rw [←hF2,Fr.bJ]⟩⟩}
    have ih':=ih (i+1) F2 (fS tk l) (da nx a.aO.toNat a) (by omega) MX2 hTs hGs (by rw [hnx,et,iY];rfl) h1 h2;rw [bE]at ed';simp only [Oc]at g71;simp only [tB,bW,Jo]at ed';simp [ne,g71,W,ed',hw,Jo];simpa using ih'
   ·clear L1;rw [if_neg hfr]at h2;have h2':=h2 (show (12:Int)≠0 by decide) rfl (F.ins 4 (bM r s)) (Fr.bJ ..)
    simp only [bM]at h2'⊢;simp;exact h2'
end
section
variable {c:Nat} {H:aj}
theorem EK {r:aA}{s:aw}{g:List ak}(hS:fT r s)(hG:qW r s g):(kY s g).ah.length=s.ah.length∧(kY s g).aq.length=s.aq.length∧(kY s g).aa.length=s.aa.length:=by
 have a:=hG.snd hS;exact⟨a.pl.trans hS.pl.symm,a.hl.trans hS.hl.symm,a.tl.trans hS.tl.symm⟩
theorem z9 {r:aA}{s:aw}: ∀{g:List ak} {tk:List (Int×Int)} {nx:aw} {i:Nat},(cK r s g tk nx i).2.2=0→(cK r s g tk nx i).2.1=0
 | [],_,_,_,_=>rfl
 |a::g,tk,nx,i,h=>by
  unfold cK at h⊢;split at h
  ·simp at h
  ·rename_i h1;split at h
   ·rename_i h2;rw [if_neg h1,if_pos h2];exact z9 h
   ·simp at h
theorem D4 {r:aA}{s:aw}(hS:fT r s)(hW:WB r)(hFu:Full s)(ht0:s.aa≠[])(ai:List ak)(hal:ai.length≤1000000)(hA: ∀a∈ai,AB r a.aO.toNat a)(hH:0<H.length):
  aL KC (aE KC) 118 [.pure (.agg (aP r s)), .pure (.slice (ai.map ak.row))] c H=
   some (.pure (.tuple [.agg (aP r (cK r s ai [] s 0).1), .int .i64 (cK r s ai [] s 0).2.1, .int .i64 (cK r s ai [] s 0).2.2]),H):=by
 refine aM (bd KC au Tryz.func118 rfl rfl D7 rfl rfl rfl (by simp) hH ?_);have k1:ao 17 28679=mo:=(by decide);have k2:ao 17 28683=mV:=(by decide);have k3:ao 17 28687=xf:=(by decide);have C:=xY (c:=17) (H:=[(2,bM r s),(4,o6)]::H) r hFu ht0 (by simp) (by simp [k1,mo]) (by simp [k2,mV]) (by simp [k3,xf]);simp only [List.length_cons,Nat.add_sub_cancel,k1,k2,k3]at C;obtain⟨F0,hF0⟩: ∃F0:Fr,[(2,bM r s),(4,o6),(mo, .arr 1 (s.ah.map aF) 0 false),(mV, .arr 2 (s.aq.map aG.row) 0 false),(xf, .arr 2 (s.aa.map bC.row) 0 false)]=F0:=⟨_,rfl⟩;have hC:cA ([(2,bM r s),(4,o6)]::H) (H.length,mo) (H.length,mV) (H.length,xf) 0 0 0 s=F0::H:=by
  rw [←hF0];simp [cA,mo,mV,xf]
 rw [hC]at C;obtain⟨F1,hF1⟩: ∃F1,(F0.ins 7 (Oc H.length r s)).ins 18 (.map [])=F1:=⟨_,rfl⟩;have f07:F0.get 7=none:=(by rw [←hF0];simp [mo,mV,xf]);have f018:F0.get 18=none:=(by rw [←hF0];simp [mo,mV,xf]);have o1: ∀k,k≠7→k≠18→F1.get k=F0.get k:=fun k h1 h2=>by rw [←hF1,Fr.az _ h2,Fr.az _ h1]
 have MX1:MX H.length F1 r s [] s:={
  g2:=(o1 2 (by decide) (by decide)).trans (by rw [←hF0];simp)
  g4:=(o1 4 (by decide) (by decide)).trans (by rw [←hF0];simp)
  gm:=by rw [←hF1,Fr.bJ];rfl
  jr:=by
   rw [←hF1];refine Fr.dZ (Fr.dZ ?_);rw [←hF0];simp [Fr.jr,mo,mV,xf]
  g7:=by rw [←hF1,Fr.az _ (by decide),Fr.bJ]
  sc:=⟨⟨0,Nat.zero_le _,(o1 _ (by decide) (by decide)).trans (by rw [←hF0];simp [mo,mV,xf])⟩,⟨0,Nat.zero_le _,(o1 _ (by decide) (by decide)).trans (by rw [←hF0];simp [mo,mV,xf])⟩,⟨0,Nat.zero_le _,(o1 _ (by decide) (by decide)).trans (by rw [←hF0];simp [mo,mV,xf])⟩⟩}
 have L1:=fun Q=>Jp (H:=H) hS hW ai hal hA Q ai.length 0 F1 [] s (by omega) MX1 (fun x=>by simp) ⟨fun a ha=>by simp at ha,by simp⟩ rfl;simp only [List.drop_zero]at L1;simp only [aP,tB,bM,o6]at C;have f018':(F0.ins 7 (Oc H.length r s)).get 18=none:=(Fr.az _ (by decide) _).trans f018;simp only [Oc]at hF1 f018';unfold aP;simp [C,f07,f018',Fr.bJ,Fr.iq,hF1];refine L1 _ (fun he F' hF' hG hm=> ?_) (fun he hm F' h4=> ?_)
 ·obtain⟨tk',hF'⟩:=hF';have g7:=hF'.g7;have g4:=hF'.g4;have LL:=EK hS hG;rw [hm]at hF' g7;obtain⟨v1,a1,b1⟩:=hF'.sc.h1;obtain⟨v2,a2,b2⟩:=hF'.sc.h2;obtain⟨v3,a3,b3⟩:=hF'.sc.h3;have o4: ∀(x:dE) (k:Nat),k≠4→(F'.ins 4 x).get k=F'.get k:=fun x k hk=>Fr.az _ hk _;have c1:=fun x=>(o4 x mo (by decide)).trans b1;have c2:=fun x=>(o4 x mV (by decide)).trans b2;have c3:=fun x=>(o4 x xf (by decide)).trans b3;have hat:=z9 he;rw [hm];simp only [Oc]at g7;simp only [o6]at g4;simp [g7,g4,aD,Fr.bJ]
  have fin: ∀x,fW KC 118 c (.tuple [.agg [.pure (.int .i64 r.wide), .pure (.int .i64 r.deep), .pure (.slice (r.ah.map aS.row)), .pure (.slice (r.aa.map aZ.row)), .pure (.slice (r.seen.map aF)), .pure (.slice (r.aX.map aF)), .pure (.slice (r.ai.map ak.row)), .bc (H.length,mo) 1 (kY s ai).ah.length 0 (kY s ai).ah.length, .bc (H.length,mV) 2 (kY s ai).aq.length 0 (kY s ai).aq.length, .bc (H.length,xf) 2 (kY s ai).aa.length 0 (kY s ai).aa.length], .pure (.int .i64 0), .pure (.int .i64 0)]) (F'.ins 4 x::H)=
    some (.pure (.tuple [.agg (aP r (kY s ai)), .int .i64 0, .int .i64 0]),H):=fun x=>by
   have d1:=c1 x;have d2:=c2 x;have d3:=c3 x;generalize F'.ins 4 x=F5 at d1 d2 d3;have hnl: ¬H.length≤H.length-1:=(by omega);rw [ae (by simp)];simp [hnl,d1,d2,d3,a1,a2,a3,aP];exact⟨List.take_of_length_le (by simp),List.take_of_length_le (by simp),List.take_of_length_le (by simp)⟩
  rw [fin,gB,hat,he];simp only [aP]
 ·rw [hm];simp only [bM]at h4;simp [h4,ae]
end
section
variable {c:Nat} {H:aj}
theorem Vd {s:aw}{w:Nat}{a:ak}(hb:Fe s w a)(h:s.aa=[]):a.kind=1:=by
 have hk:=hb.kind;have e:s.aa.length=0:=(by rw [h];rfl);by_cases k1:a.kind=1
 ·exact k1
 ·by_cases k2:a.kind=2
  ·obtain⟨t,_,ht⟩:=hb.take k2;omega
  ·obtain⟨t,_,ht⟩:=hb.held (by omega);omega
theorem Od {r:aA}{s:aw}{w:Nat}{a:ak}{n1 n2:Nm}{v1:Nat}(g1:H.get n1=some (.arr 1 (s.ah.map aF) v1 false))(e1:v1≤s.ah.length)(g2:n2.1<H.length)(hp:w<s.ah.length)(hwho:a.aO=w)(k:a.kind=1)(hH:0<H.length):
  aL KC (aE KC) 136 [Uh r n1 n2 s, .pure (.agg a.row)] c H=some (.pure (.tuple []),H.set n1 (.arr 1 ((da s w a).ah.map aF) s.ah.length false)):=by
 have l1:=aj.bR g1;have d1: ¬n1.1=H.length:=(by omega);have d2: ¬n2.1=H.length:=(by omega);have hd:=lH (s:=s) (w:=w) k;refine aM (bh KC au Tryz.func136 rfl rfl D8 rfl rfl rfl (by simp) hH ?_);rw [bE];unfold Uh;simp [d1,d2,g1,e1,hp,hwho,aF,aD,ae,hd]
def Oe (L:Nat)(r:aA)(s:aw):dE:= .box [.pure (.int .i64 r.wide), .pure (.int .i64 r.deep), .pure (.slice (r.ah.map aS.row)), .pure (.slice (r.aa.map aZ.row)), .pure (.slice (r.seen.map aF)), .pure (.slice (r.aX.map aF)), .pure (.slice (r.ai.map ak.row)), .bc (L,mo) 1 s.ah.length 0 s.ah.length, .bc (L,mV) 2 s.aq.length 0 s.aq.length, .aW]
structure ME (L:Nat)(F:Fr)(r:aA)(s:aw)(tk:List (Int×Int))(nx:aw):Prop extends MF F r s tk where
 jr:F.jr
 g7:F.get 7=some (Oe L r nx)
 h1: ∃v,v≤nx.ah.length∧F.get mo=some (.arr 1 (nx.ah.map aF) v false)
 h2:F.get mV=some (.arr 2 (nx.aq.map aG.row) 0 false)
theorem GM {r:aA}{s:aw}(ht0:r.aa=[])(hS:fT r s)(hW:WB r)(ai:List ak)(hal:ai.length≤1000000)(hA: ∀a∈ai,AB r a.aO.toNat a)(Q:GX→bO→Prop):
  ∀(k i:Nat) (F:Fr) (tk:List (Int×Int)) (nx:aw),i+k=ai.length→ME H.length F r s tk nx→w7 s (ai.take i) tk→qW r s (ai.take i)→nx=kY s (ai.take i)→
  ((cK r s (ai.drop i) tk nx i).2.2=0→ ∀F',(∃tk',ME H.length F' r s tk' (cK r s (ai.drop i) tk nx i).1)→qW r s ai→(cK r s (ai.drop i) tk nx i).1=kY s ai→Q (.exit 0) ⟨[(4, .ay (H.length,4) 0),(5,aN),(6,aN),(7, .ay (H.length,7) 0)],F'::H,65⟩)→
  ((cK r s (ai.drop i) tk nx i).2.2≠0→(cK r s (ai.drop i) tk nx i).1=s→ ∀F',F'.get 4=some (bM r s)→Q .ret ⟨[(4, .ay (H.length,4) 0),(5, .pure (.int .i64 (cK r s (ai.drop i) tk nx i).2.1)),(6, .pure (.int .i64 (cK r s (ai.drop i) tk nx i).2.2)),(7, .ay (H.length,7) 0)],F'::H,65⟩)→
  iB KC au 118 (lp Tryz.f118 0) [2,4,7,8,19,20,21] [4,5,6,7] Q
   [(2, .ay (H.length,2) 0),(4, .ay (H.length,4) 0),(7, .ay (H.length,7) 0),(8, .map (H.length,18)),(19, .pure (.slice (ai.map ak.row))),(20, .pure (.int .i64 ai.length)),(21, .pure (.int .i64 i))] (F::H) 65:=by
 intro k
 induction k with
 |zero=>
  intro i F tk nx hi hF hT hG hnx h1 h2;apply ax;conv=>arg 4;whnf
  have hnl: ¬i<ai.length:=(by omega);have e:ai.drop i=[]:=List.drop_of_length_le (by omega);have et:ai.take i=ai:=List.take_of_length_le (by omega);rw [e]at h1;simp [hnl];exact h1 rfl F ⟨tk,hF⟩ (et▸hG) (by show nx=_;rw [hnx,et])
 |succ k ih=>
  intro i F tk nx hi hF hT hG hnx h1 h2;have hia:i<ai.length:=(by omega);have hw:=dp (x:=(i:Int)+1) (by omega) (by omega);have ed:ai.drop i=ai[i]::ai.drop (i+1):=List.drop_eq_getElem_cons hia;have et:ai.take (i+1)=ai.take i++[ai[i]]:=List.take_succ_eq_append_getElem hia;have ne: ¬H.length=H.length+1:=(by omega);obtain⟨a,ha⟩: ∃a,ai[i]=a:=⟨_,rfl⟩;have hAa:AB r a.aO.toNat a:=hA a (ha▸List.getElem_mem hia);obtain⟨w,hwq⟩: ∃w,a.aO.toNat=w:=⟨_,rfl⟩;rw [ha]at ed et;rw [ed]at h1 h2;unfold cK at h1 h2;have g2:=hF.g2;have g4:=hF.g4;have g7:=hF.g7;have M:=fun c (H:aj) (hH:0<H.length)=>y9 (c:=c) (H:=H) hS hW hAa hH;have T:=fun c (H:aj) (hH:0<H.length)=>tz (c:=c) (H:=H) hS hAa hH;have hAk:=hAa.kind;have kk:((a.kind.toNat:Nat):Int)=a.kind:=(by omega);have W:=fun c (H:aj) (hH:0<H.length)=>CI (c:=c) (H:=H) (k:=a.kind.toNat) (by omega) hH;rw [kk]at W;apply ax;conv=>arg 4;whnf
  cases hp:b7 r s a.aO.toNat a with
  |false=>
   rw [hp]at M;simp only [hp,if_true]at h2;have h2':=h2 (by decide) trivial (F.ins 4 (bM r s)) (Fr.bJ ..);rw [bE]at M;simp only [bM]at g2 h2';simp only [o6]at g4;simp only [aP]at M;simp [hia,ha,bE,ne,g2,g4,M,aD];exact h2'
  |true=>
   rw [hp]at M;obtain⟨l,hl⟩: ∃l,gn s a.aO.toNat a=l:=⟨_,rfl⟩;have hll:l.length≤1000:=by
    rw [←hl];unfold gn
    repeat' split
    all_goals simp
   rw [hl]at T h1 h2;simp only [hp,Bool.true_eq_false,if_false]at h1 h2;have L1:=fun Q=>yG (H:=H) hF.toMF a ai ai.length i l hll Q l.length 0 (by omega);simp only [List.drop_zero,bW]at L1;have hF1s:(F.ins 18 (.map (kG (fS tk l)))).jr:=Fr.dZ hF.jr;rw [bE]at M T;simp only [bM]at g2;simp only [o6]at g4;simp only [aP]at M T;simp [hia,ha,bE,ne,g2,g4,M,T];refine L1 _ (fun hfr=> ?_) (fun hfr=> ?_)
   ·clear L1;rw [if_pos hfr]at h1 h2;have hGs:qW r s (ai.take (i+1)):=(by rw [et];exact hG.snoc hT hAa hp (by rw [hl];exact hfr));have hTs:w7 s (ai.take (i+1)) (fS tk l):=(by rw [et,←hl];exact hT.snoc);have aft:=(qW.after hS (et▸hGs):fT r (kY s (ai.take i))∧_);rw [←hnx]at aft;have hD:=oM aft.1 hAa aft.2;have L2:=fun Q=>B7 (H:=H) (a:=a) ai ai.length i l hll Q l.length 0 F tk (by omega) hF.jr hF.gm;simp only [List.drop_zero,bW]at L2;simp [ne];refine L2 _ ?_;clear L2;have q12:mo≠mV:=(by decide);have q21:mV≠mo:=(by decide);have e1: ∀k,k≠18→(F.ins 18 (.map (kG (fS tk l)))).get k=F.get k:=fun k hk=>Fr.az _ hk _;obtain⟨u1,w1,hh1⟩:=hF.h1;have hh1':=(e1 mo (by decide)).trans hh1;have hh2':=(e1 mV (by decide)).trans hF.h2;have g71:=(e1 7 (by decide)).trans g7;have gm1:(F.ins 18 (.map (kG (fS tk l)))).get 18=some (.map (kG (fS tk l))):=Fr.bJ ..;have g21:=(e1 2 (by decide)).trans hF.g2;have g41:=(e1 4 (by decide)).trans hF.g4;generalize F.ins 18 (.map (kG (fS tk l)))=F1 at hF1s hh1' hh2' g71 gm1 g21 g41⊢;have hnt:nx.aa=[]:=List.eq_nil_of_length_eq_zero (by rw [aft.1.tl,ht0];rfl);have hk1:=Vd hD hnt;have ed':=Od (H:=[(10,bW a)]::F1::H) (c:=62) (r:=r) (s:=nx) (w:=a.aO.toNat) (a:=a) (n1:=(H.length,mo)) (n2:=(H.length,mV)) (v1:=u1) (by simp [ne,hh1']) w1 (by simp;omega) hD.hp hD.aO hk1 (by simp);have LD:=kC (s:=nx) (w:=a.aO.toNat) hAk;have LH:(da nx a.aO.toNat a).aq=nx.aq:=(by rw [lH hk1]);obtain⟨F2,hF2⟩: ∃F2,F1.ins mo (.arr 1 ((da nx a.aO.toNat a).ah.map aF) nx.ah.length false)=F2:=⟨_,rfl⟩;have hsc:aj.set ([(10,bW a)]::F1::H) (H.length,mo) (.arr 1 ((da nx a.aO.toNat a).ah.map aF) nx.ah.length false)=[(10,bW a)]::F2::H:=by
     rw [←hF2];simp [ne]
    rw [hsc]at ed';have o2: ∀k,k≠mo→F2.get k=F1.get k:=fun k h1=>(by rw [←hF2,Fr.az _ h1]);have enx:Oe H.length r (da nx a.aO.toNat a)=Oe H.length r nx:=by simp only [Oe,LD]
    have MX2:ME H.length F2 r s (fS tk l) (da nx a.aO.toNat a):={
     g2:=(o2 2 (by decide)).trans g21
     g4:=(o2 4 (by decide)).trans g41
     gm:=(o2 18 (by decide)).trans gm1
     jr:=by rw [←hF2];exact Fr.dZ hF1s
     g7:=by rw [enx];exact(o2 7 (by decide)).trans g71
     h1:=⟨nx.ah.length,by omega,by rw [←hF2,Fr.bJ]⟩
     h2:=by rw [LH];exact(o2 mV q21).trans hh2'}
    have ih':=ih (i+1) F2 (fS tk l) (da nx a.aO.toNat a) (by omega) MX2 hTs hGs (by rw [hnx,et,iY];rfl) h1 h2;rw [bE]at ed';simp only [Oe]at g71;simp only [Uh,bW]at ed';rw [hk1]at ed';rw [hk1]at W;simp at W;simp [hk1,ne,g71,W,ed',hw];simpa using ih'
   ·clear L1;rw [if_neg hfr]at h2;have h2':=h2 (show (12:Int)≠0 by decide) rfl (F.ins 4 (bM r s)) (Fr.bJ ..)
    simp only [bM]at h2'⊢;simp;exact h2'
theorem D5 {r:aA}{s:aw}(hS:fT r s)(hW:WB r)(hFu:Full s)(ht0:r.aa=[])(ai:List ak)(hal:ai.length≤1000000)(hA: ∀a∈ai,AB r a.aO.toNat a)(hH:0<H.length):
  aL KC (aE KC) 118 [.pure (.agg (aP r s)), .pure (.slice (ai.map ak.row))] c H=
   some (.pure (.tuple [.agg (aP r (cK r s ai [] s 0).1), .int .i64 (cK r s ai [] s 0).2.1, .int .i64 (cK r s ai [] s 0).2.2]),H):=by
 refine aM (bd KC au Tryz.func118 rfl rfl D7 rfl rfl rfl (by simp) hH ?_);have k1:ao 17 28679=mo:=(by decide);have k2:ao 17 28683=mV:=(by decide);have hst:s.aa=[]:=List.eq_nil_of_length_eq_zero (by rw [hS.tl,ht0];rfl);have C:=vW (c:=17) (H:=[(2,bM r s),(4,o6)]::H) r hFu hst (by simp) (by simp [k1,mo]) (by simp [k2,mV]);simp only [List.length_cons,Nat.add_sub_cancel,k1,k2]at C;obtain⟨F0,hF0⟩: ∃F0:Fr,[(2,bM r s),(4,o6),(mo, .arr 1 (s.ah.map aF) 0 false),(mV, .arr 2 (s.aq.map aG.row) 0 false)]=F0:=⟨_,rfl⟩;have hC:aj.set (aj.set ([(2,bM r s),(4,o6)]::H) (H.length,mo) (.arr 1 (s.ah.map aF) 0 false)) (H.length,mV) (.arr 2 (s.aq.map aG.row) 0 false)=F0::H:=by
  rw [←hF0];simp [mo,mV]
 rw [hC]at C;obtain⟨F1,hF1⟩: ∃F1,(F0.ins 7 (Oe H.length r s)).ins 18 (.map [])=F1:=⟨_,rfl⟩;have f07:F0.get 7=none:=(by rw [←hF0];simp [mo,mV]);have f018:F0.get 18=none:=(by rw [←hF0];simp [mo,mV]);have o1: ∀k,k≠7→k≠18→F1.get k=F0.get k:=fun k h1 h2=>by rw [←hF1,Fr.az _ h2,Fr.az _ h1]
 have MX1:ME H.length F1 r s [] s:={
  g2:=(o1 2 (by decide) (by decide)).trans (by rw [←hF0];simp)
  g4:=(o1 4 (by decide) (by decide)).trans (by rw [←hF0];simp)
  gm:=by rw [←hF1,Fr.bJ];rfl
  jr:=by
   rw [←hF1];refine Fr.dZ (Fr.dZ ?_);rw [←hF0];simp [Fr.jr,mo,mV]
  g7:=by rw [←hF1,Fr.az _ (by decide),Fr.bJ]
  h1:=⟨0,Nat.zero_le _,(o1 _ (by decide) (by decide)).trans (by rw [←hF0];simp [mo,mV])⟩
  h2:=(o1 _ (by decide) (by decide)).trans (by rw [←hF0];simp [mo,mV])}
 have L1:=fun Q=>GM (H:=H) ht0 hS hW ai hal hA Q ai.length 0 F1 [] s (by omega) MX1 (fun x=>by simp) ⟨fun a ha=>by simp at ha,by simp⟩ rfl;simp only [List.drop_zero]at L1;simp only [aP,Uh,bM,o6]at C;have f018':(F0.ins 7 (Oe H.length r s)).get 18=none:=(Fr.az _ (by decide) _).trans f018;simp only [Oe]at hF1 f018';unfold aP;simp [C,f07,f018',Fr.bJ,Fr.iq,hF1];refine L1 _ (fun he F' hF' hG hm=> ?_) (fun he hm F' h4=> ?_)
 ·obtain⟨tk',hF'⟩:=hF';have g7:=hF'.g7;have g4:=hF'.g4;have LL:=EK hS hG;rw [hm]at hF' g7;obtain⟨v1,a1,b1⟩:=hF'.h1;have b2:=hF'.h2;have hft:(kY s ai).aa=[]:=List.eq_nil_of_length_eq_zero (by rw [LL.2.2,hst];rfl);have o4: ∀(x:dE) (k:Nat),k≠4→(F'.ins 4 x).get k=F'.get k:=fun x k hk=>Fr.az _ hk _;have c1:=fun x=>(o4 x mo (by decide)).trans b1;have c2:=fun x=>(o4 x mV (by decide)).trans b2;have hat:=z9 he;rw [hm];simp only [Oe]at g7;simp only [o6]at g4;simp [g7,g4,aD,Fr.bJ]
  have fin: ∀x,fW KC 118 c (.tuple [.agg [.pure (.int .i64 r.wide), .pure (.int .i64 r.deep), .pure (.slice (r.ah.map aS.row)), .pure (.slice (r.aa.map aZ.row)), .pure (.slice (r.seen.map aF)), .pure (.slice (r.aX.map aF)), .pure (.slice (r.ai.map ak.row)), .bc (H.length,mo) 1 (kY s ai).ah.length 0 (kY s ai).ah.length, .bc (H.length,mV) 2 (kY s ai).aq.length 0 (kY s ai).aq.length, .aW], .pure (.int .i64 0), .pure (.int .i64 0)]) (F'.ins 4 x::H)=
    some (.pure (.tuple [.agg (aP r (kY s ai)), .int .i64 0, .int .i64 0]),H):=fun x=>by
   have d1:=c1 x;have d2:=c2 x;generalize F'.ins 4 x=F5 at d1 d2;have hnl: ¬H.length≤H.length-1:=(by omega);rw [ae (by simp)];simp [hnl,d1,d2,a1,aP,hft];exact⟨List.take_of_length_le (by simp),List.take_of_length_le (by simp)⟩
  rw [fin,gB,hat,he];simp only [aP]
 ·rw [hm];simp only [bM]at h4;simp [h4,ae]
theorem xp {r:aA}{s:aw}(hS:fT r s)(hW:WB r)(hFu:Full s)(ai:List ak)(hal:ai.length≤1000000)(hA: ∀a∈ai,AB r a.aO.toNat a)(hH:0<H.length):
  aL KC (aE KC) 118 [.pure (.agg (aP r s)), .pure (.slice (ai.map ak.row))] c H=
   some (.pure (.tuple [.agg (aP r (cK r s ai [] s 0).1), .int .i64 (cK r s ai [] s 0).2.1, .int .i64 (cK r s ai [] s 0).2.2]),H):=by
 by_cases h:s.aa=[]
 ·exact D5 hS hW hFu (List.eq_nil_of_length_eq_zero (by rw [←hS.tl,h];rfl)) ai hal hA hH
 ·exact D4 hS hW hFu h ai hal hA hH
end
section
variable {c:Nat} {H:aj}
def a8 (a:ak):ak→Bool:=fun b=>b.ba==a.ba
noncomputable def bG (r:aA):Nat→aw→List ak→Nat→List aw×aw×Int×Int
 |0,s,_,_=>([],s,-1,0)
 |_+1,s,[],_=>([],s,-1,0)
 |k+1,s,a::rest,i=>
  let g:=(a::rest).takeWhile (a8 a)
  let m:=cK r s g [] s 0
  if m.2.2≠0 then ([],s,i+m.2.1,m.2.2)
  else let q:=bG r k m.1 ((a::rest).drop g.length) (i+g.length);(m.1::q.1,q.2)
def xg (r:aA)(s:aw):Fr:=[(3,bM r s),(6,o6)]
theorem Og {r:aA}{s:aw}(g:GV)(ai:List ak)(hal:ai.length≤1000000)(i:Nat)(hi:i<ai.length)(V:aj)(hcl: ∀f2,clean (f2::[]::xg r s::V) (V.length+1) g=g)(Q:GX→bO→Prop): ∀k j:Nat,j+k=ai.length→
  Q (.exit 2) ⟨[(1, .pure (.slice (ai.map ak.row))),(2,g),(3, .ay (V.length,3) 0),(6, .ay (V.length,6) 0),(9, .pure (.int .i64 i)),(10, .pure (.int .i64 ((j+((ai.drop j).takeWhile (a8 ai[i])).length:Nat):Int)))],[]::xg r s::V,64⟩→
  iB KC au 93 (lp Tryz.f93 1) [1,2,3,6,9,10] [1,2,3,6,9,10] Q
   [(1, .pure (.slice (ai.map ak.row))),(2,g),(3, .ay (V.length,3) 0),(6, .ay (V.length,6) 0),(9, .pure (.int .i64 i)),(10, .pure (.int .i64 j))] ([]::xg r s::V) 64:=by
 intro k
 induction k with
 |zero=>
  intro j hj h1;have e:ai.drop j=[]:=List.drop_of_length_le (by omega);rw [e]at h1;have hnl: ¬j<ai.length:=(by omega);apply ax;conv=>arg 4;whnf
  simp [xg]at hcl;simp [hnl,xg,hcl];simpa [xg]using h1
 |succ k ih=>
  intro j hj h1;have hja:j<ai.length:=(by omega);have hw:=dp (x:=(j:Int)+1) (by omega) (by omega);have ed:ai.drop j=ai[j]::ai.drop (j+1):=List.drop_eq_getElem_cons hja;rw [ed,List.takeWhile_cons]at h1;simp [xg]at hcl;apply ax;conv=>arg 4;whnf
  cases he:(ai[j].ba==ai[i].ba)with
  |true=>
   rw [show a8 ai[i] ai[j]=true from he]at h1
   simp only [if_true,List.length_cons]at h1;have ih':=ih (j+1) (by omega) (by rw [show j+1+((ai.drop (j+1)).takeWhile (a8 ai[i])).length=j+(((ai.drop (j+1)).takeWhile (a8 ai[i])).length+1)by omega];exact h1)
   simp [hja,hi,bE,he,hw,xg,hcl];simpa [xg]using ih'
  |false=>
   rw [show a8 ai[i] ai[j]=false from he]at h1
   simp [hja,hi,bE,he,xg,hcl];simpa [xg]using h1
theorem tj {r:aA}{s:aw}: ∀{g p:List ak} {tk:List (Int×Int)} {nx:aw} {i:Nat},w7 s p tk→qW r s p→nx=kY s p→(∀a∈g,AB r a.aO.toNat a)→(cK r s g tk nx i).2.2=0→qW r s (p++g)∧(cK r s g tk nx i).1=kY s (p++g)
 | [],p,tk,nx,i,_,hG,hn,_,_=>by rw [List.append_nil];exact⟨hG,hn⟩
 |a::g,p,tk,nx,i,hT,hG,hn,hA,h=>by
  unfold cK at h⊢;split at h
  ·simp at h
  ·rename_i h1;split at h
   ·rename_i h2;have h1':b7 r s a.aO.toNat a=true:=(by simpa using h1);have:=tj (hT.snoc (a:=a)) (hG.snoc hT (hA a (List.mem_cons_self ..)) h1' h2) (by rw [hn,iY];rfl) (fun b hb=>hA b (List.mem_cons_of_mem _ hb)) h;rw [if_neg h1,if_pos h2]
    rwa [List.append_assoc,List.singleton_append]at this
   ·simp at h
theorem B8 {r:aA}{s:aw}: ∀{g:List ak} {tk:List (Int×Int)} {nx:aw} {i:Nat},(cK r s g tk nx i).2.2≠0→(cK r s g tk nx i).1=s
 | [],_,_,_,h=>absurd rfl h
 |a::g,tk,nx,i,h=>by
  unfold cK at h⊢;split
  ·rfl
  ·rename_i h1;rw [if_neg h1]at h;split
   ·rename_i h2;rw [if_pos h2]at h;exact B8 h
   ·rfl
theorem B9 {r:aA}{s:aw}: ∀{g:List ak} {tk:List (Int×Int)} {nx:aw} {i:Nat},0≤(cK r s g tk nx i).2.1∧(cK r s g tk nx i).2.1≤i+g.length
 | [],_,_,i=>by simp [cK]
 |a::g,tk,nx,i=>by
  unfold cK;split
  ·simp only [List.length_cons];omega
  ·split
   ·have:=B9 (r:=r) (s:=s) (g:=g) (tk:=fS tk (gn s a.aO.toNat a)) (nx:=da nx a.aO.toNat a) (i:=i+1);simp only [List.length_cons];omega
   ·simp only [List.length_cons];omega
theorem rq {r:aA}{s s':aw}(h:fT r s)(h':fT r s')(hF:Full s):Full s':=by
 have e1:=h'.pl.trans h.pl.symm;have e2:=h'.hl.trans h.hl.symm;have e3:=h'.tl.trans h.tl.symm;have a1:=List.length_pos_iff.2 hF.p0;have a2:=List.length_pos_iff.2 hF.h0;have:=hF.pl;have:=hF.hl;have:=hF.tl;exact⟨List.length_pos_iff.1 (by omega),List.length_pos_iff.1 (by omega),by omega,by omega,by omega⟩
theorem Jq {r:aA} (hW:WB r) (g:GV) (ai:List ak) (hal:ai.length≤1000000) (hA: ∀a∈ai,AB r a.aO.toNat a) (V:List aw→aj) (LV:Nat) (hV: ∀l,(V l).length=LV) (hV0:0<LV)
  (hcl0: ∀f1 f0 l,clean (f1::f0::V l) LV g=g) (hcl1: ∀f2 f1 f0 l,clean (f2::f1::f0::V l) (LV+1) g=g)
  (hsee: ∀l s' c f1 f0,l.length≤1000001→fT r s'→Full s'→dN KC (aE KC) g [.pure (.agg (aP r s'))] c (f1::f0::V l)=some (.pure (.tuple []),f1::f0::V (l++[s'])))
  (Q:GX→bO→Prop): ∀(k i:Nat) (s:aw) (l:List aw),ai.length-i≤k→i≤ai.length→l.length≤i+1→fT r s→Full s→
  ((bG r k s (ai.drop i) i).2.2.2=0→Q (.exit 0) ⟨[(3, .ay (LV,3) 0),(6, .ay (LV,6) 0),(7,aN),(8,aN)],xg r (bG r k s (ai.drop i) i).2.1::V (l++(bG r k s (ai.drop i) i).1),64⟩)→
  ((bG r k s (ai.drop i) i).2.2.2≠0→ ∀s',Q .ret ⟨[(3, .ay (LV,3) 0),(6, .ay (LV,6) 0),(7, .pure (.int .i64 (bG r k s (ai.drop i) i).2.2.1)),(8, .pure (.int .i64 (bG r k s (ai.drop i) i).2.2.2))],[(3,bM r s'),(6,bM r (bG r k s (ai.drop i) i).2.1)]::V (l++(bG r k s (ai.drop i) i).1),64⟩)→
  iB KC au 93 (lp Tryz.f93 0) [1,2,3,6,9] [3,6,7,8] Q
   [(1, .pure (.slice (ai.map ak.row))),(2,g),(3, .ay (LV,3) 0),(6, .ay (LV,6) 0),(9, .pure (.int .i64 i))] (xg r s::V l) 64:=by
 intro k
 induction k with
 |zero=>
  intro i s l hk hi hll hS hF h1 h2;have hnl: ¬i<ai.length:=(by omega);have e:i=ai.length:=(by omega);apply ax;conv=>arg 4;whnf
  simp [bG]at h1;simp [hnl,hV,xg];simpa [xg]using h1
 |succ k ih=>
  intro i s l hk hi hll hS hF h1 h2;by_cases hia:i<ai.length
  ·have ed:ai.drop i=ai[i]::ai.drop (i+1):=List.drop_eq_getElem_cons hia;obtain⟨a,ha⟩: ∃a,ai[i]=a:=⟨_,rfl⟩;rw [ha]at ed;obtain⟨gr,hgr⟩: ∃gr,(a::ai.drop (i+1)).takeWhile (a8 a)=gr:=⟨_,rfl⟩;have hg1:1≤gr.length:=by
    rw [←hgr,List.takeWhile_cons,show a8 a a=true from by simp [a8]]
    simp
   have hgp:gr<+:ai.drop i:=(by rw [ed,←hgr];exact List.takeWhile_prefix _);have hgl:i+gr.length≤ai.length:=(by have:=hgp.length_le;simp at this;omega);have hgt:gr=(ai.drop i).take gr.length:=List.prefix_iff_eq_take.1 hgp;have hsl:List.drop i (List.take (i+gr.length) (ai.map ak.row))=gr.map ak.row:=by
    rw [←List.map_take,←List.map_drop];congr 1;rw [List.drop_take,Nat.add_sub_cancel_left];exact hgt.symm
   have hgA: ∀b∈gr,AB r b.aO.toNat b:=fun b hb=>hA b (List.mem_of_mem_drop (hgp.subset hb));have hgal:gr.length≤1000000:=(by omega);have M:=fun c (H:aj) (hH:0<H.length)=>xp (c:=c) (H:=H) hS hW hF gr hgal hgA hH;obtain⟨m,hm⟩: ∃m,cK r s gr [] s 0=m:=⟨_,rfl⟩;have hbad:=B8 (r:=r) (s:=s) (g:=gr) (tk:=[]) (nx:=s) (i:=0);have hgood:=tj (r:=r) (s:=s) (g:=gr) (p:=[]) (tk:=[]) (nx:=s) (i:=0) (fun x=>by simp) ⟨fun a ha=>by simp at ha,by simp⟩ rfl hgA;have hrng:=B9 (r:=r) (s:=s) (g:=gr) (tk:=[]) (nx:=s) (i:=0);rw [hm]at M hbad hgood hrng;rw [ed]at h1 h2;unfold bG at h1 h2;simp only [hgr,hm]at h1 h2;have L1:=fun Q=>Og (r:=r) (s:=s) g ai hal i hia (V l) (fun f2=>by rw [hV];exact hcl1 _ _ _ _) Q (ai.length-i) i (by omega);rw [ed,ha,hgr]at L1;simp only [hV,xg]at L1;have hc0:=hcl0;obtain⟨e,hee⟩: ∃e,i+gr.length=e:=⟨_,rfl⟩;rw [hee]at L1 hsl hgl;have hle: ¬(e:Int)<(i:Int):=(by omega);have hle2:i≤e:=(by omega);have hmin:min e ai.length=e:=(by omega);have hrl: ∀x:ak,x.row.length=9:=fun _=>rfl;obtain⟨x1,x2,x3⟩:=m;simp only at hbad hgood hrng h1 h2 M;have hw:=dp (x:=(i:Int)+x2) (by omega) (by omega);apply ax;conv=>arg 4;whnf
   simp [hia,hV,xg];refine L1 _ ?_;clear L1;simp only [bM,o6];simp only [aP]at M;by_cases he:x3=0
   ·subst he;obtain⟨hG,hx1⟩:=hgood rfl;have hS1:fT r x1:=(by rw [hx1];exact hG.snd hS);have hF1:=rq hS hS1 hF;simp only [ne_eq,not_true_eq_false,if_false]at h1 h2;have edr:(a::ai.drop (i+1)).drop gr.length=ai.drop (i+gr.length):=(by rw [←ed,List.drop_drop]);rw [edr,hee]at h1 h2;have ih':=ih e x1 (l++[x1]) (by omega) hgl (by simp;omega) hS1 hF1 (fun h=>by rw [List.append_assoc];exact h1 h) (fun h s'=>by rw [List.append_assoc];exact h2 h s');have SE:=fun c f1 f0=>hsee l x1 c f1 f0 (by omega) hS1 hF1;simp only [aP]at SE;simp only [xg,bM,o6]at ih';simp [hV,hle,hle2,hgl,hmin,hsl,hrl,M,SE,aD,hcl0];exact ih'
   ·have hx1:=hbad he;have he':(x3 !=0)=true:=(by simpa using he);simp only [ne_eq,he,not_false_eq_true,if_true]at h2;have h2':=h2 trivial s;simp only [bM,List.append_nil]at h2';simp only [hx1]at M;simp [hV,hle,hle2,hgl,hmin,hsl,hrl,M,he',aD,hw];exact h2'
  ·have e:ai.drop i=[]:=List.drop_of_length_le (by omega);rw [e]at h1;apply ax;conv=>arg 4;whnf
   simp [bG]at h1;simp [hia,hV,xg];simpa [xg]using h1
end
section
variable {c:Nat} {H:aj}
structure Ug (r:aA)(g:GV)(V:List aw→aj)(LV:Nat):Prop where
 len: ∀l,(V l).length=LV
 pos:0<LV
 can:canon g=g
 EO: ∀H,dy H g=(g,H)
 cl: ∀(fs:List Fr) l n,LV-1≤n→clean (fs++V l) n g=g
 Xx: ∀(fs:List Fr) l s' c,fs≠[]→l.length≤1000001→fT r s'→Full s'→dN KC (aE KC) g [.pure (.agg (aP r s'))] c (fs++V l)=some (.pure (.tuple []),fs++V (l++[s']))
theorem yN {r:aA}(hW:WB r){g:GV}{V:List aw→aj}{LV:Nat}(hg:Ug r g V LV)(ai:List ak)(hal:ai.length≤1000000)(hA: ∀a∈ai,AB r a.aO.toNat a){s:aw}(hS:fT r s)(hF:Full s):
  bI KC (aE KC) 93 [.pure (.agg (aP r s)), .pure (.slice (ai.map ak.row)),g] c (V [])=
   some (.pure (.tuple [.agg (aP r (bG r ai.length s ai 0).2.1), .int .i64 (bG r ai.length s ai 0).2.2.1, .int .i64 (bG r ai.length s ai 0).2.2.2]),V (s::(bG r ai.length s ai 0).1)):=by
 have hV:=hg.len;refine aM (aK KC au Tryz.func93 rfl rfl Tu (by simp) (by rw [hV];exact hg.pos) ?_);have hc:=hg.can;have S1:=fun(f0:Fr) c=>hg.Xx [f0] [] s c (by simp) (by simp) hS hF;simp only [List.cons_append,List.nil_append]at S1;have L1:=fun Q=>Jq hW g ai hal hA V LV hV hg.pos (fun f1 f0 l=>hg.cl [f1,f0] l LV (by omega)) (fun f2 f1 f0 l=>hg.cl [f2,f1,f0] l (LV+1) (by omega)) (fun l s' c f1 f0 hl h1 h2=>hg.Xx [f1,f0] l s' c (by simp) hl h1 h2) Q ai.length 0 s [s] (by omega) (by omega) (by simp) hS hF;simp only [List.drop_zero]at L1;simp only [xg,bM,o6,aP]at L1 S1⊢;simp [hV,hc,S1];simp at L1;refine L1 _ (fun h=> ?_) (fun h s'=> ?_)
 ·have hat: ∀k i s ai,(bG r k s ai i).2.2.2=0→(bG r k s ai i).2.2.1= -1:=by
   intro k
   induction k with
   |zero=>intro i s ai h;rfl
   |succ k ih=>
    intro i s ai h
    cases ai with
    |nil=>rfl
    |cons a rest=>
     unfold bG at h⊢;simp only at h⊢;split at h
     ·rename_i h1;exact absurd h h1
     ·rename_i h1;rw [if_neg h1];exact ih _ _ _ h
  have e1:=hat _ _ _ _ h;simp [hV,aD];rw [ae (by simp)];simp [h,e1]
 ·simp [hV,aD];rw [ae (by simp)];simp
noncomputable def dI (r:aA):List aw×aw×Int×Int:=
 let q:=bG r r.ai.length (aJ r) r.ai 0
 (aJ r::q.1,q.2.1,if q.2.2.2=0∧pN r q.2.1=false then ((r.ai.length:Int),11)else q.2.2)
theorem mw {r:aA}: ∀(k:Nat) (s:aw) (ai:List ak) (i:Nat),fT r s→(∀a∈ai,AB r a.aO.toNat a)→fT r (bG r k s ai i).2.1∧ ∀s'∈(bG r k s ai i).1,fT r s'
 |0,s,_,_,hS,_=>⟨hS,fun _ h=>by simp [bG]at h⟩
 |_+1,s,[],_,hS,_=>⟨hS,fun _ h=>by simp [bG]at h⟩
 |k+1,s,a::rest,i,hS,hA=>by
  unfold bG;simp only;split
  ·exact⟨hS,fun _ h=>by simp at h⟩
  ·rename_i h;have h':(cK r s ((a::rest).takeWhile (a8 a)) [] s 0).2.2=0:=(by simpa using h);have hgA: ∀b∈(a::rest).takeWhile (a8 a),AB r b.aO.toNat b:=fun b hb=>hA b ((List.takeWhile_prefix _).subset hb);obtain⟨hG,e⟩:=tj (r:=r) (s:=s) (p:=[]) (tk:=[]) (nx:=s) (i:=0) (fun x=>by simp) ⟨fun a ha=>by simp at ha,by simp⟩ rfl hgA h';have hS1:fT r (cK r s ((a::rest).takeWhile (a8 a)) [] s 0).1:=(by rw [e];exact hG.snd hS);have:=mw k _ ((a::rest).drop ((a::rest).takeWhile (a8 a)).length) (i+((a::rest).takeWhile (a8 a)).length) hS1 (fun b hb=>hA b (List.mem_of_mem_drop hb));refine⟨this.1,fun s' hs'=> ?_⟩;rcases List.mem_cons.1 hs' with rfl|hs'
   ·exact hS1
   ·exact this.2 s' hs'
theorem Ug.up {r:aA}{g:GV}{V:List aw→aj}{LV:Nat}(h:Ug r g V LV)(F:Fr):Ug r g (fun l=>F::V l) (LV+1) where
 len:=fun l=>by simp [h.len]
 pos:=by omega
 can:=h.can
 EO:=h.EO
 cl:=fun fs l n hn=>by
  have:=h.cl (fs++[F]) l n (by omega);simpa using this
 Xx:=fun fs l s' c hf hl h1 h2=>by
  have:=h.Xx (fs++[F]) l s' c (by simp) hl h1 h2;simpa using this
theorem jK {K:Ctx}{rec:Rec}{f:FuncId}{args:List GV}(h1:K.wP f=false)(h2:K.Af f=false)(h3:K.EO f=true):aL K rec f args c H=bI K rec f (bs H args).1 c (bs H args).2:=by
 unfold aL;simp [h1,h2,h3]
theorem wU {K:Ctx}{rec:Rec}{f:FuncId}{a b:List GV}(h:a.map canon=b.map canon):bI K rec f a c H=bI K rec f b c H:=by
 have hl:a.length=b.length:=(by have:=congrArg List.length h;simpa using this);unfold bI;rw [h,hl]
theorem rV {r:aA}(hW:WB r)(hS:fT r (aJ r))(hp0:r.ah≠[])(hal:r.ai.length≤1000000)(hA: ∀a∈r.ai,AB r a.aO.toNat a){g:GV}{V:List aw→aj}{LV:Nat}(hg:Ug r g V LV):
  bI KC (aE KC) 58 [.pure (.agg r.row),g] c (V [])=
   some (.pure (.tuple [.agg (aP r (dI r).2.1), .int .i64 (dI r).2.2.1, .int .i64 (dI r).2.2.2]),V (dI r).1):=by
 have hV:=hg.len;have hF:Full (aJ r):=⟨by simpa [aJ]using hp0,by simpa [aJ]using hp0,by simp [aJ];exact hW.pl,by simp [aJ];exact hW.pl,by simp [aJ];exact hW.tl⟩;refine aM (aK KC au Tryz.func58 rfl rfl S8 (by simp) (by rw [hV];exact hg.pos) ?_);have C:=fun F=>sG (c:=12) (H:=F::V []) r hW.pl hW.tl (by simp);have fz: ∀H,bs H [.pure (.agg (aP r (aJ r))), .pure (.slice (r.ai.map ak.row)),g]=([.pure (.agg (aP r (aJ r))), .pure (.slice (r.ai.map ak.row)),g],H):=fun H=>by simp [bs,hg.EO]
 have R2: ∀F:Fr,aL KC (aE KC) 93 [.pure (.agg (aP r (aJ r))), .pure (.slice (r.ai.map ak.row)),g] 16 (F::V [])=
   some (.pure (.tuple [.agg (aP r (bG r r.ai.length (aJ r) r.ai 0).2.1), .int .i64 (bG r r.ai.length (aJ r) r.ai 0).2.2.1, .int .i64 (bG r r.ai.length (aJ r) r.ai 0).2.2.2]),F::V (aJ r::(bG r r.ai.length (aJ r) r.ai 0).1)):=fun F=>by
  rw [jK rfl rfl rfl,fz];exact yN (c:=16) hW (hg.up F) r.ai hal hA hS hF
 have hc:=hg.can;obtain⟨q,hq⟩: ∃q,bG r r.ai.length (aJ r) r.ai 0=q:=⟨_,rfl⟩;have ha:dI r=(aJ r::q.1,q.2.1,if q.2.2.2=0∧pN r q.2.1=false then ((r.ai.length:Int),11)else q.2.2):=(by unfold dI;simp only [hq]);rw [hq]at R2;rw [ha];have hSq:=mw r.ai.length (aJ r) r.ai 0 hS hA;rw [hq]at hSq;obtain⟨l,s,ba,e⟩:=q;simp only at hSq R2⊢;have OR:=fun c (H:aj) (hH:0<H.length)=>uW (c:=c) (H:=H) r s hW.tl (by rw [hSq.1.hl];exact hW.pl) hSq.1.tl hH;rw [eE]at C⊢;simp only [aP]at C R2 OR⊢;by_cases he:e=0
 ·subst he
  cases ho:pN r s with
  |true=>
   rw [ho]at OR;simp [C,R2,OR,hV,hc,aD];rw [ae (by simp)];simp
  |false=>
   rw [ho]at OR;simp [C,R2,OR,hV,hc,aD];rw [ae (by simp)];simp
 ·have he':(e==0)=false:=(by simpa using he);simp [C,R2,hV,hc,he,he',aD];rw [ae (by simp)];simp
end
def rZ (l:List ak)(x:ak):List ak:=(l.reverse.dropWhile fun y=>decide (x.ba<y.ba)).reverse++x::(l.reverse.takeWhile fun y=>decide (x.ba<y.ba)).reverse
def eC (l:List ak):List ak:=l.foldl rZ []
theorem vX {A B:List ak}{x:ak}(hB: ∀b∈B,x.ba<b.ba)(hA: ∀a,A.getLast? =some a→ ¬x.ba<a.ba):rZ (A++B) x=A++x::B:=by
 unfold rZ;rw [List.reverse_append];have hB': ∀b∈B.reverse,(fun y:ak=>decide (x.ba<y.ba)) b=true:=fun b hb=>(by simpa using hB b (List.mem_reverse.1 hb));rw [List.dropWhile_append_of_pos hB',List.takeWhile_append_of_pos hB'];have hd:A.reverse.dropWhile (fun y=>decide (x.ba<y.ba))=A.reverse∧A.reverse.takeWhile (fun y=>decide (x.ba<y.ba))=[]:=by
  cases h:A.reverse with
  |nil=>exact⟨rfl,rfl⟩
  |cons a r=>
   have:A.getLast? =some a:=(by rw [←List.head?_reverse,h];rfl);have:=hA a this;simp [List.dropWhile_cons,List.takeWhile_cons,this]
 rw [hd.1,hd.2];simp
theorem wK (l:List ak)(x:ak): ∃A B,l=A++B∧rZ l x=A++x::B∧(∀b∈B,x.ba<b.ba)∧(∀a,A.getLast? =some a→ ¬x.ba<a.ba):=by
 refine⟨(l.reverse.dropWhile fun y=>decide (x.ba<y.ba)).reverse,(l.reverse.takeWhile fun y=>decide (x.ba<y.ba)).reverse, ?_,rfl,fun b hb=> ?_,fun a ha=> ?_⟩
 ·rw [←List.reverse_append,List.takeWhile_append_dropWhile,List.reverse_reverse]
 ·have h: ∀(l:List ak) (b:ak),b∈l.takeWhile (fun y=>decide (x.ba<y.ba))→x.ba<b.ba:=fun l b=>by
   induction l with
   |nil=>intro h;simp at h
   |cons y l ih=>
    intro h;rw [List.takeWhile_cons]at h;split at h
    ·rename_i hy;rcases List.mem_cons.1 h with rfl|h
     ·simpa using hy
     ·exact ih h
    ·cases h
  exact h _ _ (List.mem_reverse.1 hb)
 ·rw [List.getLast?_reverse]at ha;have:=List.head?_dropWhile_not (fun y:ak=>decide (x.ba<y.ba)) l.reverse;rw [ha]at this;simpa using this
theorem GN (l:List ak)(x:ak):List.Perm (rZ l x) (x::l):=by
 obtain⟨A,B,e1,e2,_,_⟩:=wK l x;rw [e2,e1];exact List.perm_middle
theorem wL: ∀(l a:List ak),List.Perm (l.foldl rZ a) (a++l)
 | [],a=>by simp
 |x::l,a=>by
  rw [List.foldl_cons];exact(wL l (rZ a x)).trans (((GN a x).append_right l).trans (by simpa using(List.perm_middle (l₁:=a) (l₂:=l) (a:=x)).symm))
theorem kX (l:List ak):List.Perm (eC l) l:=by unfold eC;simpa using wL l []
theorem kO (l:List ak):(eC l).length=l.length:=(kX l).length_eq
theorem Oh {l:List ak}{x:ak}(h:l.Pairwise fun a b=>a.ba≤b.ba):(rZ l x).Pairwise fun a b=>a.ba≤b.ba:=by
 obtain⟨A,B,e1,e2,hB,hA⟩:=wK l x;rw [e2];rw [e1,List.pairwise_append]at h;obtain⟨h1,h2,h3⟩:=h;rw [List.pairwise_append];have hx: ∀a∈A,a.ba≤x.ba:=fun a ha=>by
  cases hl:A.getLast? with
  |none=>rw [List.getLast?_eq_none_iff]at hl;subst hl;cases ha
  |some z=>
   have hz:=hA z hl;obtain⟨A',rfl⟩:=List.getLast?_eq_some_iff.1 hl;rw [List.mem_append,List.mem_singleton]at ha;rcases ha with ha|rfl
   ·have:=(List.pairwise_append.1 h1).2.2 a ha z (by simp);omega
   ·omega
 refine⟨h1,List.pairwise_cons.2 ⟨fun b hb=>by have:=hB b hb;omega,h2⟩,fun a ha b hb=> ?_⟩;rcases List.mem_cons.1 hb with rfl|hb
 ·exact hx a ha
 ·exact h3 a ha b hb
theorem Ca: ∀(l a:List ak),(a.Pairwise fun a b=>a.ba≤b.ba)→((l.foldl rZ a).Pairwise fun a b=>a.ba≤b.ba)
 | [],a,h=>h
 |x::l,a,h=>by rw [List.foldl_cons];exact Ca l _ (Oh h)
theorem IB (l:List ak):(eC l).Pairwise fun a b=>a.ba≤b.ba:=Ca l [] List.Pairwise.nil
end Go.Gh
