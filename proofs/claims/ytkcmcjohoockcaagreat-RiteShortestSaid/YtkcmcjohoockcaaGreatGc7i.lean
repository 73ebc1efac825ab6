/- Texts joined: the evaluator over ghost values, its soundness, the walks. Spaces struck and names made short by a program, for the size. -/
import Derived.Test.YtkcmcjohoockcaaGreatGc7h
import Derived.Test.YtkcmcjohoockcaaGreatGc7f
namespace Go.Gh
open Go.Proofs
set_option linter.unusedVariables false
set_option linter.unusedSimpArgs false
set_option linter.unnecessarySimpa false
set_option maxRecDepth 100000
set_option maxHeartbeats 8000000
section
variable {H:aj}
theorem yF (wd:Int): ∃(p wd':Int),xk wd [1,1,2]=(p,wd')∧1≤p∧p≤2:=by
 have h:=jS wd 3 (by omega);obtain⟨y,hy⟩: ∃y,kS wd 3=y:=⟨_,rfl⟩;rw [hy]at h;have e:xk wd [1,1,2]=(List.getD [1,1,2] y.1.toNat 0,y.2):=by
  rw [ss,if_neg (by simp)];show (List.getD [1,1,2] (kS wd 3).1.toNat 0,(kS wd 3).2)=_
  rw [hy]
 refine⟨_,_,e, ?_⟩;have:y.1.toNat=0∨y.1.toNat=1∨y.1.toNat=2:=(by omega);rcases this with e|e|e<;>rw [e]<;>decide
theorem mg {nm:Nm} (hlt:nm.1<H.length) (r0:aA) (k m:Nat) (T:Int) (F:Fr) (ai:List ak) (s:aw) (q:Nat) (t:Int) (hR:B8 H.length r0 m T F ai s q t) (Q:GX→bN→Prop)
  (ih: ∀F' acts' s' q' t' wd',B8 H.length r0 (m+2) (T+2) F' acts' s' q' t'→uk KC au 11 (lp Tryz.f11 0) [0,6,7,8,9,10] [6,7,8,9] Q (fy nm H.length t' k) (F'::H.set nm (bz wd')) 174)
  (F4:Fr) (acts':List ak) (t2:aw) (p wd':Int) (fm:FM H.length F4 r0 acts' s q t2) (h1:t2.ah.length=s.ah.length∧t2.ao.length=s.ao.length∧t2.aa.length=s.aa.length)
  (hM:Made r0 acts' t2 (t+p)) (hp:p≤2) (hl':acts'.length≤m+2):
  mh (qc ⟨[(0,GV.ay nm 0),(6,GV.ay (H.length,6) 0),(7,GV.ay (H.length,7) 0),(8,GV.ay (H.length,8) 0),(9,GV.pure (PV.int IntKind.i64 (t+p))),(10,GV.pure (PV.int IntKind.i64 (k:Int)))],
    Fr.ins 8 (dH.box [GV.a8 (H.length,ff (kj q)) 1 s.ah.length 0 s.ah.length,GV.a8 (H.length,cX (kj q)) 2 s.ao.length 0 s.ao.length,GV.a8 (H.length,eT (kj q)) 2 s.aa.length 0 s.aa.length]) F4::H.set nm (bz wd'),174⟩)
   fun st=>uk KC au 11 (lp Tryz.f11 0) [0,6,7,8,9,10] [6,7,8,9] Q st.s st.h st.nt:=by
 have hl: ∀w,(H.set nm (bz w)).length=H.length:=fun w=>aj.length_set _ _ _;obtain⟨F',eg,hF⟩:=FM.fin (H:=H.set nm (bz wd')) (nt:=174) (sl:=fy nm H.length (t+p) k) (by rw [hl];omega) (by rw [hl];exact fm) (fun j hj=>by rw [hl];exact uR hlt j hj);rw [hl]at hF;simp only [fy,dA,h1,hl]at eg;rw [eg,jf];have tT:=hR.tT;exact ih F' acts' t2 (kj q) (t+p) wd' ⟨hF,(su q).2,hM,hl',by omega⟩
theorem B9 {nm:Nm} (hlt:nm.1<H.length) (r0:aA) (n:Nat) (hb:RB r0 n) (hn:r0.wide*r0.deep=n) (k:Nat) (hk:k≤1000) (m:Nat) (hm:m≤10000) (T:Int) (hT:T≤1000000) (F:Fr) (ai:List ak) (s:aw) (q:Nat) (t:Int) (wd:Int) (hR:B8 H.length r0 m T F ai s q t) (Q:GX→bN→Prop)
  (w:Nat) (wd1 wd2:Int) (a:ak) (e1:kS wd r0.ah.length=((w:Int),wd1)) (hw:w<r0.ah.length) (e2:fV (jA r0 ai) s w (bJ n r0.aa.length r0.ah.length w) wd1=((a,true),wd2))
  (hA:AB r0 w a) (pa:bV r0 s w a=true) (za:a.bZ=0∧a.gz=0)
  (o:Nat) (wd3 wd4:Int) (x:ak) (bx:Bool) (e3:kS wd2 r0.ah.length=((o:Int),wd3)) (ho:o<r0.ah.length) (e4:fV (jA r0 (ai++[setAt a t])) s o (bJ n r0.aa.length r0.ah.length o) wd3=((x,bx),wd4))
  (hX:bx=true→AB r0 o x∧bV r0 s o x=true∧x.bZ=0∧x.gz=0)
  (ih: ∀F' acts' s' q' t' wd',B8 H.length r0 (m+2) (T+2) F' acts' s' q' t'→uk KC au 11 (lp Tryz.f11 0) [0,6,7,8,9,10] [6,7,8,9] Q (fy nm H.length t' k) (F'::H.set nm (bz wd')) 174):
  uk KC au 11 (lp Tryz.f11 0) [0,6,7,8,9,10] [6,7,8,9] Q (fy nm H.length t ((k+1:Nat):Int)) (F::H.set nm (bz wd)) 174:=by
 have hne: ¬nm.1=H.length:=(by omega);have hne2: ¬nm.1=H.length+1:=(by omega);have hne3: ¬nm.1=H.length+1+1:=(by omega);have hle:nm.1≤H.length:=(by omega);have hl: ∀w,(H.set nm (bz w)).length=H.length:=fun w=>aj.length_set _ _ _;have hB:=fun w f0 f1=>EF hlt w f0 f1;have hW:=fun w f0 f1=>xl hlt w f0 f1;have g7:=hR.fi.g7;have g8:=hR.fi.g8;have hS:=hR.md.snd;have M:=fun f0 c=>uS (f0:=f0) (c:=c) hlt hb hR.fi.toFB hR.fi.sc hS.toFN w hw wd1;rw [e2]at M;have hk1:(0:Int)<(k:Int)+1:=(by omega);have hw1:=dh (x:=(k:Int)) (by omega) (by omega);have hkk:((k:Int)+1-1)=k:=(by omega);have pl:=hb.pl;have tl:=hb.tl;have ml:=hR.ml;have hpl:((r0.ah.length:Int))≤9223372036854775807:=(by omega);have t0:=hR.md.t0;have tT:=hR.tT;have hA':AB r0 w (setAt a t):=ob hA;have pa':bV r0 s w (setAt a t)=true:=jD.trans pa;have eh:=hS.hl;obtain⟨F1,z,fm1,ow1,ow2⟩:=Q0 (H0:=H.set nm (bz wd2)) (hl _) hR.q2 hR.fi hS.toFN hb (setAt a t);obtain⟨F2,fm2,dd⟩:=Od (H0:=H.set nm (bz wd2)) (hl _) hR.q2 fm1 (oc hS hA' pa') (by omega) [(12,bW (setAt a t)),(14, .box [.a8 (H.length,ff (kj q)) 1 s.ah.length 0 s.ah.length, .a8 (H.length,cX (kj q)) 2 s.ao.length 0 s.ao.length, .a8 (H.length,eT (kj q)) 2 s.aa.length 0 s.aa.length])] 57;obtain⟨F3,F4,fm4,ap1,f37,f34⟩:=GR (H0:=H.set nm (bz wd2)) (hl _) hR.q2 fm2 (setAt a t) (by omega);have g71:=fm1.g7;have g81:=fm1.g8;have g72:=fm2.g7;have g82:=fm2.g8;have g74:=fm4.g7;have g84:=fm4.g8;have M2:=fun f0 c=>uS (f0:=f0) (c:=c) hlt hb fm4.toFB fm4.sc hS.toFN o ho wd3;rw [e4]at M2;have LD:=kA (s:=s) (w:=w) hA'.kind;have ewho:(setAt a t).aN.toNat=w:=(by rw [hA'.aN];simp);have hM1: ∀p:Int,1≤p→Made r0 (ai++[setAt a t]) (cR s w (setAt a t)) (t+p):=fun p hp=>by
  have:=hR.md.grp (g:=[setAt a t]) (t':=t+p) ⟨fun b hb'=>by simp only [List.mem_singleton]at hb';subst hb';rw [ewho];exact⟨hA',pa'⟩,List.pairwise_singleton ..⟩ (by simp) (fun b hb'=>by simp only [List.mem_singleton]at hb';subst hb';exact⟨rfl,za⟩) (by omega)
  rwa [qZ,ewho,yG]at this
 simp only [gA,dA]at g7 g8 g71 g81 g72 g82 f37 f34 g74 g84;have LD':=LD;have ap1:=fun f0=>ap1 f0 62 (fun _=>rfl);simp only [rb,lD,GS,ak.row,setAt,bW,List.map_append,List.map_cons,List.map_nil]at LD' M M2 ow1 ow2 dd ap1 f37 f34 g74;have P:=fun(f0:Fr) (w:Int) (c:Nat)=>DY (c:=c) (l:=[1,1,2]) (hB w f0 F4) (by simp);simp only [aG,List.map_cons,List.map_nil,hW]at P;apply sv;conv=>arg 4;whnf
 cases bx with
 |false=>
  obtain⟨p,wd6,e6,p1,p2⟩:=yF wd4;have hwp:=dh (x:=t+p) (by omega) (by omega);simp [fy,hk1,hl,kv,hB,hW,hlt,hne,hne2,aj.dQ,hle,g7,g8,e1,hpl,M,hkk,hw1,ow1,ow2,g71,g81,dd,g72,g82,ap1,f37,f34,g74,g84,e3,M2,P,e6,hwp];exact mg hlt r0 k m T F ai s q t hR Q ih F4 _ _ p wd6 fm4 LD (hM1 p p1) p2 (by simp;omega)
 |true=>
  obtain⟨hX1,px,zx⟩:=hX rfl;by_cases how:o=w
  ·obtain⟨p,wd6,e6,p1,p2⟩:=yF wd4;have hwp:=dh (x:=t+p) (by omega) (by omega);subst how;simp [fy,hk1,hl,kv,hB,hW,hlt,hne,hne2,aj.dQ,hle,g7,g8,e1,hpl,M,hkk,hw1,ow1,ow2,g71,g81,dd,g72,g82,ap1,f37,f34,g74,g84,e3,M2,P,e6,hwp];exact mg hlt r0 k m T F ai s q t hR Q ih F4 _ _ p wd6 fm4 LD (hM1 p p1) p2 (by simp;omega)
  ·have how':((o:Int)==(w:Int))=false:=(by simp;omega);have how2:((o:Int) !=(w:Int))=true:=(by simp;omega);obtain⟨wd5,e5⟩: ∃y,zZ wd4 2=y:=⟨_,rfl⟩;obtain⟨b1,wd5⟩:=wd5;obtain⟨p,wd6,e6,p1,p2⟩:=yF wd5;have hwp:=dh (x:=t+p) (by omega) (by omega)
   cases b1 with
   |false=>
    simp [fy,hk1,hl,kv,qd,hB,hW,hlt,hne,hne2,aj.dQ,hle,g7,g8,e1,hpl,M,hkk,hw1,ow1,ow2,g71,g81,dd,g72,g82,ap1,f37,f34,g74,g84,e3,M2,P,e6,hwp,how',how2,e5];exact mg hlt r0 k m T F ai s q t hR Q ih F4 _ _ p wd6 fm4 LD (hM1 p p1) p2 (by simp;omega)
   |true=>
    have AP:=fun(f0:Fr) (c:Nat)=>GU (c:=c) (f0:=f0) (H0:=H.set nm (bz wd5)) (hl _) fm4.sc hS.toFN (a:=setAt a t) (b:=x) hw ho hA'.aN hA'.hand hX1.aN hX1.hand
    cases hap:qe s w (setAt a t) o x with
    |false=>
     rw [hap]at AP;simp only [lD,ak.row,setAt]at AP;simp [fy,hk1,hl,kv,qd,hB,hW,hlt,hne,hne2,aj.dQ,hle,g7,g8,e1,hpl,M,hkk,hw1,ow1,ow2,g71,g81,dd,g72,g82,ap1,f37,f34,g74,g84,e3,M2,P,e6,hwp,how',how2,e5,AP];exact mg hlt r0 k m T F ai s q t hR Q ih F4 _ _ p wd6 fm4 LD (hM1 p p1) p2 (by simp;omega)
    |true=>
     rw [hap]at AP;have hap':=EG.1 hap;have hX':AB r0 o (setAt x t):=ob hX1;have px':bV r0 s o (setAt x t)=true:=jD.trans px;have hap2:Jn (cd s w (setAt a t)) (cd s o (setAt x t)):=(by rw [yH (a:=x)];exact hap');have one:=xm hS hA' hX' pa' px' hap2;have S1:=hS.Q1 hA' pa';have e1h:=S1.hl;obtain⟨F5,fm5,dd5⟩:=Od (H0:=H.set nm (bz wd5)) (hl _) hR.q2 fm4 (oc S1 hX' one.2.1) (by omega) [(12,bW (setAt a t)),(14, .box [.a8 (H.length,ff (kj q)) 1 s.ah.length 0 s.ah.length, .a8 (H.length,cX (kj q)) 2 s.ao.length 0 s.ao.length, .a8 (H.length,eT (kj q)) 2 s.aa.length 0 s.aa.length]),(16,bW (setAt x t))] 97;obtain⟨F6,F7,fm7,ap5,f67,f76⟩:=GR (H0:=H.set nm (bz wd5)) (hl _) hR.q2 fm5 (setAt x t) (by simp;omega);have g75:=fm5.g7;have g85:=fm5.g8;have g77:=fm7.g7;have g87:=fm7.g8;have L2:=kA (s:=cR s w (setAt a t)) (w:=o) hX'.kind;have P5:=fun(f0:Fr) (w:Int) (c:Nat)=>DY (c:=c) (l:=[1,1,2]) (hB w f0 F7) (by simp);have ewho2:(setAt x t).aN.toNat=o:=(by rw [hX'.aN];simp);have hM2:Made r0 (ai++[setAt a t,setAt x t]) (cR (cR s w (setAt a t)) o (setAt x t)) (t+p):=by
      have:=hR.md.grp (g:=[setAt a t,setAt x t]) (t':=t+p) ⟨fun b hb'=>by
       simp only [List.mem_cons,List.not_mem_nil,or_false]at hb';rcases hb' with rfl|rfl
       ·rw [ewho];exact⟨hA',pa'⟩
       ·rw [ewho2];exact⟨hX',px'⟩,by
        rw [List.pairwise_cons];refine⟨fun b hb'=> ?_,List.pairwise_singleton ..⟩;simp only [List.mem_singleton]at hb';subst hb';unfold tch;rw [ewho,ewho2];exact hap2⟩ (by simp) (fun b hb'=>by
       simp only [List.mem_cons,List.not_mem_nil,or_false]at hb';rcases hb' with rfl|rfl
       ·exact⟨rfl,za⟩
       ·exact⟨rfl,zx⟩) (by omega)
      rwa [qZ,ewho,qZ,ewho2,yG]at this
     have ap5:=fun f0=>ap5 f0 102 (fun e=>by simp at e);simp only [gA,dA]at g75 g85 g77 g87 f67 f76;simp only [lD,GS,ak.row,setAt,bW,List.map_append,List.map_cons,List.map_nil,LD',List.append_assoc,List.cons_append,List.nil_append]at AP dd5 ap5 f67 f76 g75 g77;simp only [aG,List.map_cons,List.map_nil,hW]at P5;simp [fy,hk1,hl,kv,qd,hB,hW,hlt,hne,hne2,aj.dQ,hle,g7,g8,e1,hpl,M,hkk,hw1,ow1,ow2,g71,g81,dd,g72,g82,ap1,f37,f34,g74,g84,e3,M2,P,e6,hwp,how',how2,e5,AP,dd5,g75,g85,ap5,f67,f76,g77,g87,P5];exact mg hlt r0 k m T F ai s q t hR Q ih F7 _ _ p wd6 fm7 (by omega) (by rw [List.append_assoc];exact hM2) p2 (by simp;omega)
end
section
variable {H:aj}
theorem tu {r:aA}{s:aw}{w:Nat}{all:List ak}{wd wd':Int}{a:ak}(hl:all.length≤1000000)(h:fV r s w all wd=((a,true),wd')):a∈all∧bV r s w a=true:=by
 rw [uT]at h;have hlen:=qf r s w all;split at h
 ·cases h
 ·rename_i hne;have h0:0<(eV r s w all).length:=List.length_pos_iff.2 hne;have hr:=jS wd (eV r s w all).length (by omega);generalize kS wd (eV r s w all).length=y at h hr;have hi:y.1.toNat<(eV r s w all).length:=(by omega);have e:=(Prod.mk.inj (Prod.mk.inj h).1).1;rw [aM hi]at e;exact Ca (e▸List.getElem_mem hi)
theorem EH {nm:Nm}(hlt:nm.1<H.length)(r0:aA)(n:Nat)(hb:RB r0 n)(hn:r0.wide*r0.deep=n)(Q:GX→bN→Prop): ∀(k:Nat) (m:Nat) (T:Int) (F:Fr) (ai:List ak) (s:aw) (q:Nat) (t:Int) (wd:Int),k≤1000→m+2*k≤10000→T+2*k≤100000→B8 H.length r0 m T F ai s q t→
  (∀F' acts' s' q' t' wd',B8 H.length r0 (m+2*k) (T+2*k) F' acts' s' q' t'→Q (.exit 0) ⟨[(6, .ay (H.length,6) 0),(7, .ay (H.length,7) 0),(8, .ay (H.length,8) 0),(9, .pure (.int .i64 t'))],F'::H.set nm (bz wd'),174⟩)→
  uk KC au 11 (lp Tryz.f11 0) [0,6,7,8,9,10] [6,7,8,9] Q (fy nm H.length t (k:Int)) (F::H.set nm (bz wd)) 174:=by
 have hl: ∀w,(H.set nm (bz w)).length=H.length:=fun w=>aj.length_set _ _ _;intro k
 induction k with
 |zero=>
  intro m T F ai s q t wd _ _ _ hR hq;apply sv;conv=>arg 4;whnf
  simp [fy,hl];exact hq F ai s q t wd (by simpa using hR)
 |succ k ih=>
  intro m T F ai s q t wd hk hm hT hR hq;have pl:=hb.pl;have tl:=hb.tl;have n9:=hb.n9;have p0:0<r0.ah.length:=List.length_pos_iff.2 hb.p0;obtain⟨w,wd1,e1,hw⟩:=po wd r0.ah.length (by omega) (by omega);have hw':w<r0.ah.length:=(by omega);have el:=fun w:Nat=>qg n r0.aa.length r0.ah.length (w:Int);have el': ∀w:Nat,(bJ n r0.aa.length r0.ah.length (w:Int)).length≤1000000:=fun w=>(by have:=el w;omega);have again: ∀(m':Nat) (T':Int),m'≤m+2→T'≤T+2→ ∀F' acts' s' q' t' wd',B8 H.length r0 m' T' F' acts' s' q' t'→uk KC au 11 (lp Tryz.f11 0) [0,6,7,8,9,10] [6,7,8,9] Q (fy nm H.length t' k) (F'::H.set nm (bz wd')) 174:=fun m' T' hm' hT' F' acts' s' q' t' wd' hR'=>by
   refine ih m' T' F' acts' s' q' t' wd' (by omega) (by omega) (by omega) hR' fun F2 acts2 s2 q2 t2 wd2 hR2=>hq F2 acts2 s2 q2 t2 wd2 ?_;have a:=hR2.ml;have b:=hR2.tT;exact⟨hR2.fi,hR2.q2,hR2.md,by omega,by omega⟩
  obtain⟨y,e2⟩: ∃y,fV (jA r0 ai) s w (bJ n r0.aa.length r0.ah.length w) wd1=y:=⟨_,rfl⟩;obtain⟨⟨a,b⟩,wd2⟩:=y
  cases b with
  |false=>exact Cb hlt r0 n hb k (by omega) m T F ai s q t wd hR Q w wd1 wd2 a e1 hw' e2 (fun F' wd' h=>again m T (by omega) (by omega) F' ai s q t wd' h)
  |true=>
   obtain⟨ha,pa⟩:=tu (el' w) e2;obtain⟨hA,_,za⟩:=mj hn hw' ha;rw [show jA r0 ai={r0 with ai:=ai}from rfl,sy]at pa
   obtain⟨o,wd3,e3,ho⟩:=po wd2 r0.ah.length (by omega) (by omega);have ho':o<r0.ah.length:=(by omega);obtain⟨y,e4⟩: ∃y,fV (jA r0 (ai++[setAt a t])) s o (bJ n r0.aa.length r0.ah.length o) wd3=y:=⟨_,rfl⟩;obtain⟨⟨x,bx⟩,wd4⟩:=y;refine B9 hlt r0 n hb hn k (by omega) m (by omega) T (by omega) F ai s q t wd hR Q w wd1 wd2 a e1 hw' e2 hA pa za o wd3 wd4 x bx e3 ho' e4 (fun hbx=> ?_) (again (m+2) (T+2) (by omega) (by omega));subst hbx;obtain⟨hx,px⟩:=tu (el' o) e4;obtain⟨hX,_,zx⟩:=mj hn ho' hx;rw [show jA r0 (ai++[setAt a t])={r0 with ai:=ai++[setAt a t]}from rfl,sy]at px
   exact⟨hX,px,zx⟩
end
section
variable {H:aj}
section
variable {F f0 f1:Fr} {r0:aA} {ai:List ak} {s:aw} {q L:Nat}
theorem FI.doS (hq:q≤2)(h:FI L F r0 ai s q){t':aw}{v1 v2 v3:Nat}(h1:v1≤t'.ah.length)(h2:v2≤t'.ao.length)(h3:v3≤t'.aa.length)(hl:t'.ah.length=s.ah.length∧t'.ao.length=s.ao.length∧t'.aa.length=s.aa.length):FI L (qh F q v1 v2 v3 t') r0 ai t' q:=by
 have e:dA L q t'=dA L q s:=(by simp only [dA,hl]);have b:=yI h.toFB q hq v1 v2 v3 t';rw [←e]at b
 exact {b with
  sc:=yJ F q hq t' h1 h2 h3
  Cc:=fun k hk hg=>by
   by_cases h1:k=ff q
   ·exact .inl h1
   by_cases h2:k=cX q
   ·exact .inr (.inl h2)
   by_cases h3:k=eT q
   ·exact .inr (.inr h3)
   rw [jg _ _ _ _ _ _ h1 h2 h3]at hg;exact h.Cc k hk hg}
theorem FI.app (hq:q≤2)(h:FI L F r0 ai s q){acts':List ak}(hne:acts'≠[]):FI L (yK L F r0 acts') r0 acts' s q:=by
 obtain⟨a,b,c⟩:=kT q hq;have one: ∀k,(∀j∈fixed,j≠k)→(yK L F r0 acts').get k=F.get k:=fun k hk=>jh _ _ _ _ (hk 62 (by decide)).symm (hk 7 (by decide)).symm
 exact {DZ h.toFB hne with
  sc:=h.sc.other (one _ a) (one _ b) (one _ c)
  Cc:=fun k hk hg=>by
   have h1:k≠62:=fun e=>(by subst e;cases hk);have h2:k≠7:=fun e=>(by subst e;cases hk);rw [jh _ _ _ _ h1 h2]at hg;exact h.Cc k hk hg}
theorem Q3 (hq:q≤2)(h:FI H.length F r0 ai s q){w:Nat}{a:ak}(hb:EI s w a)(hhl:s.ao.length≤1000000)(f0 f1:Fr)(c:Nat):
  ∃F2,FI H.length F2 r0 ai (cR s w a) q∧aL KC (aE KC) 51 [GS H.length q s, .pure (.agg a.row)] c (f0::f1::F::H)=some (.pure (.tuple []),f0::f1::F2::H):=by
 obtain⟨pq,nX,mT,_⟩:=pt q hq;have ne: ¬H.length=H.length+1:=(by omega);have ne2: ¬H.length=H.length+1+1:=(by omega);have g: ∀k,aj.get (f0::f1::F::H) (H.length,k)=F.get k:=fun k=>(by simp [ne]);have st: ∀k b,F.get k=some b→aj.set (f0::f1::F::H) (H.length,k) b=f0::f1::F::H:=fun k b hb=>(by simp [ne,Fr.re h.ji hb]);have nn: ∀a b:Nat,a≠b→((H.length,a):Nm)≠(H.length,b):=fun a b h e=>h (Prod.mk.inj e).2;obtain⟨⟨u1,a1,b1⟩,⟨u2,a2,b2⟩,⟨u3,a3,b3⟩⟩:=h.sc;have S:lX (f0::f1::F::H) (H.length,ff q) (H.length,cX q) (H.length,eT q) u1 u2 u3 s:={pq:=nn _ _ pq,nX:=nn _ _ nX,mT:=nn _ _ mT,g1:=(g _).trans b1,g2:=(g _).trans b2,g3:=(g _).trans b3,e1:=a1,e2:=a2,e3:=a3,s1:=st _ _ b1,s2:=st _ _ b2,s3:=st _ _ b3};obtain⟨v1,v2,v3,c1,c2,c3,e⟩:=Oe (c:=c) S hb hhl (by simp);have LD:=kA (s:=s) (w:=w) hb.kind;refine⟨qh F q v1 v2 v3 (cR s w a),h.doS hq (by omega) (by omega) (by omega) LD,e.trans ?_⟩;simp [cv,qh,ne]
theorem JV (hq:q≤2)(h:FI H.length F r0 ai s q)(a:ak)(hn:ai.length≤1000000)(h0:ai≠[])(f0 f1:Fr)(ka:Nat):
  ∃F2 F3,FI H.length F3 r0 (ai++[a]) s q∧zW H.length ka (dG (H.length,62) 9 (ai.map ak.row)) 9 72 [a.row] (f0::f1::F::H)=some (dG (H.length,62) 9 ((ai++[a]).map ak.row),f0::f1::F2::H)∧
   F2.get 7=some (gA H.length r0 ai)∧F2.ins 7 (gA H.length r0 (ai++[a]))=F3:=by
 have ne: ¬H.length=H.length+1:=(by omega);refine⟨F.ins 62 (.arr 9 ((ai++[a]).map ak.row) 0 false),_,h.app hq (acts':=ai++[a]) (by simp), ?_, ?_,rfl⟩
 ·have ek:zW H.length ka (dG (H.length,62) 9 (ai.map ak.row)) 9 72 [a.row] (f0::f1::F::H)=zW H.length 62 (dG (H.length,62) 9 (ai.map ak.row)) 9 72 [a.row] (f0::f1::F::H):=by
   unfold dG;rw [if_neg (by simpa using h0)];rfl
  rw [ek,rf (fun hr=>absurd (by simpa using hr) h0) (fun hr=>by simp [ne,h.ga h0]) (by simp;omega) (by simp;omega)];simp [ne]
 ·rw [Fr.az _ (by decide)];exact h.g7
end
def mm (t:Int)(w:Nat)(hd:Int):ak:=⟨t,w,3,hd,0,0,0,0,0⟩
theorem D0 {r:aA}{t hd:Int}{w:Nat}(hw:w<r.ah.length)(hh:hd=0∨hd=1):AB r w (mm t w hd):=
 ⟨rfl,hw,hh,⟨by simp [mm],by simp [mm]⟩,fun h=>by simp [mm]at h,fun h=>by simp [mm]at h,fun h=>by simp [mm]at h,by simp [nK,mm]⟩
theorem GW {r0:aA}{ai:List ak}{s:aw}{t hd:Int}{w:Nat}(h:Made r0 ai s t)(hw:w<r0.ah.length)(hh:hd=0∨hd=1)(h0:0≤aU s.ao w hd):
  bV r0 s w (mm t w hd)=true∧Made r0 (ai++[mm t w hd]) (cR s w (mm t w hd)) (t+1)∧aU (cR s w (mm t w hd)).ao w hd= -1∧
  (∀w' hd',(hd'=0∨hd'=1)→ ¬(w'=w∧hd'=hd)→aU (cR s w (mm t w hd)).ao w' hd'=aU s.ao w' hd'):=by
 have pa:bV r0 s w (mm t w hd)=true:=(by rw [yL rfl];exact decide_eq_true h0);have hA:=D0 (r:=r0) (t:=t) hw hh;have ew:(mm t w hd).aN.toNat=w:=(by simp [mm]);have hwh:w<s.ao.length:=(by rw [h.snd.hl];exact hw);refine⟨pa, ?_, ?_,fun w' hd' h1 h2=> ?_⟩
 ·have:=h.grp (g:=[mm t w hd]) (t':=t+1) ⟨fun b hb=>by simp only [List.mem_singleton]at hb;subst hb;rw [ew];exact⟨hA,pa⟩,List.pairwise_singleton ..⟩ (by simp) (fun b hb=>by simp only [List.mem_singleton]at hb;subst hb;exact⟨rfl,rfl,rfl⟩) (by omega)
  rwa [qZ,ew,yG]at this
 ·rw [mo rfl];show aU (bj s.ao w hd (-1)) w hd= -1
  rw [Cd w hd hwh hh hh,if_pos ⟨rfl,rfl⟩]
 ·rw [mo rfl];show aU (bj s.ao w hd (-1)) w' hd'=_
  rw [Cd w' hd' hwh hh h1,if_neg h2]
theorem GY {r0:aA}{s:aw}{t hd:Int}{w:Nat}(h:Made r0 [] s t)(hw:w<r0.ah.length):aU s.ao w hd= -1:=by
 have e:s=aF r0:=(by rw [h.sc];rfl);subst e;unfold aU;have:(aF r0).ao.getD w bA=empty:=by
  rw [aM (by simp [aF];exact hw)];simp [aF]
 rw [this];split<;>rfl
def kU (L:Nat)(t:Int)(w:Nat)(hd:Int):aZ:=[(6, .ay (L,6) 0),(7, .ay (L,7) 0),(8, .ay (L,8) 0),(9, .pure (.int .i64 t)),(18, .pure (.int .i64 w)),(19, .pure (.int .i64 hd))]
theorem z8 (r0:aA) (n:Nat) (hb:RB r0 n) (m:Nat) (hm:m≤100000) (T:Int) (hT:T≤1000000) (F:Fr) (ai:List ak) (s:aw) (q:Nat) (t:Int) (hR:B8 H.length r0 m T F ai s q t) (Q:GX→bN→Prop) (w:Nat) (hw:w<r0.ah.length) (hd:Int) (hh:hd=0∨hd=1)
  (ih: ∀F' acts' s' t',B8 H.length r0 (m+1) (T+1) F' acts' s' q t'→aU s'.ao w hd= -1→(∀w' hd',(hd'=0∨hd'=1)→ ¬(w'=w∧hd'=hd)→aU s'.ao w' hd'=aU s.ao w' hd')→
   gS KC au 11 (lp Tryz.f11 2) [6,7,8,9,18,19] [6,7,8,9,18] Q (kU H.length t' w (hd+1)) ([]::F'::H) 174):
  gS KC au 11 (lp Tryz.f11 2) [6,7,8,9,18,19] [6,7,8,9,18] Q (kU H.length t w hd) ([]::F::H) 174:=by
 have g7:=hR.fi.g7;have g8:=hR.fi.g8;obtain⟨v2,hv2,gh⟩:=hR.fi.sc.h2;have hS:=hR.md.snd;have hwh:w<s.ao.length:=(by rw [hS.hl];exact hw);have eh:=hS.hl;have pl:=hb.pl;have ml:=hR.ml;have t0:=hR.md.t0;have tT:=hR.tT;have R:=fW hS.toFN (w:=w) (hand:=hd) hw;have hw1:=dh (x:=hd+1) (by omega) (by omega);have hw2:=dh (x:=t+1) (by omega) (by omega);have hlt:hd<2:=(by omega);have ne: ¬H.length=H.length+1:=(by omega);obtain⟨x,hx⟩: ∃x,aU s.ao w hd=x:=⟨_,rfl⟩;have hx':aU s.ao w hd=(if hd=0 then s.ao[w].l else s.ao[w].r):=by
  unfold aU;rw [aM hwh]
 by_cases h0:0≤x
 ·have a0:ai≠[]:=fun e=>by
   subst e;have:=GY (hd:=hd) hR.md hw;omega
  obtain⟨pa,M,z1,z2⟩:=GW hR.md hw hh (by rw [hx];exact h0);have hA:=D0 (r:=r0) (t:=t) hw hh;obtain⟨F2,fi2,dd⟩:=Q3 hR.q2 hR.fi (oc hS hA pa) (by omega) [(20,bW (mm t w hd))] [] 135;obtain⟨F3,F4,fi4,ap,f37,f34⟩:=JV hR.q2 fi2 (mm t w hd) (by omega) a0 [(20,bW (mm t w hd))] [] 140;have g72:=fi2.g7;have g82:=fi2.g8;have I:=ih F4 _ _ (t+1) ⟨fi4,hR.q2,M,by simp;omega,by omega⟩ z1 z2;simp only [gA,dA]at g7 g8 g72 g82 f37 f34;simp only [GS,lD,ak.row,mm,bW,List.map_append,List.map_cons,List.map_nil]at dd ap f37 f34;apply ax;conv=>arg 4;whnf
  rcases hh with rfl|rfl
  ·rw [if_pos rfl]at hx';have hx2:s.ao[w].l=x:=hx'.symm.trans hx;simp [kU]at I;simp [kU,g7,g8,gh,hv2,ne,hwh,aH.row,hx2,h0,dd,g72,g82,ap,f37,f34,hw2];exact I
  ·rw [if_neg (by decide)]at hx';have hx2:s.ao[w].r=x:=hx'.symm.trans hx;have w11:IntKind.i64.wrap (1+1)=2:=rfl;simp [kU]at I;simp [kU,g7,g8,gh,hv2,ne,hwh,aH.row,hx2,h0,dd,g72,g82,ap,f37,f34,hw2,w11];exact I
 ·have z1:aU s.ao w hd= -1:=(by omega);have I:=ih F ai s t ⟨hR.fi,hR.q2,hR.md,by omega,by omega⟩ z1 (fun w' hd' _ _=>rfl);simp only [gA,dA]at g7 g8;apply ax;conv=>arg 4;whnf
  rcases hh with rfl|rfl
  ·rw [if_pos rfl]at hx';have hx2:s.ao[w].l=x:=hx'.symm.trans hx;simp [kU]at I;simp [kU,g7,g8,gh,hv2,ne,hwh,aH.row,hx2,h0];exact I
  ·rw [if_neg (by decide)]at hx';have hx2:s.ao[w].r=x:=hx'.symm.trans hx;have w11:IntKind.i64.wrap (1+1)=2:=rfl;simp [kU]at I;simp [kU,g7,g8,gh,hv2,ne,hwh,aH.row,hx2,h0,w11];exact I
end
section
variable {H:aj}
theorem EJ (r0:aA)(n:Nat)(hb:RB r0 n)(q:Nat)(Q:GX→bN→Prop): ∀(k w m:Nat) (T:Int) (F:Fr) (ai:List ak) (s:aw) (t:Int),w+k=r0.ah.length→m+2*k≤100000→T+2*k≤1000000→B8 H.length r0 m T F ai s q t→
  (∀w' hd',w'<w→(hd'=0∨hd'=1)→aU s.ao w' hd'= -1)→
  (∀F' acts' s' t',B8 H.length r0 (m+2*k) (T+2*k) F' acts' s' q t'→(∀w' hd',w'<r0.ah.length→(hd'=0∨hd'=1)→aU s'.ao w' hd'= -1)→Q (.exit 2) ⟨[(6, .ay (H.length,6) 0),(7, .ay (H.length,7) 0),(8, .ay (H.length,8) 0)],F'::H,174⟩)→
  gS KC au 11 (lp Tryz.f11 1) [6,7,8,9,18] [6,7,8] Q [(6, .ay (H.length,6) 0),(7, .ay (H.length,7) 0),(8, .ay (H.length,8) 0),(9, .pure (.int .i64 t)),(18, .pure (.int .i64 w))] (F::H) 174:=by
 have pl:=hb.pl;intro k
 induction k with
 |zero=>
  intro w m T F ai s t hw hm hT hR hz hq;have g7:=hR.fi.g7;simp only [gA]at g7;have hwl: ¬w<r0.ah.length:=(by omega);apply ax;conv=>arg 4;whnf
  simp [g7,hwl];exact hq F ai s t (by simpa using hR) (fun w' hd' h1 h2=>hz w' hd' (by omega) h2)
 |succ k ih=>
  intro w m T F ai s t hw hm hT hR hz hq;have g7:=hR.fi.g7;simp only [gA]at g7;have hwl:w<r0.ah.length:=(by omega);have hw1:=dh (x:=(w:Int)+1) (by omega) (by omega);apply ax;conv=>arg 4;whnf
  simp [g7,hwl];refine z8 r0 n hb m (by omega) T (by omega) F ai s q t hR _ w hwl 0 (.inl rfl) (fun F1 acts1 s1 t1 hR1 z1 y1=> ?_);refine z8 r0 n hb (m+1) (by omega) (T+1) (by omega) F1 acts1 s1 q t1 hR1 _ w hwl (0+1) (.inr rfl) (fun F2 acts2 s2 t2 hR2 z2 y2=> ?_);apply ax;conv=>arg 4;whnf
  simp [kU,hw1];have hR2':B8 H.length r0 (m+2) (T+2) F2 acts2 s2 q t2:=⟨hR2.fi,hR2.q2,hR2.md,hR2.ml,by have:=hR2.tT;omega⟩;refine ih (w+1) (m+2) (T+2) F2 acts2 s2 t2 (by omega) (by omega) (by omega) hR2' (fun w' hd' h1 h2=> ?_) (fun F' acts' s' t' hR' h'=>hq F' acts' s' t' ?_ h')
  ·by_cases e:w'=w
   ·subst e;rcases h2 with rfl|rfl
    ·rw [y2 w' 0 (.inl rfl) (by simp)];exact z1
    ·simpa using z2
   ·rw [y2 w' hd' h2 (fun h=>e h.1),y1 w' hd' h2 (fun h=>e h.1)];exact hz w' hd' (by omega) h2
  ·have a:=hR'.ml;have b:=hR'.tT;exact⟨hR'.fi,hR'.q2,hR'.md,by omega,by omega⟩
def z9 (t:bc)(sp:bB):bc:={t with home:=sp.cell,want:=sp.state}
def kB (ts:List bc)(sps:List bB)(i:Nat):List bc:=ts.mapIdx fun j t=>if j<i then z9 t (sps.getD j aS)else t
theorem mq (ts:List bc)(sps:List bB)(i:Nat):(kB ts sps i).length=ts.length:=by simp [kB]
theorem jZ (ts:List bc)(sps:List bB)(i j:Nat)(h:j<ts.length):(kB ts sps i)[j]'(by simpa [kB]using h)=if j<i then z9 ts[j] (sps.getD j aS)else ts[j]:=by simp [kB]
theorem EK (ts:List bc)(sps:List bB)(i:Nat)(h:i<ts.length):kB ts sps (i+1)=(kB ts sps i).set i (z9 ts[i] (sps.getD i aS)):=by
 refine List.ext_getElem (by simp [kB]) fun j h1 h2=> ?_;have hj:j<ts.length:=(by simpa [kB]using h1);rw [List.getElem_set,jZ _ _ _ _ hj,jZ _ _ _ _ hj];by_cases e:i=j
 ·subst e;simp
 ·rw [if_neg e];by_cases h3:j<i
  ·rw [if_pos h3,if_pos (by omega)]
  ·rw [if_neg h3,if_neg (by omega)]
structure FT (L:Nat)(F:Fr)(r0:aA)(ai:List ak)(s:aw)(q:Nat)(ts:List bc):Prop where
 g6:F.get 6=some jz
 g7:F.get 7=some (gA L r0 ai)
 g8:F.get 8=some (dA L q s)
 gp:F.get 188441=some (.arr 2 (r0.ah.map aW.row) 0 false)
 gl:r0.br≠[]→F.get 393241=some (.arr 1 (r0.br.map aG) 0 false)
 ga:ai≠[]→F.get 62=some (.arr 9 (ai.map ak.row) 0 false)
 h3: ∃v,v≤s.aa.length∧F.get (eT q)=some (.arr 2 (s.aa.map bB.row) v false)
 gt: ∃v,v≤ts.length∧F.get 339993=some (.arr 5 (ts.map bc.row) v false)
 tl:ts.length=r0.aa.length
theorem FT.ins {L:Nat}{F:Fr}{r0:aA}{ai:List ak}{s:aw}{q:Nat}{ts ts':List bc}(hq:q≤2)(h:FT L F r0 ai s q ts){v:Nat}(hv:v≤ts'.length)(hl:ts'.length=ts.length):FT L (F.ins 339993 (.arr 5 (ts'.map bc.row) v false)) r0 ai s q ts' where
 g6:=(Fr.az _ (by decide) _).trans h.g6
 g7:=(Fr.az _ (by decide) _).trans h.g7
 g8:=(Fr.az _ (by decide) _).trans h.g8
 gp:=(Fr.az _ (by decide) _).trans h.gp
 gl:=fun hl=>(Fr.az _ (by decide) _).trans (h.gl hl)
 ga:=fun hl=>(Fr.az _ (by decide) _).trans (h.ga hl)
 h3:=by
  obtain⟨v,a,b⟩:=h.h3;exact⟨v,a,(Fr.az _ ((kT q hq).2.2 339993 (by decide)).symm _).trans b⟩
 gt:=⟨v,hv,Fr.bQ ..⟩
 tl:=hl.trans h.tl
theorem EL (r0:aA)(n:Nat)(hb:RB r0 n)(ai:List ak)(s:aw)(q:Nat)(hq:q≤2)(hsl:s.aa.length=r0.aa.length)(Q:GX→bN→Prop): ∀(k i:Nat) (F:Fr) (ts:List bc),i+k=r0.aa.length→FT H.length F r0 ai s q ts→ts=kB r0.aa s.aa i→
  (∀F',FT H.length F' r0 ai s q (kB r0.aa s.aa r0.aa.length)→Q (.exit 6) ⟨[(6, .ay (H.length,6) 0),(7, .ay (H.length,7) 0)],F'::H,174⟩)→
  gS KC au 11 (lp Tryz.f11 3) [6,7,8,21] [6,7] Q [(6, .ay (H.length,6) 0),(7, .ay (H.length,7) 0),(8, .ay (H.length,8) 0),(21, .pure (.int .i64 i))] (F::H) 174:=by
 have tl:=hb.tl;intro k
 induction k with
 |zero=>
  intro i F ts hi h hts hq';have g7:=h.g7;simp only [gA]at g7;have hwl: ¬i<r0.aa.length:=(by omega);apply ax;conv=>arg 4;whnf
  simp [g7,hwl];have e:i=r0.aa.length:=(by omega);subst e;rw [hts]at h;exact hq' F h
 |succ k ih=>
  intro i F ts hi h hts hq';have g7:=h.g7;have g8:=h.g8;simp only [gA,dA]at g7 g8;obtain⟨v3,a3,b3⟩:=h.h3;obtain⟨vt,a7,bt⟩:=h.gt;have tl':=h.tl;have hwl:i<r0.aa.length:=(by omega);have hil:i<ts.length:=(by omega);have his:i<s.aa.length:=(by omega);have hw1:=dh (x:=(i:Int)+1) (by omega) (by omega);have ne: ¬H.length=H.length+1:=(by omega);have nk:eT q≠339993:=((kT q hq).2.2 339993 (by decide)).symm;have I:=fun ts' h1 h2=>ih (i+1) (F.ins 339993 (.arr 5 (ts'.map bc.row) ts'.length false)) ts' (by omega) (h.ins hq (Nat.le_refl _) h1) h2 hq';have a3':v3≤r0.aa.length:=(by omega);have at2:vt≤r0.aa.length:=(by omega);apply ax;conv=>arg 4;whnf
  simp [g7,g8,hwl,b3,bt,a3',at2,ne,hil,his,tl',hsl,hw1,bB.row,bc.row,Fr.bQ,Fr.az,Fr.jj,nk];have ei:ts[i]=r0.aa[i]:=by
   subst hts;rw [jZ _ _ _ _ hwl,if_neg (by omega)]
  have I2:=I (ts.set i (z9 r0.aa[i] (s.aa.getD i aS))) (by simp) (by rw [hts,EK _ _ _ hwl]);rw [aM his]at I2;simp [bc.row,z9,tl',ei]at I2⊢;exact I2
end
section
variable {c:Nat} {H:aj}
def G2 (L:Nat)(r0:aA):Fr:=fX 393241 1 (r0.br.map aG) [(6,jz),(7,gA L r0 []),(188441, .arr 2 (r0.ah.map aW.row) 0 false),(339993, .arr 5 (r0.aa.map bc.row) 0 false)]
def G4 (L:Nat)(r0:aA):Fr:=fX 393241 1 (r0.br.map aG) [(6,jz),(7,gA L r0 []),(8,dA L 0 (aF r0)),(90139, .arr 1 ((aF r0).ah.map aG) 0 false),(110619, .arr 2 ((aF r0).ao.map aH.row) 0 false),(188441, .arr 2 (r0.ah.map aW.row) 0 false),(217115, .arr 2 ((aF r0).aa.map bB.row) 0 false),(339993, .arr 5 (r0.aa.map bc.row) 0 false)]
theorem JW {key es:Nat}{rows:List (List PV)}{fr:Fr}(h:fr.ji):(fX key es rows fr).ji:=by
 unfold fX;split
 ·exact h
 ·exact Fr.dR h
theorem JX {key es:Nat}{rows:List (List PV)}{fr:Fr}{x:Nat×dH}(hs:fr.ji)(h:x∈fX key es rows fr):x=(key, .arr es rows 0 false)∨x∈fr:=by
 unfold fX at h;split at h
 ·exact .inr h
 ·rcases Fr.py hs h with e|e
  ·exact .inl e
  ·exact .inr e.1
theorem GZ (L:Nat)(r0:aA):Fr.ji [(6,jz),(7,gA L r0 []),(8,dA L 0 (aF r0)),(90139, .arr 1 ((aF r0).ah.map aG) 0 false),(110619, .arr 2 ((aF r0).ao.map aH.row) 0 false),(188441, .arr 2 (r0.ah.map aW.row) 0 false),(217115, .arr 2 ((aF r0).aa.map bB.row) 0 false),(339993, .arr 5 (r0.aa.map bc.row) 0 false)]:=by
 simp [Fr.ji]
theorem X6 (L:Nat)(r0:aA):FI L (G4 L r0) r0 [] (aF r0) 0 where
 ji:=JW (GZ L r0)
 g6:=by unfold G4;rw [cr (by decide)];simp
 g7:=by unfold G4;rw [cr (by decide)];simp
 g8:=by unfold G4;rw [cr (by decide)];simp
 gp:=by unfold G4;rw [cr (by decide)];simp
 gt:=by unfold G4;rw [cr (by decide)];simp
 gl:=fun h=>by unfold G4;rw [dB (by simpa using h)]
 JY:=fun _=>by unfold G4;rw [cr (by decide)];simp
 ga:=fun h=>absurd rfl h
 ref:=fun x hx hne k hk=>by
  rcases JX (GZ L r0) hx with e|e
  ·subst e;rfl
  ·simp only [List.mem_cons,List.not_mem_nil,or_false]at e;rcases e with rfl|rfl|rfl|rfl|rfl|rfl|rfl|rfl
   ·rfl
   ·exact xn hk
   ·exact absurd rfl hne
   ·rfl
   ·rfl
   ·rfl
   ·rfl
   ·rfl
 sc:=⟨⟨0,Nat.zero_le _,by unfold G4 ff;rw [cr (by decide)];simp⟩,⟨0,Nat.zero_le _,by unfold G4 cX;rw [cr (by decide)];simp⟩,⟨0,Nat.zero_le _,by unfold G4 eT;rw [cr (by decide)];simp⟩⟩
 Cc:=fun k hk hg=>by
  have n0:k≠393241:=fun e=>(by subst e;cases hk);have ne: ∀j,fY j=false→k≠j:=fun j hj e=>(by subst e;rw [hj]at hk;cases hk);unfold G4 at hg;rw [cr n0]at hg;simp only [Fr.cL,Fr.get_nil]at hg;rw [if_neg (ne 6 (by decide)),if_neg (ne 7 (by decide)),if_neg (ne 8 (by decide)),if_neg (ne 90139 (by decide)),if_neg (ne 110619 (by decide)),if_neg (ne 188441 (by decide)),if_neg (ne 217115 (by decide)),if_neg (ne 339993 (by decide))]at hg;exact absurd rfl hg
theorem Og {r0:aA}(h:uU r0): ∃n:Nat,RB r0 n∧r0.wide*r0.deep=n:=by
 obtain⟨w,hw⟩:=Int.eq_ofNat_of_zero_le (show 0≤r0.wide by have:=h.w1;omega)
 obtain⟨d,hd⟩:=Int.eq_ofNat_of_zero_le (show 0≤r0.deep by have:=h.d1;omega)
 have w1:=h.w1;have w3:=h.w3;have d1:=h.d1;have d3:=h.d3;have e:r0.wide*r0.deep=((w*d:Nat):Int):=(by rw [hw,hd];simp);have l9:w*d≤3*3:=Nat.mul_le_mul (by omega) (by omega);have l1:0<w*d:=Nat.mul_pos (by omega) (by omega);exact⟨w*d,⟨by rw [e];exact dh (by omega) (by omega),l1,by omega,by omega,h.p3,h.t4,h.p0,h.t0,h.seen⟩,e⟩
theorem X7 {L:Nat}(hL:L=H.length){r0:aA}(hs:r0.seen=[]):pK (G2 L r0::H) (rb L r0 []) (.agg (jA r0 []).row):=by
 subst hL;have g: ∀k,aj.get (G2 H.length r0::H) (H.length,k)=(G2 H.length r0).get k:=fun k=>(by simp);rw [eE];unfold rb;rw [ux];simp only [jA,ri,uy,rj,and_true,true_and];refine⟨⟨_,0,false,(g _).trans (by unfold G2;rw [cr (by decide)];simp),Nat.zero_le _,by simp,rfl,rfl,rfl⟩,⟨_,0,false,(g _).trans (by unfold G2;rw [cr (by decide)];simp),Nat.zero_le _,by simp,rfl,rfl,rfl⟩, ?_,uz fun hr=>(g _).trans (by unfold G2;rw [dB hr]),uz fun hr=>absurd rfl hr⟩;rw [hs];rfl
def fH (r0:aA)(ai:List ak)(s:aw):aA:={r0 with ai:=ai,aa:=kB r0.aa s.aa r0.aa.length}
structure mw (r0:aA)(ai:List ak)(s:aw)(m:Nat):Prop where
 room:uU r0
 made: ∃t:Int,Made r0 ai s t∧t≤2+m
 len:ai.length≤m
 ao: ∀w' hd',w'<r0.ah.length→(hd'=0∨hd'=1)→aU s.ao w' hd'= -1
def kt (c:Nat):Nat:=aq c 339993
def kl (c:Nat):Nat:=aq c 393241
def ka (c:Nat):Nat:=aq c 62
theorem EM {nm:Nm}(hB0:fS H nm){sd N:Nat}(hsd:1≤sd∧sd≤3)(hN:N≤15)(hN1:1≤N):
  ∃r0 ai s wd,mw r0 ai s (2*N+6)∧aL KC (aE KC) 11 [.ay nm 0, .pure (.int .i64 sd), .pure (.int .i64 N)] c H=
   some (.pure (.agg (fH r0 ai s).row),H.set nm (bz wd)):=by
 have hlt:=gT hB0;have hset:=kH hB0;have hne: ¬nm.1=H.length:=(by omega);have hne2: ¬nm.1=H.length+1:=(by omega);have hle:nm.1≤H.length:=by omega
 suffices hs:mh (aL KC (aE KC) 11 [.ay nm 0, .pure (.int .i64 sd), .pure (.int .i64 N)] c H) (fun x=> ∃r0 ai s wd,mw r0 ai s (2*N+6)∧x=(.pure (.agg (fH r0 ai s).row),H.set nm (bz wd)))by
  obtain⟨x,hx,r0,ai,s,wd,h1,h3⟩:=hs;exact⟨r0,ai,s,wd,h1,by rw [hx,h3]⟩
 refine bf KC au Tryz.func11 rfl rfl Q4 rfl rfl rfl (by simp) (by omega) ?_;have hl: ∀w,(H.set nm (bz w)).length=H.length:=fun w=>aj.length_set _ _ _;obtain⟨r0,wd1,hRB,eroom⟩:=EN (c:=24) (H:=[(6,jz)]::H) (nm:=nm) (dN hB0) hsd (by simp [aq]) (by simp [aq]) (by simp [aq]) (fun k e=>hne (by rw [e];simp));obtain⟨n,hb,hn⟩:=Og hRB;have k1:aq 24 46=188441:=(by decide);have k2:aq 24 83=339993:=(by decide);have k3:aq 24 96=393241:=(by decide);have f1:aq 26 22=90139:=(by decide);have f2:aq 26 27=110619:=(by decide);have f3:aq 26 53=217115:=(by decide);have hroom:uV (aj.set (aj.set ([(6,jz)]::H.set nm (bz wd1)) (H.length,188441) (.arr 2 (r0.ah.map aW.row) 0 false)) (H.length,339993) (.arr 5 (r0.aa.map bc.row) 0 false)) (H.length,393241) 1 (r0.br.map aG)=fX 393241 1 (r0.br.map aG) [(6,jz),(188441, .arr 2 (r0.ah.map aW.row) 0 false),(339993, .arr 5 (r0.aa.map bc.row) 0 false)]::H.set nm (bz wd1):=by
  unfold uV fX;by_cases hls:r0.br.map aG=[]
  ·rw [if_pos hls,if_pos hls];simp [hl]
  ·rw [if_neg hls,if_neg hls];simp [hl]
 simp only [List.length_cons,Nat.add_sub_cancel,k1,k2,k3,aj.dQ hlt,hroom]at eroom;have efirst:=EO (c:=26) (H:=G2 H.length r0::H.set nm (bz wd1)) (jA r0 []) (X7 (H:=H.set nm (bz wd1)) (hl _).symm hRB.seen) hRB.p0 hRB.t0 (by show r0.ah.length≤_;have:=hb.pl;omega) (by show r0.aa.length≤_;have:=hb.tl;omega) (by simp) (by simp [hl,f1,G2]) (by simp [hl,f2,G2]) (by simp [hl,f3,G2])
 have hfirst:cv (G2 H.length r0::H.set nm (bz wd1)) (H.length,90139) (H.length,110619) (H.length,217115) 0 0 0 (aF (jA r0 []))=fX 393241 1 (r0.br.map aG) [(6,jz),(7,gA H.length r0 []),(90139, .arr 1 ((aF r0).ah.map aG) 0 false),(110619, .arr 2 ((aF r0).ao.map aH.row) 0 false),(188441, .arr 2 (r0.ah.map aW.row) 0 false),(217115, .arr 2 ((aF r0).aa.map bB.row) 0 false),(339993, .arr 5 (r0.aa.map bc.row) 0 false)]::H.set nm (bz wd1):=by
  show cv _ _ _ _ 0 0 0 (aF r0)=_
  simp [cv,hl,G2]
 simp only [List.length_cons,Nat.add_sub_cancel,hl,f1,f2,f3,hfirst]at efirst;obtain⟨t,wd2,e2,ht⟩:=po wd1 3 (by omega) (by omega);obtain⟨i,wd3,e3,hi1,hi2⟩:=my wd2 N (by omega) (by omega);have hB:=fun w f0=>X8 hlt w f0;have hW:=fun w f0=>Oh hlt w f0;have e4:rb H.length r0 []=uW (H.length,188441) (H.length,339993) (H.length,393241) r0:=rfl;rw [e4]at efirst;simp [jz,uW,lD,gA,G2,fZ]at eroom efirst;have RS:B8 H.length r0 0 2 (G4 H.length r0) [] (aF r0) 0 t:=⟨X6 _ _,by omega,Made.first hRB (by omega),by simp,by omega⟩
 have L1:=fun Q=>EH (H:=H) hlt r0 n hb hn Q i 0 2 (G4 H.length r0) [] (aF r0) 0 t wd3 (by omega) (by omega) (by omega) RS;simp [fy,G4,gA,dA,ff,cX,eT,jz,fZ]at L1;simp [jz,eroom,hl,efirst,kv,sA,hB,hW,hne,hlt,hle,aj.dQ,e2,e3];refine L1 _ fun F1 acts1 s1 q1 t1 wd4 hR1=> ?_;clear L1;simp;have L2:=fun Q=>EJ (H:=H.set nm (bz wd4)) r0 n hb q1 Q r0.ah.length 0 (2*i) (2+2*i) F1 acts1 s1 t1 (by omega) (by have:=hb.pl;omega) (by have:=hb.pl;omega) (by rw [hl];exact hR1) (fun w' hd' h=>absurd h (by omega));simp only [hl]at L2;refine L2 _ fun F2 acts2 s2 t2 hR2 hz=> ?_;clear L2;simp
 have L3:=fun Q=>EL (H:=H.set nm (bz wd4)) r0 n hb acts2 s2 q1 hR2.q2 hR2.md.snd.tl Q r0.aa.length 0 F2 r0.aa (by omega) (by
  rw [hl];exact⟨hR2.fi.g6,hR2.fi.g7,hR2.fi.g8,hR2.fi.gp,hR2.fi.gl,hR2.fi.ga,hR2.fi.sc.h3,⟨0,Nat.zero_le _,hR2.fi.gt⟩,rfl⟩) (by
  refine List.ext_getElem (by simp [kB]) fun j h1 h2=> ?_;rw [jZ _ _ _ _ h1,if_neg (by omega)])
 simp only [hl]at L3;refine L3 _ fun F3 hF=> ?_;clear L3;have g6:=hF.g6;have g7:=hF.g7;obtain⟨v,hv,gt⟩:=hF.gt;simp only [jz,gA]at g6 g7;have p3:=hRB.p3;have ml:=hR2.ml;have tT:=hR2.tT;have hRes:mw r0 acts2 s2 (2*N+6):=⟨hRB,⟨t2,hR2.md,by omega⟩,by omega,hz⟩;simp [g6,g7,hl,Fr.bQ];have gp':=hF.gp;have gl':=hF.gl;have ga':=hF.ga;have tl:(kB r0.aa s2.aa r0.aa.length).length=r0.aa.length:=mq _ _ _
 suffices hs: ∀x,gG KC 11 c (.agg [.pure (.int .i64 r0.wide), .pure (.int .i64 r0.deep), .a8 (H.length,188441) 2 r0.ah.length 0 r0.ah.length, .a8 (H.length,339993) 5 r0.aa.length 0 r0.aa.length, .aV,dG (H.length,393241) 1 (r0.br.map aG),dG (H.length,62) 9 (acts2.map ak.row)]) (F3.ins 6 x::H.set nm (bz wd4))=
   some (.pure (.agg (fH r0 acts2 s2).row),H.set nm (bz wd4))by
  rw [hs,jf];exact⟨r0,acts2,s2,hRes,wd4,rfl⟩
 intro x;have e6: ∀k,k≠6→(F3.ins 6 x).get k=F3.get k:=fun k h=>Fr.az _ h _;have e1:=(e6 188441 (by decide)).trans gp';have e2:=(e6 339993 (by decide)).trans gt;have e3:=fun h=>(e6 393241 (by decide)).trans (gl' h);have e4:=fun h=>(e6 62 (by decide)).trans (ga' h);generalize F3.ins 6 x=F5 at e1 e2 e3 e4;rw [ae (by simp)];have lt:(H.set nm (bz wd4)).length-1<H.length:=(by rw [hl];omega);have hv':v≤r0.aa.length:=(by rw [←tl];exact hv);have nl: ¬H.length≤H.length-1:=(by omega);have q1: ∀k,aj.get (F5::H.set nm (bz wd4)) (H.length,k)=F5.get k:=fun k=>(by simp [hl]);have tk1:List.take r0.ah.length (r0.ah.map aW.row)=r0.ah.map aW.row:=List.take_of_length_le (by simp);have tk2:List.take r0.aa.length ((kB r0.aa s2.aa r0.aa.length).map bc.row)=(kB r0.aa s2.aa r0.aa.length).map bc.row:=List.take_of_length_le (by simp [tl]);have hc1:cI (F5::H.set nm (bz wd4)) ((H.set nm (bz wd4)).length-1) (.a8 (H.length,188441) 2 r0.ah.length 0 r0.ah.length)= .pure (.slice (r0.ah.map aW.row)):=by
  simp [hl,nl,q1,e1,tk1]
 have hc2:cI (F5::H.set nm (bz wd4)) ((H.set nm (bz wd4)).length-1) (.a8 (H.length,339993) 5 r0.aa.length 0 r0.aa.length)= .pure (.slice ((kB r0.aa s2.aa r0.aa.length).map bc.row)):=by
  simp [hl,nl,q1,e2,tk2,tl,hv']
 have hc3:cI (F5::H.set nm (bz wd4)) ((H.set nm (bz wd4)).length-1) (dG (H.length,393241) 1 (r0.br.map aG))=if r0.br.map aG=[]then .aV else .pure (.slice (r0.br.map aG)):=fA (hl _) lt (fun h=>e3 (by simpa using h));have hc4:cI (F5::H.set nm (bz wd4)) ((H.set nm (bz wd4)).length-1) (dG (H.length,62) 9 (acts2.map ak.row))=if acts2.map ak.row=[]then .aV else .pure (.slice (acts2.map ak.row)):=fA (hl _) lt (fun h=>e4 (by simpa using h));rw [sB];have e:canon (cZ ([.pure (.int .i64 r0.wide), .pure (.int .i64 r0.deep), .a8 (H.length,188441) 2 r0.ah.length 0 r0.ah.length, .a8 (H.length,339993) 5 r0.aa.length 0 r0.aa.length, .aV,dG (H.length,393241) 1 (r0.br.map aG),dG (H.length,62) 9 (acts2.map ak.row)].map (cI (F5::H.set nm (bz wd4)) ((H.set nm (bz wd4)).length-1))))= .pure (.agg (fH r0 acts2 s2).row):=by
  refine rm ?_;have ci: ∀rows:List (List PV),cj (if rows=[]then .aV else .pure (.slice rows))= .pure (.slice rows):=fun rows=>by
   split
   ·rename_i h;subst h;rfl
   ·rfl
  simp only [List.map_cons,List.map_nil,od,hc1,hc2,hc3,hc4,ci];rw [eE];show _=_
  simp [fH,hRB.seen]
 rw [e]
end
section
variable {c:Nat} {H:aj}
theorem rq {key es:Nat}{rows:List (List PV)}{F:Fr}{b:dH}:(fX key es rows F).ins key b=F.ins key b:=by
 unfold fX;split
 ·rfl
 ·exact Fr.jj _
end
section
variable {c:Nat} {H:aj}
theorem jE {K:Ctx}{rec:Rec}{f:FuncId}{args:List GV}(h1:jk args=false)(h2:K.Aa f=false)(h3:K.EP f=false):aL K rec f args c H=bK K rec f args c H:=by
 unfold aL;simp [h1,h2,h3]
section
variable {x:List PV} {l:List (List PV)}
theorem xo:iy KC .eql 22 (.pure (.slice (x::l)))=some (.bool false):=by
 unfold iy;rw [ER,Tryz.underlying22];rfl
theorem xp:iy KC .eql 23 (.pure (.slice (x::l)))=some (.bool false):=by
 unfold iy;rw [ER,Tryz.underlying23];rfl
theorem xq:iy KC .eql 24 (.pure (.slice (x::l)))=some (.bool false):=by
 unfold iy;rw [ER,Tryz.underlying24];rfl
theorem xr:iy KC .eql 25 (.pure (.slice (x::l)))=some (.bool false):=by
 unfold iy;rw [ER,Tryz.underlying25];rfl
theorem xt:iy KC .eql 38 (.pure (.slice (x::l)))=some (.bool false):=by
 unfold iy;rw [ER,Tryz.underlying38];rfl
theorem xu:iy KC .eql 39 (.pure (.slice (x::l)))=some (.bool false):=by
 unfold iy;rw [ER,Tryz.underlying39];rfl
end
theorem oe (l:List Int)(h0:l≠[])(hn:l.length≤1000000)(hH:0<H.length)(hf:H.get (H.length-1,aq c 7)=none):
  aL KC (aE KC) 99 [.pure (.slice (l.map aG))] c H=some (.a8 (H.length-1,aq c 7) 1 l.length 0 l.length,H.set (H.length-1,aq c 7) (.arr 1 (l.map aG) 0 false)):=by
 obtain⟨x,l',rfl⟩:=List.exists_cons_of_ne_nil h0;have hb:(l'.length+1)*8≤1099511627776:=(by simp at hn;omega);have hall: ∀x:Int,(aG x).length=1:=fun x=>rfl;have hnl: ¬H.length+1≤H.length:=(by omega);rw [jE rfl rfl rfl];refine aO (aK KC au Tryz.func99 rfl rfl Q5 (by simp) hH ?_);simp [xo,xp,xq,xr,xt,xu,hb,hall,hnl,cS,refs,fT,dX,di,gK,gL,dedup,dI,cP,zX,hf,B6,nY,jF]
theorem rr (l:List aH)(h0:l≠[])(hn:l.length≤1000000)(hH:0<H.length)(hf:H.get (H.length-1,aq c 7)=none):
  aL KC (aE KC) 100 [.pure (.slice (l.map aH.row))] c H=some (.a8 (H.length-1,aq c 7) 2 l.length 0 l.length,H.set (H.length-1,aq c 7) (.arr 2 (l.map aH.row) 0 false)):=by
 obtain⟨x,l',rfl⟩:=List.exists_cons_of_ne_nil h0;have hb:(l'.length+1)*16≤1099511627776:=(by simp at hn;omega);have hall: ∀x:aH,(aH.row x).length=2:=fun x=>rfl;have hnl: ¬H.length+1≤H.length:=(by omega);rw [jE rfl rfl rfl];refine aO (aK KC au Tryz.func100 rfl rfl JZ (by simp) hH ?_);simp [xo,xp,xq,xr,xt,xu,hb,hall,hnl,cS,refs,fT,dX,di,gK,gL,dedup,dI,cP,zX,hf,B6,nY,jF]
theorem yM (l:List bB)(h0:l≠[])(hn:l.length≤1000000)(hH:0<H.length)(hf:H.get (H.length-1,aq c 7)=none):
  aL KC (aE KC) 101 [.pure (.slice (l.map bB.row))] c H=some (.a8 (H.length-1,aq c 7) 2 l.length 0 l.length,H.set (H.length-1,aq c 7) (.arr 2 (l.map bB.row) 0 false)):=by
 obtain⟨x,l',rfl⟩:=List.exists_cons_of_ne_nil h0;have hb:(l'.length+1)*16≤1099511627776:=(by simp at hn;omega);have hall: ∀x:bB,(bB.row x).length=2:=fun x=>rfl;have hnl: ¬H.length+1≤H.length:=(by omega);rw [jE rfl rfl rfl];refine aO (aK KC au Tryz.func101 rfl rfl J0 (by simp) hH ?_);simp [xo,xp,xq,xr,xt,xu,hb,hall,hnl,cS,refs,fT,dX,di,gK,gL,dedup,dI,cP,zX,hf,B6,nY,jF]
theorem uX (l:List aW)(h0:l≠[])(hn:l.length≤1000000)(hH:0<H.length)(hf:H.get (H.length-1,aq c 7)=none):
  aL KC (aE KC) 102 [.pure (.slice (l.map aW.row))] c H=some (.a8 (H.length-1,aq c 7) 2 l.length 0 l.length,H.set (H.length-1,aq c 7) (.arr 2 (l.map aW.row) 0 false)):=by
 obtain⟨x,l',rfl⟩:=List.exists_cons_of_ne_nil h0;have hb:(l'.length+1)*16≤1099511627776:=(by simp at hn;omega);have hall: ∀x:aW,(aW.row x).length=2:=fun x=>rfl;have hnl: ¬H.length+1≤H.length:=(by omega);rw [jE rfl rfl rfl];refine aO (aK KC au Tryz.func102 rfl rfl J1 (by simp) hH ?_);simp [xo,xp,xq,xr,xt,xu,hb,hall,hnl,cS,refs,fT,dX,di,gK,gL,dedup,dI,cP,zX,hf,B6,nY,jF]
theorem wS (l:List bc)(h0:l≠[])(hn:l.length≤1000000)(hH:0<H.length)(hf:H.get (H.length-1,aq c 7)=none):
  aL KC (aE KC) 103 [.pure (.slice (l.map bc.row))] c H=some (.a8 (H.length-1,aq c 7) 5 l.length 0 l.length,H.set (H.length-1,aq c 7) (.arr 5 (l.map bc.row) 0 false)):=by
 obtain⟨x,l',rfl⟩:=List.exists_cons_of_ne_nil h0;have hb:(l'.length+1)*40≤1099511627776:=(by simp at hn;omega);have hall: ∀x:bc,(bc.row x).length=5:=fun x=>rfl;have hnl: ¬H.length+1≤H.length:=(by omega);rw [jE rfl rfl rfl];refine aO (aK KC au Tryz.func103 rfl rfl J2 (by simp) hH ?_);simp [xo,xp,xq,xr,xt,xu,hb,hall,hnl,cS,refs,fT,dX,di,gK,gL,dedup,dI,cP,zX,hf,B6,nY,jF]
theorem tv (l:List ak)(h0:l≠[])(hn:l.length≤1000000)(hH:0<H.length)(hf:H.get (H.length-1,aq c 7)=none):
  aL KC (aE KC) 75 [.pure (.slice (l.map ak.row))] c H=some (.a8 (H.length-1,aq c 7) 9 l.length 0 l.length,H.set (H.length-1,aq c 7) (.arr 9 (l.map ak.row) 0 false)):=by
 obtain⟨x,l',rfl⟩:=List.exists_cons_of_ne_nil h0;have hb:(l'.length+1)*72≤1099511627776:=(by simp at hn;omega);have hall: ∀x:ak,(ak.row x).length=9:=fun x=>rfl;have hnl: ¬H.length+1≤H.length:=(by omega);rw [jE rfl rfl rfl];refine aO (aK KC au Tryz.func75 rfl rfl Q6 (by simp) hH ?_);simp [xo,xp,xq,xr,xt,xu,hb,hall,hnl,cS,refs,fT,dX,di,gK,gL,dedup,dI,cP,zX,hf,B6,nY,jF]
end
section
variable {c:Nat} {H:aj}
def bM (r:aA)(s:aw):dH:= .box [.pure (.int .i64 r.wide), .pure (.int .i64 r.deep), .pure (.slice (r.ah.map aW.row)), .pure (.slice (r.aa.map bc.row)), .pure (.slice (r.seen.map aG)), .pure (.slice (r.br.map aG)), .pure (.slice (r.ai.map ak.row)), .pure (.slice (s.ah.map aG)), .pure (.slice (s.ao.map aH.row)), .pure (.slice (s.aa.map bB.row))]
structure Full (s:aw):Prop where
 p0:s.ah≠[]
 h0:s.ao≠[]
 pl:s.ah.length≤1000000
 hl:s.ao.length≤1000000
 tl:s.aa.length≤1000000
theorem xv (r:aA){s:aw}(h:Full s)(ht0:s.aa≠[])(hH:0<H.length)(hf1:H.get (H.length-1,aq c 28679)=none)(hf2:H.get (H.length-1,aq c 28683)=none)(hf3:H.get (H.length-1,aq c 28687)=none):
  aL KC (aE KC) 63 [.pure (.agg (aQ r s))] c H=some (tw r (H.length-1,aq c 28679) (H.length-1,aq c 28683) (H.length-1,aq c 28687) s,
   cv H (H.length-1,aq c 28679) (H.length-1,aq c 28683) (H.length-1,aq c 28687) 0 0 0 s):=by
 refine aO (bf KC au Tryz.func63 rfl rfl G5 rfl rfl rfl (by simp) hH ?_);have pq:aq c 28679≠aq c 28683:=(by unfold aq;omega);have nX:aq c 28679≠aq c 28687:=(by unfold aq;omega);have mT:aq c 28683≠aq c 28687:=(by unfold aq;omega);have k1:(H.length-1,aq c 28683)≠((H.length-1,aq c 28679):Nm):=fun e=>pq (Prod.mk.inj e).2.symm;have k2:(H.length-1,aq c 28687)≠((H.length-1,aq c 28679):Nm):=fun e=>nX (Prod.mk.inj e).2.symm;have k3:(H.length-1,aq c 28687)≠((H.length-1,aq c 28683):Nm):=fun e=>mT (Prod.mk.inj e).2.symm;have g2: ∀b,(H.set (H.length-1,aq c 28679) b).get (H.length-1,aq c 28683)=none:=fun b=>(aj.aJ b k1).trans hf2;have g3: ∀b b',((H.set (H.length-1,aq c 28679) b).set (H.length-1,aq c 28683) b').get (H.length-1,aq c 28687)=none:=fun b b'=>(aj.aJ b' k3).trans ((aj.aJ b k2).trans hf3);have m1:aq 6 7=28679:=(by decide);have m2:aq 10 7=28683:=(by decide);have m3:aq 14 7=28687:=(by decide);have C1:=fun(F:Fr) (hf:F.get 28679=none)=>oe (c:=6) (H:=F::H) s.ah h.p0 h.pl (by simp) (by simp [m1,hf]);have C2:=fun(F:Fr) (hf:F.get 28683=none)=>rr (c:=10) (H:=F::H) s.ao h.h0 h.hl (by simp) (by simp [m2,hf]);have C3:=fun(F:Fr) (hf:F.get 28687=none)=>yM (c:=14) (H:=F::H) s.aa ht0 h.tl (by simp) (by simp [m3,hf]);simp [m1,m2,m3]at C1 C2 C3;unfold aQ;simp [C1,C2,C3,cS,refs,fT,dX,di,gK,gL,dedup,dI,cP,zX,hf1,g2,g3,B6,nY,jF,cv,tw]
def Q7 (r:aA)(n1 n2:Nm)(s:aw):GV:= .agg [.pure (.int .i64 r.wide), .pure (.int .i64 r.deep), .pure (.slice (r.ah.map aW.row)), .pure (.slice (r.aa.map bc.row)), .pure (.slice (r.seen.map aG)), .pure (.slice (r.br.map aG)), .pure (.slice (r.ai.map ak.row)), .a8 n1 1 s.ah.length 0 s.ah.length, .a8 n2 2 s.ao.length 0 s.ao.length, .aV]
theorem Ab:aL KC (aE KC) 101 [.pure (.slice [])] c H=some (.aV,H):=by
 unfold aL;rw [show KC.wT 101=true from rfl]
 simp [jk]
theorem uY (r:aA){s:aw}(h:Full s)(ht0:s.aa=[])(hH:0<H.length)(hf1:H.get (H.length-1,aq c 28679)=none)(hf2:H.get (H.length-1,aq c 28683)=none):
  aL KC (aE KC) 63 [.pure (.agg (aQ r s))] c H=some (Q7 r (H.length-1,aq c 28679) (H.length-1,aq c 28683) s,
   (H.set (H.length-1,aq c 28679) (.arr 1 (s.ah.map aG) 0 false)).set (H.length-1,aq c 28683) (.arr 2 (s.ao.map aH.row) 0 false)):=by
 refine aO (bf KC au Tryz.func63 rfl rfl G5 rfl rfl rfl (by simp) hH ?_);have pq:aq c 28679≠aq c 28683:=(by unfold aq;omega);have k1:(H.length-1,aq c 28683)≠((H.length-1,aq c 28679):Nm):=fun e=>pq (Prod.mk.inj e).2.symm;have g2: ∀b,(H.set (H.length-1,aq c 28679) b).get (H.length-1,aq c 28683)=none:=fun b=>(aj.aJ b k1).trans hf2;have m1:aq 6 7=28679:=(by decide);have m2:aq 10 7=28683:=(by decide);have C1:=fun(F:Fr) (hf:F.get 28679=none)=>oe (c:=6) (H:=F::H) s.ah h.p0 h.pl (by simp) (by simp [m1,hf]);have C2:=fun(F:Fr) (hf:F.get 28683=none)=>rr (c:=10) (H:=F::H) s.ao h.h0 h.hl (by simp) (by simp [m2,hf]);have C3:=fun(H:aj)=>Ab (c:=14) (H:=H);simp [m1,m2]at C1 C2;unfold aQ;simp [ht0,C1,C2,C3,cS,refs,fT,dX,di,gK,gL,dedup,dI,cP,zX,hf1,g2,B6,nY,jF,Q7]
def abF (r:aA)(s:aw):Prop:= ∀i,i<r.aa.length→s.aa.getD i aS=⟨(r.aa.getD i df).home,(r.aa.getD i df).want⟩
def X9 (s:aw):Prop:=s.ao=s.ao.map fun _=>empty
noncomputable def og:aA→aw→Bool:=nL fun r s=>decide (s.ao=s.ao.map fun _=>empty) && decide (∀i,i<r.aa.length→s.aa.getD i aS=⟨(r.aa.getD i df).home,(r.aa.getD i df).want⟩)
theorem ru (r:aA)(s:aw):og r s=(decide (s.ao=s.ao.map fun _=>empty) && decide (∀i,i<r.aa.length→s.aa.getD i aS=⟨(r.aa.getD i df).home,(r.aa.getD i df).want⟩)):=by rw [og,cN]
theorem ES (r:aA)(s:aw)(hn:s.ao.length≤1000000)(Q:GX→bN→Prop): ∀k i:Nat,i+k=s.ao.length→
  ((∀j,i≤j→j<s.ao.length→s.ao.getD j bA=empty)→Q (.exit 0) ⟨[(1, .ay (H.length,1) 0),(2,aP)],[(1,bM r s)]::H,41⟩)→
  (¬(∀j,i≤j→j<s.ao.length→s.ao.getD j bA=empty)→Q .ret ⟨[(1, .ay (H.length,1) 0),(2, .pure (.bool false))],[(1,bM r s)]::H,41⟩)→
  gS KC au 94 (lp Tryz.f94 0) [1,9,10,11] [1,2] Q [(1, .ay (H.length,1) 0),(9, .pure (.slice (s.ao.map aH.row))),(10, .pure (.int .i64 s.ao.length)),(11, .pure (.int .i64 i))] ([(1,bM r s)]::H) 41:=by
 intro k
 induction k with
 |zero=>
  intro i hi h1 h2;apply ax;conv=>arg 4;whnf
  have: ¬i<s.ao.length:=(by omega);simp [this,bM];simpa [bM]using h1 (fun j a b=>by omega)
 |succ k ih=>
  intro i hi h1 h2;have hia:i<s.ao.length:=(by omega);have hw:=dh (x:=(i:Int)+1) (by omega) (by omega);have hg:=aM (d:=bA) hia;apply ax;conv=>arg 4;whnf
  by_cases e1:s.ao[i].l= -1
  ·by_cases e2:s.ao[i].r= -1
   ·have he:s.ao.getD i bA=empty:=(by rw [hg];cases hh:s.ao[i];rw [hh]at e1 e2;simp only at e1 e2;rw [e1,e2];rfl);have ih':=ih (i+1) (by omega) (fun h=>h1 fun j a b=>by
     by_cases e:j=i
     ·rw [e];exact he
     ·exact h j (by omega) b) (fun h=>h2 fun h'=>h fun j a b=>h' j (by omega) b)
    simp [hia,aH.row,hw,bM,e1,e2];simpa [aH.row,bM]using ih'
   ·have e2':(s.ao[i].r== -1)=false:=(by simpa using e2);simp [hia,aH.row,bM,e1,e2'];simpa [bM]using h2 fun h'=>by
     have:=h' i (Nat.le_refl _) hia;rw [hg]at this;rw [this]at e2;exact e2 rfl
  ·have e1':(s.ao[i].l== -1)=false:=(by simpa using e1);simp [hia,aH.row,bM,e1'];simpa [bM]using h2 fun h'=>by
    have:=h' i (Nat.le_refl _) hia;rw [hg]at this;rw [this]at e1;exact e1 rfl
theorem ET (r:aA)(s:aw)(hn:r.aa.length≤1000000)(hst:s.aa.length=r.aa.length)(Q:GX→bN→Prop): ∀k i:Nat,i+k=r.aa.length→
  ((∀j,i≤j→j<r.aa.length→s.aa.getD j aS=⟨(r.aa.getD j df).home,(r.aa.getD j df).want⟩)→Q (.exit 2) ⟨[(2,aP)],[(1,bM r s)]::H,41⟩)→
  (¬(∀j,i≤j→j<r.aa.length→s.aa.getD j aS=⟨(r.aa.getD j df).home,(r.aa.getD j df).want⟩)→Q .ret ⟨[(2, .pure (.bool false))],[(1,bM r s)]::H,41⟩)→
  gS KC au 94 (lp Tryz.f94 1) [1,21,22,23] [2] Q [(1, .ay (H.length,1) 0),(21, .pure (.slice (r.aa.map bc.row))),(22, .pure (.int .i64 r.aa.length)),(23, .pure (.int .i64 i))] ([(1,bM r s)]::H) 41:=by
 intro k
 induction k with
 |zero=>
  intro i hi h1 h2;apply ax;conv=>arg 4;whnf
  have: ¬i<r.aa.length:=(by omega);simp [this,bM];simpa [bM]using h1 (fun j a b=>by omega)
 |succ k ih=>
  intro i hi h1 h2;have hia:i<r.aa.length:=(by omega);have his:i<s.aa.length:=(by omega);have hw:=dh (x:=(i:Int)+1) (by omega) (by omega);have hg:=aM (d:=df) hia;have hg2:=aM (d:=aS) his;apply ax;conv=>arg 4;whnf
  by_cases e1:s.aa[i].cell=r.aa[i].home
  ·by_cases e2:s.aa[i].state=r.aa[i].want
   ·have he:s.aa.getD i aS=⟨(r.aa.getD i df).home,(r.aa.getD i df).want⟩:=(by rw [hg,hg2,←e1,←e2]);have ih':=ih (i+1) (by omega) (fun h=>h1 fun j a b=>by
     by_cases e:j=i
     ·rw [e];exact he
     ·exact h j (by omega) b) (fun h=>h2 fun h'=>h fun j a b=>h' j (by omega) b)
    simp [hia,his,bc.row,bB.row,hw,bM,e1,e2];simpa [bc.row,bB.row,bM]using ih'
   ·have e2':(s.aa[i].state==r.aa[i].want)=false:=(by simpa using e2);simp [hia,his,bc.row,bB.row,bM,e1,e2'];simpa [bM]using h2 fun h'=>by
     have:=h' i (Nat.le_refl _) hia;rw [hg,hg2]at this;rw [this]at e2;exact e2 rfl
  ·have e1':(s.aa[i].cell==r.aa[i].home)=false:=(by simpa using e1);simp [hia,his,bc.row,bB.row,bM,e1'];simpa [bM]using h2 fun h'=>by
    have:=h' i (Nat.le_refl _) hia;rw [hg,hg2]at this;rw [this]at e1;exact e1 rfl
theorem uZ (r:aA)(s:aw)(hn:r.aa.length≤1000000)(hn2:s.ao.length≤1000000)(hst:s.aa.length=r.aa.length)(hH:0<H.length):
  aL KC (aE KC) 94 [.pure (.agg (aQ r s))] c H=some (.pure (.bool (og r s)),H):=by
 refine eF rfl rfl rfl rfl rfl hH fun H hH=> ?_;refine aO (aK KC au Tryz.func94 rfl rfl Q8 (by simp) hH ?_);have hd:=ru r s;have eh:(∀j,0≤j→j<s.ao.length→s.ao.getD j bA=empty)↔X9 s:=by
  unfold X9;constructor
  ·intro h;refine List.ext_getElem (by simp) fun j h1 h2=> ?_;have:=h j (Nat.zero_le _) h1;rw [aM h1]at this;simp [this]
  ·intro h j _ hj;rw [aM hj];have:s.ao[j]'hj=(s.ao.map fun _=>empty)[j]'(by simpa using hj):=(by congr 1);rw [this];simp
 have et:(∀j,0≤j→j<r.aa.length→s.aa.getD j aS=⟨(r.aa.getD j df).home,(r.aa.getD j df).want⟩)↔abF r s:=⟨fun h i hi=>h i (Nat.zero_le _) hi,fun h i _ hi=>h i hi⟩;have L1:=fun Q=>ES (H:=H) r s hn2 Q s.ao.length 0 (by omega);rw [eh]at L1;have L2:=fun Q=>ET (H:=H) r s hn hst Q r.aa.length 0 (by omega);rw [et]at L2;unfold aQ;simp;simp [bM]at L1 L2;refine L1 _ (fun h=> ?_) (fun h=> ?_)
 ·simp;refine L2 _ (fun h2=> ?_) (fun h2=> ?_)
  ·have:og r s=true:=(by rw [hd,decide_eq_true (p:=s.ao=s.ao.map fun _=>empty) h,Bool.true_and];exact decide_eq_true (p:= ∀i,i<r.aa.length→s.aa.getD i aS=⟨(r.aa.getD i df).home,(r.aa.getD i df).want⟩) h2);simp [ae,this]
  ·have:og r s=false:=by
    rw [hd,Bool.and_eq_false_iff];right;exact decide_eq_false (p:= ∀i,i<r.aa.length→s.aa.getD i aS=⟨(r.aa.getD i df).home,(r.aa.getD i df).want⟩) h2
   simp [ae,this]
 ·have:og r s=false:=by
   rw [hd,Bool.and_eq_false_iff];left;exact decide_eq_false (p:=s.ao=s.ao.map fun _=>empty) h
  simp [ae,this]
end
section
variable {c:Nat} {H:aj}
theorem Ya {l key es bytes cX es2:Nat}{rows rows2:List (List PV)}{r:List PV}{X f0:Fr}(hl:H.length=l)(hne:key≠cX)(hf:X.get key=none)(hb:(rows.length+1)*bytes≤1099511627776):
  zW l key (dG (l,key) es rows) es bytes [r] (f0::fX cX es2 rows2 (fX key es rows X)::H)=some (dG (l,key) es (rows++[r]),f0::fX cX es2 rows2 (fX key es (rows++[r]) X)::H):=by
 subst hl;have g: ∀rows,(fX cX es2 rows2 (fX key es rows X)).get key=(fX key es rows X).get key:=fun rows=>cr hne;have hh: ∀Fx:Fr,aj.get (f0::Fx::H) (H.length,key)=Fx.get key:=fun Fx=>(by simp);rw [rf (fun h=>(hh _).trans ((g _).trans (by rw [h,gb,hf]))) (fun h=>(hh _).trans ((g _).trans (dB h))) (by simp;omega) hb];have e:(fX cX es2 rows2 (fX key es rows X)).ins key (.arr es (rows++[r]) 0 false)=fX cX es2 rows2 (fX key es (rows++[r]) X):=by
  rw [J3 hne,rq];congr 1;unfold fX;simp
 simp [e]
def om:dH:= .box [.pure (.int .i64 0), .pure (.int .i64 0), .aV, .aV, .aV, .aV, .aV, .aV, .aV, .aV]
def Ce (r:aA)(L:Nat)(p:List Int)(h:List aH):Fr:=fX 31 2 (h.map aH.row) (fX 23 1 (p.map aG) [(1,aR r),(2,om),(3, .box [.pure (.int .i64 r.wide), .pure (.int .i64 r.deep), .pure (.slice (r.ah.map aW.row)), .pure (.slice (r.aa.map bc.row)), .pure (.slice (r.seen.map aG)), .pure (.slice (r.br.map aG)), .pure (.slice (r.ai.map ak.row)),dG (L,23) 1 (p.map aG),dG (L,31) 2 (h.map aH.row), .aV])])
theorem EU (r:aA)(hpl:r.ah.length≤1000000)(Q:GX→bN→Prop): ∀(k i:Nat) (p:List Int) (h:List aH),i+k=r.ah.length→p.length=i→h.length=i→
  Q (.exit 0) ⟨[(1, .ay (H.length,1) 0),(2, .ay (H.length,2) 0),(3, .ay (H.length,3) 0)],Ce r H.length (p++(r.ah.drop i).map (·.cell)) (h++(r.ah.drop i).map fun _=>empty)::H,56⟩→
  gS KC au 92 (lp Tryz.f92 0) [1,2,3,11,12,13] [1,2,3] Q [(1, .ay (H.length,1) 0),(2, .ay (H.length,2) 0),(3, .ay (H.length,3) 0),(11, .pure (.slice (r.ah.map aW.row))),(12, .pure (.int .i64 r.ah.length)),(13, .pure (.int .i64 i))] (Ce r H.length p h::H) 56:=by
 intro k
 induction k with
 |zero=>
  intro i p h hi hp hh hq;have e1:r.ah.drop i=[]:=List.drop_of_length_le (by omega);rw [e1]at hq;apply ax;conv=>arg 4;whnf
  have: ¬i<r.ah.length:=(by omega);simp [this,Ce];simpa [Ce]using hq
 |succ k ih=>
  intro i p h hi hp hh hq;have hia:i<r.ah.length:=(by omega);have hw:=dh (x:=(i:Int)+1) (by omega) (by omega);have e1:r.ah.drop i=r.ah[i]::r.ah.drop (i+1):=List.drop_eq_getElem_cons hia;have ih':=ih (i+1) (p++[r.ah[i].cell]) (h++[empty]) (by omega) (by simp [hp]) (by simp [hh]) (by rw [e1,List.map_cons,List.map_cons]at hq;rw [List.append_assoc,List.append_assoc];exact hq);have b1:(p.length+1)*8≤1099511627776:=(by omega);have b2:(h.length+1)*16≤1099511627776:=(by omega);have K1:=fun(f0 X:Fr) hf=>Ya (H:=H) (l:=H.length) (key:=23) (es:=1) (bytes:=8) (cX:=31) (es2:=2) (rows:=p.map aG) (rows2:=h.map aH.row) (r:=[.int .i64 r.ah[i].cell]) (X:=X) (f0:=f0) rfl (by decide) hf (by simpa using b1);have K2:=fun(f0 X:Fr) hf=>G6 (H:=H) (l:=H.length) (key:=31) (es:=2) (bytes:=16) (rows:=h.map aH.row) (r:=[.int .i64 (-1), .int .i64 (-1)]) (fr:=X) (f0:=f0) rfl hf (by simpa using b2);apply ax;conv=>arg 4;whnf
  simp [Ce,aG,aH.row,empty]at ih';simp [hia,aW.row,Ce,hw,K1,K2];exact ih'
def Cf (r:aA)(L:Nat)(p:List Int)(h:List aH)(t:List bB):Fr:=fX 51 2 (t.map bB.row) (fX 31 2 (h.map aH.row) (fX 23 1 (p.map aG) [(1,aR r),(2,om),(3, .box [.pure (.int .i64 r.wide), .pure (.int .i64 r.deep), .pure (.slice (r.ah.map aW.row)), .pure (.slice (r.aa.map bc.row)), .pure (.slice (r.seen.map aG)), .pure (.slice (r.br.map aG)), .pure (.slice (r.ai.map ak.row)),dG (L,23) 1 (p.map aG),dG (L,31) 2 (h.map aH.row),dG (L,51) 2 (t.map bB.row)])]))
theorem EV (r:aA)(htl:r.aa.length≤1000000)(p:List Int)(h:List aH)(Q:GX→bN→Prop): ∀(k i:Nat) (t:List bB),i+k=r.aa.length→t.length=i→
  Q (.exit 2) ⟨[(2, .ay (H.length,2) 0),(3, .ay (H.length,3) 0)],Cf r H.length p h (t++(r.aa.drop i).map eW)::H,56⟩→
  gS KC au 92 (lp Tryz.f92 1) [2,3,36,37,38] [2,3] Q [(2, .ay (H.length,2) 0),(3, .ay (H.length,3) 0),(36, .pure (.slice (r.aa.map bc.row))),(37, .pure (.int .i64 r.aa.length)),(38, .pure (.int .i64 i))] (Cf r H.length p h t::H) 56:=by
 intro k
 induction k with
 |zero=>
  intro i t hi ht hq;have e1:r.aa.drop i=[]:=List.drop_of_length_le (by omega);rw [e1]at hq;apply ax;conv=>arg 4;whnf
  have: ¬i<r.aa.length:=(by omega);simp [this,Cf];simpa [Cf]using hq
 |succ k ih=>
  intro i t hi ht hq;have hia:i<r.aa.length:=(by omega);have hw:=dh (x:=(i:Int)+1) (by omega) (by omega);have e1:r.aa.drop i=r.aa[i]::r.aa.drop (i+1):=List.drop_eq_getElem_cons hia;have ih':=ih (i+1) (t++[eW r.aa[i]]) (by omega) (by simp [ht]) (by rw [e1,List.map_cons]at hq;rw [List.append_assoc];exact hq);have b2:(t.length+1)*16≤1099511627776:=(by omega);have K2:=fun(f0 X:Fr) hf=>G6 (H:=H) (l:=H.length) (key:=51) (es:=2) (bytes:=16) (rows:=t.map bB.row) (r:=[.int .i64 r.aa[i].cell, .int .i64 r.aa[i].state]) (fr:=X) (f0:=f0) rfl hf (by simpa using b2);apply ax;conv=>arg 4;whnf
  simp [Cf,bB.row,eW]at ih';simp [hia,bc.row,Cf,hw,K2];exact ih'
theorem sC (r:aA)(hpl:r.ah.length≤1000000)(htl:r.aa.length≤1000000)(hH:0<H.length):
  aL KC (aE KC) 92 [.pure (.agg r.row)] c H=some (.pure (.agg (aQ r (aF r))),H):=by
 refine aO (bf KC au Tryz.func92 rfl rfl Q9 rfl rfl rfl (by simp) hH ?_);rw [eE];have L1:=fun Q h=>EU (H:=H) r hpl Q r.ah.length 0 [] [] (by omega) rfl rfl h;simp [Ce,fZ,gb,aR,om]at L1;simp;refine L1 _ ?_;clear L1;have L2:=fun p h Q hh=>EV (H:=H) r htl p h Q r.aa.length 0 [] (by omega) rfl hh;simp [Cf,fZ,gb,aR,om]at L2;simp;have L3:=L2 (r.ah.map (·.cell)) (r.ah.map fun _=>empty);simp at L3;refine L3 _ ?_;clear L2 L3;simp;obtain⟨a1,h1⟩: ∃a1,r.ah.map (aG ∘ fun x=>x.cell)=a1:=⟨_,rfl⟩;obtain⟨a2,h2⟩: ∃a2,r.ah.map (aH.row ∘ fun _=>empty)=a2:=⟨_,rfl⟩;obtain⟨a3,h3⟩: ∃a3,r.aa.map (bB.row ∘ eW)=a3:=⟨_,rfl⟩;rw [h1,h2,h3];generalize hx:dH.box [.pure (.int .i64 r.wide), .pure (.int .i64 r.deep), .pure (.slice (r.ah.map aW.row)), .pure (.slice (r.aa.map bc.row)), .pure (.slice (r.seen.map aG)), .pure (.slice (r.br.map aG)), .pure (.slice (r.ai.map ak.row)),dG (H.length,23) 1 a1,dG (H.length,31) 2 a2,dG (H.length,51) 2 a3]=x;obtain⟨y,hy⟩: ∃y,dH.box [.pure (.int .i64 r.wide), .pure (.int .i64 r.deep), .pure (.slice (r.ah.map aW.row)), .pure (.slice (r.aa.map bc.row)), .pure (.slice (r.seen.map aG)), .pure (.slice (r.br.map aG)), .pure (.slice (r.ai.map ak.row))]=y:=⟨_,rfl⟩;rw [hy];obtain⟨F,hF⟩: ∃F,fX 51 2 a3 (fX 31 2 a2 (fX 23 1 a1 [(1,y),(2,x),(3,x)]))=F:=⟨_,rfl⟩;have g1:a1≠[]→F.get 23=some (.arr 1 a1 0 false):=fun h=>(by rw [←hF,cr (by decide),cr (by decide),dB h]);have g2:a2≠[]→F.get 31=some (.arr 2 a2 0 false):=fun h=>(by rw [←hF,cr (by decide),dB h]);have g3:a3≠[]→F.get 51=some (.arr 2 a3 0 false):=fun h=>(by rw [←hF,dB h]);rw [hF,ae (by simp),jf];have lt:H.length-1<H.length:=(by omega);rw [sB];have ci: ∀rows:List (List PV),cj (if rows=[]then .aV else .pure (.slice rows))= .pure (.slice rows):=fun rows=>by
  split
  ·rename_i h;subst h;rfl
  ·rfl
 have e:canon (cZ ([.pure (.int .i64 r.wide), .pure (.int .i64 r.deep), .pure (.slice (r.ah.map aW.row)), .pure (.slice (r.aa.map bc.row)), .pure (.slice (r.seen.map aG)), .pure (.slice (r.br.map aG)), .pure (.slice (r.ai.map ak.row)),dG (H.length,23) 1 a1,dG (H.length,31) 2 a2,dG (H.length,51) 2 a3].map (cI (F::H) (H.length-1))))= .pure (.agg (aQ r (aF r))):=by
  refine rm ?_;simp only [List.map_cons,List.map_nil,od,fA rfl lt g1,fA rfl lt g2,fA rfl lt g3,ci];simp [aQ,aF,←h1,←h2,←h3,cj]
 rw [e]
end
section
variable {c:Nat} {H:aj}
def kC (tk:List (Int×Int)):List (PV×GV):=tk.map fun x=>(.agg [.int .i64 x.1, .int .i64 x.2], .pure (.bool true))
theorem mz (a b : Int) : ∀ (tk : List (Int × Int)) (i : Nat), cH (.agg [.int .i64 a, .int .i64 b]) (kC tk) i = some (if (a, b) ∈ tk then some (i + tk.idxOf (a, b), .pure (.bool true)) else none)
  | [], i => by simp [kC, cH]
  | (p, q) :: tk, i => by
    have ih := mz a b tk (i + 1)
    unfold kC at ih ⊢
    rw [List.map_cons]
    unfold cH
    by_cases h : a = p ∧ b = q
    · obtain ⟨rfl, rfl⟩ := h
      simp [nM, jm]
    · have h' : (a == p && b == q) = false := by
        rw [Bool.and_eq_false_iff]
        by_cases e : a = p
        · right; simpa using fun e2 => h ⟨e, e2⟩
        · left; simpa using e
      have hne : ¬ (a, b) = (p, q) := fun e => h ⟨(Prod.mk.inj e).1, (Prod.mk.inj e).2⟩
      have hne' : ¬ (p, q) = (a, b) := fun e => hne e.symm
      simp only [nM, jm, if_true, Bool.and_true, h', ih, List.mem_cons, hne, false_or]
      have hb : ((p, q) == (a, b)) = false := by simpa using hne'
      simp only [List.idxOf_cons, hb, cond_false, Option.some.injEq]
      by_cases hm : (a, b) ∈ tk
      · simp [hm]; omega
      · simp [hm]
def u0 (tk:List (Int×Int))(x:Int×Int):List (Int×Int):=if x∈tk then tk else tk++[x]
theorem G7 {tk:List (Int×Int)}{x y:Int×Int}:y∈u0 tk x↔y∈tk∨y=x:=by
 unfold u0;split
 ·rename_i h;constructor
  ·exact .inl
  ·rintro(h'|rfl)
   ·exact h'
   ·exact h
 ·simp
def fI (tk l:List (Int×Int)):List (Int×Int):=l.foldl u0 tk
theorem xw {y:Int×Int}: ∀{l tk:List (Int×Int)},y∈fI tk l↔y∈tk∨y∈l
 | [],tk=>by simp [fI]
 |x::l,tk=>by
  show y∈fI (u0 tk x) l↔_
  rw [xw,G7];simp only [List.mem_cons];constructor
  ·rintro((h|h)|h)
   ·exact .inl h
   ·exact .inr (.inl h)
   ·exact .inr (.inr h)
  ·rintro(h|h|h)
   ·exact .inl (.inl h)
   ·exact .inl (.inr h)
   ·exact .inr h
theorem Ha {tk:List (Int×Int)}{a b:Int}(h:(a,b)∈tk):(kC tk).set (tk.idxOf (a,b)) (.agg [.int .i64 a, .int .i64 b], .pure (.bool true))=kC tk:=by
 have hl:tk.idxOf (a,b)<tk.length:=List.idxOf_lt_length_iff.2 h;unfold kC;refine List.ext_getElem (by simp) fun j h1 h2=> ?_;rw [List.getElem_set];split
 ·rename_i e;subst e;simp [List.getElem_idxOf]
 ·rfl
theorem Hb {tk:List (Int×Int)}{a b:Int}:kC tk++[(.agg [.int .i64 a, .int .i64 b], .pure (.bool true))]=kC (tk++[(a,b)]):=by simp [kC]
structure MF (F:Fr)(r:aA)(s:aw)(tk:List (Int×Int)):Prop where
 g2:F.get 2=some (bM r s)
 g4:F.get 4=some om
 gm:F.get 18=some (.map (kC tk))
theorem xx {F:Fr}{r:aA}{s:aw}{tk:List (Int×Int)}(hF:MF F r s tk)(a:ak)(g:List ak)(n i:Nat)(l:List (Int×Int))(hl:l.length≤1000)(Q:GX→bN→Prop): ∀k j:Nat,j+k=l.length→
  ((∀x∈l.drop j,x∉tk)→Q (.exit 2) ⟨[(2, .ay (H.length,2) 0),(4, .ay (H.length,4) 0),(5,aP),(6,aP),(7, .ay (H.length,7) 0),(8, .map (H.length,18)),(10, .ay (H.length+1,10) 0),(11, .pure (.slice (l.map du))),(19, .pure (.slice (g.map ak.row))),(20, .pure (.int .i64 n)),(21, .pure (.int .i64 i))],[(10,bW a)]::F::H,65⟩)→
  (¬(∀x∈l.drop j,x∉tk)→Q .ret ⟨[(2, .ay (H.length,2) 0),(4, .ay (H.length,4) 0),(5, .pure (.int .i64 i)),(6, .pure (.int .i64 12)),(7, .ay (H.length,7) 0),(8, .map (H.length,18)),(10, .ay (H.length+1,10) 0),(11, .pure (.slice (l.map du))),(19, .pure (.slice (g.map ak.row))),(20, .pure (.int .i64 n)),(21, .pure (.int .i64 i))],[(10,bW a)]::F.ins 4 (bM r s)::H,65⟩)→
  gS KC au 118 (lp Tryz.f118 1) [2,4,7,8,9,10,11,19,20,21,35,36,37] [2,4,5,6,7,8,10,11,19,20,21] Q
   [(2, .ay (H.length,2) 0),(4, .ay (H.length,4) 0),(7, .ay (H.length,7) 0),(8, .map (H.length,18)),(9, .pure (.int .i64 i)),(10, .ay (H.length+1,10) 0),(11, .pure (.slice (l.map du))),(19, .pure (.slice (g.map ak.row))),(20, .pure (.int .i64 n)),(21, .pure (.int .i64 i)),(35, .pure (.slice (l.map du))),(36, .pure (.int .i64 l.length)),(37, .pure (.int .i64 j))] ([(10,bW a)]::F::H) 65:=by
 have g2:=hF.g2;have g4:=hF.g4;have gm:=hF.gm;intro k
 induction k with
 |zero=>
  intro j hj h1 h2;apply ax;conv=>arg 4;whnf
  have hnl: ¬j<l.length:=(by omega);have e:l.drop j=[]:=List.drop_of_length_le (by omega);simp [hnl];simpa [bW]using h1 (by rw [e];simp)
 |succ k ih=>
  intro j hj h1 h2;have hja:j<l.length:=(by omega);have hw:=dh (x:=(j:Int)+1) (by omega) (by omega);have ed:l.drop j=l[j]::l.drop (j+1):=List.drop_eq_getElem_cons hja;have ne: ¬H.length=H.length+1:=(by omega);simp only [bM]at g2;simp only [om]at g4;apply ax;conv=>arg 4;whnf
  by_cases hm:l[j]∈tk
  ·have hm':(l[j].1,l[j].2)∈tk:=hm;have h2':=h2 (fun h=>h l[j] (by rw [ed];exact List.mem_cons_self ..) hm);simp only [bM,bW]at h2';simp [hja,du,gm,mz,hm',mapOf,ne,g2,g4,aD,bW];exact h2'
  ·have hm': ¬(l[j].1,l[j].2)∈tk:=hm;have ih':=ih (j+1) (by omega) (fun h=>h1 fun x hx=>by
    rw [ed]at hx;rcases List.mem_cons.1 hx with rfl|hx
    ·exact hm
    ·exact h x hx) (fun h=>h2 fun h'=>h fun x hx=>h' x (by rw [ed];exact List.mem_cons_of_mem _ hx))
   simp [hja,du,gm,mz,hm',mapOf,ne,hw,bW];simpa [du,bW]using ih'
theorem Ac {a:ak}(g:List ak)(n i:Nat)(l:List (Int×Int))(hl:l.length≤1000)(Q:GX→bN→Prop): ∀(k j:Nat) (F:Fr) (tk:List (Int×Int)),j+k=l.length→F.ji→F.get 18=some (.map (kC tk))→
  Q (.exit 4) ⟨[(2, .ay (H.length,2) 0),(4, .ay (H.length,4) 0),(7, .ay (H.length,7) 0),(8, .map (H.length,18)),(10, .ay (H.length+1,10) 0),(19, .pure (.slice (g.map ak.row))),(20, .pure (.int .i64 n)),(21, .pure (.int .i64 i))],[(10,bW a)]::F.ins 18 (.map (kC (fI tk (l.drop j))))::H,65⟩→
  gS KC au 118 (lp Tryz.f118 2) [2,4,7,8,10,19,20,21,47,48,49] [2,4,7,8,10,19,20,21] Q
   [(2, .ay (H.length,2) 0),(4, .ay (H.length,4) 0),(7, .ay (H.length,7) 0),(8, .map (H.length,18)),(10, .ay (H.length+1,10) 0),(19, .pure (.slice (g.map ak.row))),(20, .pure (.int .i64 n)),(21, .pure (.int .i64 i)),(47, .pure (.slice (l.map du))),(48, .pure (.int .i64 l.length)),(49, .pure (.int .i64 j))] ([(10,bW a)]::F::H) 65:=by
 intro k
 induction k with
 |zero=>
  intro j F tk hj hs gm h1;apply ax;conv=>arg 4;whnf
  have hnl: ¬j<l.length:=(by omega);have e:l.drop j=[]:=List.drop_of_length_le (by omega);rw [e,show fI tk []=tk from rfl,Fr.re hs gm]at h1
  simp only [bW]at h1;simp [hnl,bW];exact h1
 |succ k ih=>
  intro j F tk hj hs gm h1;have hja:j<l.length:=(by omega);have hw:=dh (x:=(j:Int)+1) (by omega) (by omega);have ed:l.drop j=l[j]::l.drop (j+1):=List.drop_eq_getElem_cons hja;have ne: ¬H.length=H.length+1:=(by omega);rw [ed,show fI tk (l[j]::l.drop (j+1))=fI (u0 tk l[j]) (l.drop (j+1))from rfl]at h1
  have ih':=ih (j+1) (F.ins 18 (.map (kC (u0 tk l[j])))) (u0 tk l[j]) (by omega) (Fr.dR hs) (Fr.bQ ..) (by rw [Fr.jj];exact h1);apply ax;conv=>arg 4;whnf
  by_cases hm:l[j]∈tk
  ·have hm':(l[j].1,l[j].2)∈tk:=hm;have e2:u0 tk l[j]=tk:=(by unfold u0;rw [if_pos hm]);rw [e2]at ih';have e3:=Ha hm';simp [hja,du,gm,mz,hm',ne,hw,bW,Yb,kV,e3];simpa [du,bW]using ih'
  ·have hm': ¬(l[j].1,l[j].2)∈tk:=hm;have e2:u0 tk l[j]=tk++[(l[j].1,l[j].2)]:=(by unfold u0;rw [if_neg hm]);rw [e2]at ih';simp [hja,du,gm,mz,hm',ne,hw,bW,Yb,kV,Hb];simpa [du,bW]using ih'
end
section
variable {c:Nat} {H:aj}
noncomputable def cJ (r:aA)(s:aw):List ak→List (Int×Int)→aw→Nat→aw×Int×Int
 | [],_,nx,_=>(nx,0,0)
 |a::g,tk,nx,i=>if bV r s a.aN.toNat a=false then (s,i,10)else if∀x∈gd s a.aN.toNat a,x∉tk then cJ r s g (fI tk (gd s a.aN.toNat a)) (cR nx a.aN.toNat a) (i+1)else (s,i,12)
theorem qX.after {r:aA}: ∀{p:List ak} {s:aw} {a:ak},fR r s→qX r s (p++[a])→fR r (kW s p)∧bV r (kW s p) a.aN.toNat a=true
 | [],s,a,hS,h=>⟨hS,(h.ab a (by simp)).2⟩
 |b::p,s,a,hS,h=>by
  obtain⟨h1,h2⟩:=h.tail hS;show fR r (kW (cR s b.aN.toNat b) p)∧bV r (kW (cR s b.aN.toNat b) p) a.aN.toNat a=true
  exact qX.after h1 h2
def wU (s:aw)(p:List ak)(tk:List (Int×Int)):Prop:= ∀x,x∈tk↔ ∃b∈p,x∈gd s b.aN.toNat b
theorem wU.snoc {s:aw}{p:List ak}{tk:List (Int×Int)}{a:ak}(h:wU s p tk):wU s (p++[a]) (fI tk (gd s a.aN.toNat a)):=fun x=>by
 rw [xw,h x];simp only [List.mem_append,List.mem_singleton];constructor
 ·rintro(⟨b,hb,hx⟩|hx)
  ·exact⟨b, .inl hb,hx⟩
  ·exact⟨a, .inr rfl,hx⟩
 ·rintro⟨b,hb|rfl,hx⟩
  ·exact .inl ⟨b,hb,hx⟩
  ·exact .inr hx
theorem qX.snoc {r:aA}{s:aw}{p:List ak}{tk:List (Int×Int)}{a:ak}(h:qX r s p)(ht:wU s p tk)(hA:AB r a.aN.toNat a)(pa:bV r s a.aN.toNat a=true)(hd: ∀x∈gd s a.aN.toNat a,x∉tk):qX r s (p++[a]) where
 ab:=fun b hb=>by
  rcases List.mem_append.1 hb with hb|hb
  ·exact h.ab b hb
  ·simp only [List.mem_singleton]at hb;subst hb;exact⟨hA,pa⟩
 ap:=by
  rw [List.pairwise_append];refine⟨h.ap,List.pairwise_singleton ..,fun b hb x hx=> ?_⟩;simp only [List.mem_singleton]at hx;subst hx;exact(u4.2 fun y h1 h2=>hd y h2 ((ht y).2 ⟨b,hb,h1⟩))
def Hc (k:Nat):Nat:=136+2*(k-1)
theorem Ra {r:aA}{s:aw}{w:Nat}{a:ak}{n1 n2 n3:Nm}{v1 v2 v3:Nat}(h:lX H n1 n2 n3 v1 v2 v3 s)(hb:EI s w a)(hst: ∀t:Nat,t<s.aa.length→0≤(s.aa.getD t aS).state∧(s.aa.getD t aS).state<16)(hH:0<H.length):J4 H (Hc a.kind.toNat) r n1 n2 n3 s w a c:=by
 obtain⟨d1,d2,d3,d4,d5,d6,d7,d8⟩:=Rb (r:=r) (c:=c) h hb hst hH;rcases mU hb.kind with k|k|k|k|k|k|k|k
 ·rw [show Hc a.kind.toNat=136 by rw [k];rfl];exact d1 k
 ·rw [show Hc a.kind.toNat=138 by rw [k];rfl];exact d2 k
 ·rw [show Hc a.kind.toNat=140 by rw [k];rfl];exact d3 k
 ·rw [show Hc a.kind.toNat=142 by rw [k];rfl];exact d4 k
 ·rw [show Hc a.kind.toNat=144 by rw [k];rfl];exact d5 k
 ·rw [show Hc a.kind.toNat=146 by rw [k];rfl];exact d6 k
 ·rw [show Hc a.kind.toNat=148 by rw [k];rfl];exact d7 k
 ·rw [show Hc a.kind.toNat=150 by rw [k];rfl];exact d8 k
def me:Nat:=117469202
def mR:Nat:=117485586
def wV:Nat:=117501970
def J5 (L:Nat)(r:aA)(s:aw):dH:= .box [.pure (.int .i64 r.wide), .pure (.int .i64 r.deep), .pure (.slice (r.ah.map aW.row)), .pure (.slice (r.aa.map bc.row)), .pure (.slice (r.seen.map aG)), .pure (.slice (r.br.map aG)), .pure (.slice (r.ai.map ak.row)), .a8 (L,me) 1 s.ah.length 0 s.ah.length, .a8 (L,mR) 2 s.ao.length 0 s.ao.length, .a8 (L,wV) 2 s.aa.length 0 s.aa.length]
structure MX (L:Nat)(F:Fr)(r:aA)(s:aw)(tk:List (Int×Int))(nx:aw):Prop extends MF F r s tk where
 ji:F.ji
 g7:F.get 7=some (J5 L r nx)
 sc:SF F me mR wV nx
theorem Hd {r:aA}{s:aw}(hS:fR r s)(hW:WB r)(ai:List ak)(hal:ai.length≤1000000)(hA: ∀a∈ai,AB r a.aN.toNat a)(Q:GX→bN→Prop):
  ∀(k i:Nat) (F:Fr) (tk:List (Int×Int)) (nx:aw),i+k=ai.length→MX H.length F r s tk nx→wU s (ai.take i) tk→qX r s (ai.take i)→nx=kW s (ai.take i)→
  ((cJ r s (ai.drop i) tk nx i).2.2=0→ ∀F',(∃tk',MX H.length F' r s tk' (cJ r s (ai.drop i) tk nx i).1)→qX r s ai→(cJ r s (ai.drop i) tk nx i).1=kW s ai→Q (.exit 0) ⟨[(4, .ay (H.length,4) 0),(5,aP),(6,aP),(7, .ay (H.length,7) 0)],F'::H,65⟩)→
  ((cJ r s (ai.drop i) tk nx i).2.2≠0→(cJ r s (ai.drop i) tk nx i).1=s→ ∀F',F'.get 4=some (bM r s)→Q .ret ⟨[(4, .ay (H.length,4) 0),(5, .pure (.int .i64 (cJ r s (ai.drop i) tk nx i).2.1)),(6, .pure (.int .i64 (cJ r s (ai.drop i) tk nx i).2.2)),(7, .ay (H.length,7) 0)],F'::H,65⟩)→
  gS KC au 118 (lp Tryz.f118 0) [2,4,7,8,19,20,21] [4,5,6,7] Q
   [(2, .ay (H.length,2) 0),(4, .ay (H.length,4) 0),(7, .ay (H.length,7) 0),(8, .map (H.length,18)),(19, .pure (.slice (ai.map ak.row))),(20, .pure (.int .i64 ai.length)),(21, .pure (.int .i64 i))] (F::H) 65:=by
 intro k
 induction k with
 |zero=>
  intro i F tk nx hi hF hT hG hnx h1 h2;apply ax;conv=>arg 4;whnf
  have hnl: ¬i<ai.length:=(by omega);have e:ai.drop i=[]:=List.drop_of_length_le (by omega);have et:ai.take i=ai:=List.take_of_length_le (by omega);rw [e]at h1;simp [hnl];exact h1 rfl F ⟨tk,hF⟩ (et▸hG) (by show nx=_;rw [hnx,et])
 |succ k ih=>
  intro i F tk nx hi hF hT hG hnx h1 h2;have hia:i<ai.length:=(by omega);have hw:=dh (x:=(i:Int)+1) (by omega) (by omega);have ed:ai.drop i=ai[i]::ai.drop (i+1):=List.drop_eq_getElem_cons hia;have et:ai.take (i+1)=ai.take i++[ai[i]]:=List.take_succ_eq_append_getElem hia;have ne: ¬H.length=H.length+1:=(by omega);obtain⟨a,ha⟩: ∃a,ai[i]=a:=⟨_,rfl⟩;have hAa:AB r a.aN.toNat a:=hA a (ha▸List.getElem_mem hia);obtain⟨w,hwq⟩: ∃w,a.aN.toNat=w:=⟨_,rfl⟩;rw [ha]at ed et;rw [ed]at h1 h2;unfold cJ at h1 h2;have g2:=hF.g2;have g4:=hF.g4;have g7:=hF.g7;have M:=fun c (H:aj) (hH:0<H.length)=>yN (c:=c) (H:=H) hS hW hAa hH;have T:=fun c (H:aj) (hH:0<H.length)=>tx (c:=c) (H:=H) hS hAa hH;have hAk:=hAa.kind;have kk:((a.kind.toNat:Nat):Int)=a.kind:=(by omega);have W:=fun c (H:aj) (hH:0<H.length)=>Cg (c:=c) (H:=H) (k:=a.kind.toNat) (by omega) hH;rw [kk]at W;apply ax;conv=>arg 4;whnf
  cases hp:bV r s a.aN.toNat a with
  |false=>
   rw [hp]at M;simp only [hp,if_true]at h2;have h2':=h2 (by decide) trivial (F.ins 4 (bM r s)) (Fr.bQ ..);rw [bF]at M;simp only [bM]at g2 h2';simp only [om]at g4;simp only [aQ]at M;simp [hia,ha,bF,ne,g2,g4,M,aD];exact h2'
  |true=>
   rw [hp]at M;obtain⟨l,hl⟩: ∃l,gd s a.aN.toNat a=l:=⟨_,rfl⟩;have hll:l.length≤1000:=by
    rw [←hl];unfold gd
    repeat' split
    all_goals simp
   rw [hl]at T h1 h2;simp only [hp,Bool.true_eq_false,if_false]at h1 h2;have L1:=fun Q=>xx (H:=H) hF.toMF a ai ai.length i l hll Q l.length 0 (by omega);simp only [List.drop_zero,bW]at L1;have hF1s:(F.ins 18 (.map (kC (fI tk l)))).ji:=Fr.dR hF.ji;rw [bF]at M T;simp only [bM]at g2;simp only [om]at g4;simp only [aQ]at M T;simp [hia,ha,bF,ne,g2,g4,M,T];refine L1 _ (fun hfr=> ?_) (fun hfr=> ?_)
   ·clear L1;rw [if_pos hfr]at h1 h2;have hGs:qX r s (ai.take (i+1)):=(by rw [et];exact hG.snoc hT hAa hp (by rw [hl];exact hfr));have hTs:wU s (ai.take (i+1)) (fI tk l):=(by rw [et,←hl];exact hT.snoc);have aft:=(qX.after hS (et▸hGs):fR r (kW s (ai.take i))∧_);rw [←hnx]at aft;have hD:=oc aft.1 hAa aft.2;have L2:=fun Q=>Ac (H:=H) (a:=a) ai ai.length i l hll Q l.length 0 F tk (by omega) hF.ji hF.gm;simp only [List.drop_zero,bW]at L2;simp [ne];refine L2 _ ?_;clear L2;have q12:me≠mR:=(by decide);have q13:me≠wV:=(by decide);have q23:mR≠wV:=(by decide);have e1: ∀k,k≠18→(F.ins 18 (.map (kC (fI tk l)))).get k=F.get k:=fun k hk=>Fr.az _ hk _;have sc1:SF (F.ins 18 (.map (kC (fI tk l)))) me mR wV nx:=hF.sc.other (e1 _ (by decide)) (e1 _ (by decide)) (e1 _ (by decide));have g71:=(e1 7 (by decide)).trans g7;have gm1:(F.ins 18 (.map (kC (fI tk l)))).get 18=some (.map (kC (fI tk l))):=Fr.bQ ..;have g21:=(e1 2 (by decide)).trans hF.g2;have g41:=(e1 4 (by decide)).trans hF.g4;generalize F.ins 18 (.map (kC (fI tk l)))=F1 at hF1s sc1 g71 gm1 g21 g41⊢;obtain⟨u1,u2,u3,SS⟩:=sc1.self (f0:=[(10,bW a)]) (H:=H) hF1s q12 q13 q23;obtain⟨v1,v2,v3,b1,b2,b3,ed'⟩:=Ra (r:=r) (c:=62) SS hD aft.1.st (by simp);have LD:=kA (s:=nx) (w:=a.aN.toNat) hAk;obtain⟨F2,hF2⟩: ∃F2,((F1.ins me (.arr 1 ((cR nx a.aN.toNat a).ah.map aG) v1 false)).ins mR (.arr 2 ((cR nx a.aN.toNat a).ao.map aH.row) v2 false)).ins wV (.arr 2 ((cR nx a.aN.toNat a).aa.map bB.row) v3 false)=F2:=⟨_,rfl⟩;have hsc:cv ([(10,bW a)]::F1::H) (H.length,me) (H.length,mR) (H.length,wV) v1 v2 v3 (cR nx a.aN.toNat a)=[(10,bW a)]::F2::H:=by
     rw [←hF2];simp [cv,ne]
    rw [hsc]at ed';have o2: ∀k,k≠me→k≠mR→k≠wV→F2.get k=F1.get k:=fun k h1 h2 h3=>(by rw [←hF2,Fr.az _ h3,Fr.az _ h2,Fr.az _ h1]);have enx:J5 H.length r (cR nx a.aN.toNat a)=J5 H.length r nx:=by simp only [J5,LD]
    have MX2:MX H.length F2 r s (fI tk l) (cR nx a.aN.toNat a):={
     g2:=(o2 2 (by decide) (by decide) (by decide)).trans g21
     g4:=(o2 4 (by decide) (by decide) (by decide)).trans g41
     gm:=(o2 18 (by decide) (by decide) (by decide)).trans gm1
     ji:=by rw [←hF2];exact Fr.dR (Fr.dR (Fr.dR hF1s))
     g7:=by rw [enx];exact(o2 7 (by decide) (by decide) (by decide)).trans g71
     sc:=⟨⟨v1,by omega,by rw [←hF2,Fr.az _ q13,Fr.az _ q12,Fr.bQ]⟩,⟨v2,by omega,by rw [←hF2,Fr.az _ q23,Fr.bQ]⟩,⟨v3,by omega,by rw [←hF2,Fr.bQ]⟩⟩}
    have ih':=ih (i+1) F2 (fI tk l) (cR nx a.aN.toNat a) (by omega) MX2 hTs hGs (by rw [hnx,et,iR];rfl) h1 h2;rw [bF]at ed';simp only [J5]at g71;simp only [tw,bW,Hc]at ed';simp [ne,g71,W,ed',hw,Hc];simpa using ih'
   ·clear L1;rw [if_neg hfr]at h2;have h2':=h2 (show (12:Int)≠0 by decide) rfl (F.ins 4 (bM r s)) (Fr.bQ ..)
    simp only [bM]at h2'⊢;simp;exact h2'
end
section
variable {c:Nat} {H:aj}
theorem D3 {r:aA}{s:aw}{g:List ak}(hS:fR r s)(hG:qX r s g):(kW s g).ah.length=s.ah.length∧(kW s g).ao.length=s.ao.length∧(kW s g).aa.length=s.aa.length:=by
 have a:=hG.snd hS;exact⟨a.pl.trans hS.pl.symm,a.hl.trans hS.hl.symm,a.tl.trans hS.tl.symm⟩
theorem yO {r:aA}{s:aw}: ∀{g:List ak} {tk:List (Int×Int)} {nx:aw} {i:Nat},(cJ r s g tk nx i).2.2=0→(cJ r s g tk nx i).2.1=0
 | [],_,_,_,_=>rfl
 |a::g,tk,nx,i,h=>by
  unfold cJ at h⊢;split at h
  ·simp at h
  ·rename_i h1;split at h
   ·rename_i h2;rw [if_neg h1,if_pos h2];exact yO h
   ·simp at h
theorem Ch {r:aA}{s:aw}(hS:fR r s)(hW:WB r)(hFu:Full s)(ht0:s.aa≠[])(ai:List ak)(hal:ai.length≤1000000)(hA: ∀a∈ai,AB r a.aN.toNat a)(hH:0<H.length):
  aL KC (aE KC) 118 [.pure (.agg (aQ r s)), .pure (.slice (ai.map ak.row))] c H=
   some (.pure (.tuple [.agg (aQ r (cJ r s ai [] s 0).1), .int .i64 (cJ r s ai [] s 0).2.1, .int .i64 (cJ r s ai [] s 0).2.2]),H):=by
 refine aO (bf KC au Tryz.func118 rfl rfl D4 rfl rfl rfl (by simp) hH ?_);have k1:aq 17 28679=me:=(by decide);have k2:aq 17 28683=mR:=(by decide);have k3:aq 17 28687=wV:=(by decide);have C:=xv (c:=17) (H:=[(2,bM r s),(4,om)]::H) r hFu ht0 (by simp) (by simp [k1,me]) (by simp [k2,mR]) (by simp [k3,wV]);simp only [List.length_cons,Nat.add_sub_cancel,k1,k2,k3]at C;obtain⟨F0,hF0⟩: ∃F0:Fr,[(2,bM r s),(4,om),(me, .arr 1 (s.ah.map aG) 0 false),(mR, .arr 2 (s.ao.map aH.row) 0 false),(wV, .arr 2 (s.aa.map bB.row) 0 false)]=F0:=⟨_,rfl⟩;have hC:cv ([(2,bM r s),(4,om)]::H) (H.length,me) (H.length,mR) (H.length,wV) 0 0 0 s=F0::H:=by
  rw [←hF0];simp [cv,me,mR,wV]
 rw [hC]at C;obtain⟨F1,hF1⟩: ∃F1,(F0.ins 7 (J5 H.length r s)).ins 18 (.map [])=F1:=⟨_,rfl⟩;have f07:F0.get 7=none:=(by rw [←hF0];simp [me,mR,wV]);have f018:F0.get 18=none:=(by rw [←hF0];simp [me,mR,wV]);have o1: ∀k,k≠7→k≠18→F1.get k=F0.get k:=fun k h1 h2=>by rw [←hF1,Fr.az _ h2,Fr.az _ h1]
 have MX1:MX H.length F1 r s [] s:={
  g2:=(o1 2 (by decide) (by decide)).trans (by rw [←hF0];simp)
  g4:=(o1 4 (by decide) (by decide)).trans (by rw [←hF0];simp)
  gm:=by rw [←hF1,Fr.bQ];rfl
  ji:=by
   rw [←hF1];refine Fr.dR (Fr.dR ?_);rw [←hF0];simp [Fr.ji,me,mR,wV]
  g7:=by rw [←hF1,Fr.az _ (by decide),Fr.bQ]
  sc:=⟨⟨0,Nat.zero_le _,(o1 _ (by decide) (by decide)).trans (by rw [←hF0];simp [me,mR,wV])⟩,⟨0,Nat.zero_le _,(o1 _ (by decide) (by decide)).trans (by rw [←hF0];simp [me,mR,wV])⟩,⟨0,Nat.zero_le _,(o1 _ (by decide) (by decide)).trans (by rw [←hF0];simp [me,mR,wV])⟩⟩}
 have L1:=fun Q=>Hd (H:=H) hS hW ai hal hA Q ai.length 0 F1 [] s (by omega) MX1 (fun x=>by simp) ⟨fun a ha=>by simp at ha,by simp⟩ rfl;simp only [List.drop_zero]at L1;simp only [aQ,tw,bM,om]at C;have f018':(F0.ins 7 (J5 H.length r s)).get 18=none:=(Fr.az _ (by decide) _).trans f018;simp only [J5]at hF1 f018';unfold aQ;simp [C,f07,f018',Fr.bQ,Fr.jj,hF1];refine L1 _ (fun he F' hF' hG hm=> ?_) (fun he hm F' h4=> ?_)
 ·obtain⟨tk',hF'⟩:=hF';have g7:=hF'.g7;have g4:=hF'.g4;have LL:=D3 hS hG;rw [hm]at hF' g7;obtain⟨v1,a1,b1⟩:=hF'.sc.h1;obtain⟨v2,a2,b2⟩:=hF'.sc.h2;obtain⟨v3,a3,b3⟩:=hF'.sc.h3;have o4: ∀(x:dH) (k:Nat),k≠4→(F'.ins 4 x).get k=F'.get k:=fun x k hk=>Fr.az _ hk _;have c1:=fun x=>(o4 x me (by decide)).trans b1;have c2:=fun x=>(o4 x mR (by decide)).trans b2;have c3:=fun x=>(o4 x wV (by decide)).trans b3;have hat:=yO he;rw [hm];simp only [J5]at g7;simp only [om]at g4;simp [g7,g4,aD,Fr.bQ]
  have fin: ∀x,gG KC 118 c (.tuple [.agg [.pure (.int .i64 r.wide), .pure (.int .i64 r.deep), .pure (.slice (r.ah.map aW.row)), .pure (.slice (r.aa.map bc.row)), .pure (.slice (r.seen.map aG)), .pure (.slice (r.br.map aG)), .pure (.slice (r.ai.map ak.row)), .a8 (H.length,me) 1 (kW s ai).ah.length 0 (kW s ai).ah.length, .a8 (H.length,mR) 2 (kW s ai).ao.length 0 (kW s ai).ao.length, .a8 (H.length,wV) 2 (kW s ai).aa.length 0 (kW s ai).aa.length], .pure (.int .i64 0), .pure (.int .i64 0)]) (F'.ins 4 x::H)=
    some (.pure (.tuple [.agg (aQ r (kW s ai)), .int .i64 0, .int .i64 0]),H):=fun x=>by
   have d1:=c1 x;have d2:=c2 x;have d3:=c3 x;generalize F'.ins 4 x=F5 at d1 d2 d3;have hnl: ¬H.length≤H.length-1:=(by omega);rw [ae (by simp)];simp [hnl,d1,d2,d3,a1,a2,a3,aQ];exact⟨List.take_of_length_le (by simp),List.take_of_length_le (by simp),List.take_of_length_le (by simp)⟩
  rw [fin,jf,hat,he];simp only [aQ]
 ·rw [hm];simp only [bM]at h4;simp [h4,ae]
end
section
variable {c:Nat} {H:aj}
theorem Rc {s:aw}{w:Nat}{a:ak}(hb:EI s w a)(h:s.aa=[]):a.kind=1:=by
 have hk:=hb.kind;have e:s.aa.length=0:=(by rw [h];rfl);by_cases k1:a.kind=1
 ·exact k1
 ·by_cases k2:a.kind=2
  ·obtain⟨t,_,ht⟩:=hb.take k2;omega
  ·obtain⟨t,_,ht⟩:=hb.held (by omega);omega
theorem J6 {r:aA}{s:aw}{w:Nat}{a:ak}{n1 n2:Nm}{v1:Nat}(g1:H.get n1=some (.arr 1 (s.ah.map aG) v1 false))(e1:v1≤s.ah.length)(g2:n2.1<H.length)(hp:w<s.ah.length)(hwho:a.aN=w)(k:a.kind=1)(hH:0<H.length):
  aL KC (aE KC) 136 [Q7 r n1 n2 s, .pure (.agg a.row)] c H=some (.pure (.tuple []),H.set n1 (.arr 1 ((cR s w a).ah.map aG) s.ah.length false)):=by
 have l1:=aj.bL g1;have d1: ¬n1.1=H.length:=(by omega);have d2: ¬n2.1=H.length:=(by omega);have hd:=lI (s:=s) (w:=w) k;refine aO (ba KC au Tryz.func136 rfl rfl D5 rfl rfl rfl (by simp) hH ?_);rw [bF];unfold Q7;simp [d1,d2,g1,e1,hp,hwho,aG,aD,ae,hd]
def J7 (L:Nat)(r:aA)(s:aw):dH:= .box [.pure (.int .i64 r.wide), .pure (.int .i64 r.deep), .pure (.slice (r.ah.map aW.row)), .pure (.slice (r.aa.map bc.row)), .pure (.slice (r.seen.map aG)), .pure (.slice (r.br.map aG)), .pure (.slice (r.ai.map ak.row)), .a8 (L,me) 1 s.ah.length 0 s.ah.length, .a8 (L,mR) 2 s.ao.length 0 s.ao.length, .aV]
structure ME (L:Nat)(F:Fr)(r:aA)(s:aw)(tk:List (Int×Int))(nx:aw):Prop extends MF F r s tk where
 ji:F.ji
 g7:F.get 7=some (J7 L r nx)
 h1: ∃v,v≤nx.ah.length∧F.get me=some (.arr 1 (nx.ah.map aG) v false)
 h2:F.get mR=some (.arr 2 (nx.ao.map aH.row) 0 false)
theorem EW {r:aA}{s:aw}(ht0:r.aa=[])(hS:fR r s)(hW:WB r)(ai:List ak)(hal:ai.length≤1000000)(hA: ∀a∈ai,AB r a.aN.toNat a)(Q:GX→bN→Prop):
  ∀(k i:Nat) (F:Fr) (tk:List (Int×Int)) (nx:aw),i+k=ai.length→ME H.length F r s tk nx→wU s (ai.take i) tk→qX r s (ai.take i)→nx=kW s (ai.take i)→
  ((cJ r s (ai.drop i) tk nx i).2.2=0→ ∀F',(∃tk',ME H.length F' r s tk' (cJ r s (ai.drop i) tk nx i).1)→qX r s ai→(cJ r s (ai.drop i) tk nx i).1=kW s ai→Q (.exit 0) ⟨[(4, .ay (H.length,4) 0),(5,aP),(6,aP),(7, .ay (H.length,7) 0)],F'::H,65⟩)→
  ((cJ r s (ai.drop i) tk nx i).2.2≠0→(cJ r s (ai.drop i) tk nx i).1=s→ ∀F',F'.get 4=some (bM r s)→Q .ret ⟨[(4, .ay (H.length,4) 0),(5, .pure (.int .i64 (cJ r s (ai.drop i) tk nx i).2.1)),(6, .pure (.int .i64 (cJ r s (ai.drop i) tk nx i).2.2)),(7, .ay (H.length,7) 0)],F'::H,65⟩)→
  gS KC au 118 (lp Tryz.f118 0) [2,4,7,8,19,20,21] [4,5,6,7] Q
   [(2, .ay (H.length,2) 0),(4, .ay (H.length,4) 0),(7, .ay (H.length,7) 0),(8, .map (H.length,18)),(19, .pure (.slice (ai.map ak.row))),(20, .pure (.int .i64 ai.length)),(21, .pure (.int .i64 i))] (F::H) 65:=by
 intro k
 induction k with
 |zero=>
  intro i F tk nx hi hF hT hG hnx h1 h2;apply ax;conv=>arg 4;whnf
  have hnl: ¬i<ai.length:=(by omega);have e:ai.drop i=[]:=List.drop_of_length_le (by omega);have et:ai.take i=ai:=List.take_of_length_le (by omega);rw [e]at h1;simp [hnl];exact h1 rfl F ⟨tk,hF⟩ (et▸hG) (by show nx=_;rw [hnx,et])
 |succ k ih=>
  intro i F tk nx hi hF hT hG hnx h1 h2;have hia:i<ai.length:=(by omega);have hw:=dh (x:=(i:Int)+1) (by omega) (by omega);have ed:ai.drop i=ai[i]::ai.drop (i+1):=List.drop_eq_getElem_cons hia;have et:ai.take (i+1)=ai.take i++[ai[i]]:=List.take_succ_eq_append_getElem hia;have ne: ¬H.length=H.length+1:=(by omega);obtain⟨a,ha⟩: ∃a,ai[i]=a:=⟨_,rfl⟩;have hAa:AB r a.aN.toNat a:=hA a (ha▸List.getElem_mem hia);obtain⟨w,hwq⟩: ∃w,a.aN.toNat=w:=⟨_,rfl⟩;rw [ha]at ed et;rw [ed]at h1 h2;unfold cJ at h1 h2;have g2:=hF.g2;have g4:=hF.g4;have g7:=hF.g7;have M:=fun c (H:aj) (hH:0<H.length)=>yN (c:=c) (H:=H) hS hW hAa hH;have T:=fun c (H:aj) (hH:0<H.length)=>tx (c:=c) (H:=H) hS hAa hH;have hAk:=hAa.kind;have kk:((a.kind.toNat:Nat):Int)=a.kind:=(by omega);have W:=fun c (H:aj) (hH:0<H.length)=>Cg (c:=c) (H:=H) (k:=a.kind.toNat) (by omega) hH;rw [kk]at W;apply ax;conv=>arg 4;whnf
  cases hp:bV r s a.aN.toNat a with
  |false=>
   rw [hp]at M;simp only [hp,if_true]at h2;have h2':=h2 (by decide) trivial (F.ins 4 (bM r s)) (Fr.bQ ..);rw [bF]at M;simp only [bM]at g2 h2';simp only [om]at g4;simp only [aQ]at M;simp [hia,ha,bF,ne,g2,g4,M,aD];exact h2'
  |true=>
   rw [hp]at M;obtain⟨l,hl⟩: ∃l,gd s a.aN.toNat a=l:=⟨_,rfl⟩;have hll:l.length≤1000:=by
    rw [←hl];unfold gd
    repeat' split
    all_goals simp
   rw [hl]at T h1 h2;simp only [hp,Bool.true_eq_false,if_false]at h1 h2;have L1:=fun Q=>xx (H:=H) hF.toMF a ai ai.length i l hll Q l.length 0 (by omega);simp only [List.drop_zero,bW]at L1;have hF1s:(F.ins 18 (.map (kC (fI tk l)))).ji:=Fr.dR hF.ji;rw [bF]at M T;simp only [bM]at g2;simp only [om]at g4;simp only [aQ]at M T;simp [hia,ha,bF,ne,g2,g4,M,T];refine L1 _ (fun hfr=> ?_) (fun hfr=> ?_)
   ·clear L1;rw [if_pos hfr]at h1 h2;have hGs:qX r s (ai.take (i+1)):=(by rw [et];exact hG.snoc hT hAa hp (by rw [hl];exact hfr));have hTs:wU s (ai.take (i+1)) (fI tk l):=(by rw [et,←hl];exact hT.snoc);have aft:=(qX.after hS (et▸hGs):fR r (kW s (ai.take i))∧_);rw [←hnx]at aft;have hD:=oc aft.1 hAa aft.2;have L2:=fun Q=>Ac (H:=H) (a:=a) ai ai.length i l hll Q l.length 0 F tk (by omega) hF.ji hF.gm;simp only [List.drop_zero,bW]at L2;simp [ne];refine L2 _ ?_;clear L2;have q12:me≠mR:=(by decide);have q21:mR≠me:=(by decide);have e1: ∀k,k≠18→(F.ins 18 (.map (kC (fI tk l)))).get k=F.get k:=fun k hk=>Fr.az _ hk _;obtain⟨u1,w1,hh1⟩:=hF.h1;have hh1':=(e1 me (by decide)).trans hh1;have hh2':=(e1 mR (by decide)).trans hF.h2;have g71:=(e1 7 (by decide)).trans g7;have gm1:(F.ins 18 (.map (kC (fI tk l)))).get 18=some (.map (kC (fI tk l))):=Fr.bQ ..;have g21:=(e1 2 (by decide)).trans hF.g2;have g41:=(e1 4 (by decide)).trans hF.g4;generalize F.ins 18 (.map (kC (fI tk l)))=F1 at hF1s hh1' hh2' g71 gm1 g21 g41⊢;have hnt:nx.aa=[]:=List.eq_nil_of_length_eq_zero (by rw [aft.1.tl,ht0];rfl);have hk1:=Rc hD hnt;have ed':=J6 (H:=[(10,bW a)]::F1::H) (c:=62) (r:=r) (s:=nx) (w:=a.aN.toNat) (a:=a) (n1:=(H.length,me)) (n2:=(H.length,mR)) (v1:=u1) (by simp [ne,hh1']) w1 (by simp;omega) hD.hp hD.aN hk1 (by simp);have LD:=kA (s:=nx) (w:=a.aN.toNat) hAk;have LH:(cR nx a.aN.toNat a).ao=nx.ao:=(by rw [lI hk1]);obtain⟨F2,hF2⟩: ∃F2,F1.ins me (.arr 1 ((cR nx a.aN.toNat a).ah.map aG) nx.ah.length false)=F2:=⟨_,rfl⟩;have hsc:aj.set ([(10,bW a)]::F1::H) (H.length,me) (.arr 1 ((cR nx a.aN.toNat a).ah.map aG) nx.ah.length false)=[(10,bW a)]::F2::H:=by
     rw [←hF2];simp [ne]
    rw [hsc]at ed';have o2: ∀k,k≠me→F2.get k=F1.get k:=fun k h1=>(by rw [←hF2,Fr.az _ h1]);have enx:J7 H.length r (cR nx a.aN.toNat a)=J7 H.length r nx:=by simp only [J7,LD]
    have MX2:ME H.length F2 r s (fI tk l) (cR nx a.aN.toNat a):={
     g2:=(o2 2 (by decide)).trans g21
     g4:=(o2 4 (by decide)).trans g41
     gm:=(o2 18 (by decide)).trans gm1
     ji:=by rw [←hF2];exact Fr.dR hF1s
     g7:=by rw [enx];exact(o2 7 (by decide)).trans g71
     h1:=⟨nx.ah.length,by omega,by rw [←hF2,Fr.bQ]⟩
     h2:=by rw [LH];exact(o2 mR q21).trans hh2'}
    have ih':=ih (i+1) F2 (fI tk l) (cR nx a.aN.toNat a) (by omega) MX2 hTs hGs (by rw [hnx,et,iR];rfl) h1 h2;rw [bF]at ed';simp only [J7]at g71;simp only [Q7,bW]at ed';rw [hk1]at ed';rw [hk1]at W;simp at W;simp [hk1,ne,g71,W,ed',hw];simpa using ih'
   ·clear L1;rw [if_neg hfr]at h2;have h2':=h2 (show (12:Int)≠0 by decide) rfl (F.ins 4 (bM r s)) (Fr.bQ ..)
    simp only [bM]at h2'⊢;simp;exact h2'
theorem Ci {r:aA}{s:aw}(hS:fR r s)(hW:WB r)(hFu:Full s)(ht0:r.aa=[])(ai:List ak)(hal:ai.length≤1000000)(hA: ∀a∈ai,AB r a.aN.toNat a)(hH:0<H.length):
  aL KC (aE KC) 118 [.pure (.agg (aQ r s)), .pure (.slice (ai.map ak.row))] c H=
   some (.pure (.tuple [.agg (aQ r (cJ r s ai [] s 0).1), .int .i64 (cJ r s ai [] s 0).2.1, .int .i64 (cJ r s ai [] s 0).2.2]),H):=by
 refine aO (bf KC au Tryz.func118 rfl rfl D4 rfl rfl rfl (by simp) hH ?_);have k1:aq 17 28679=me:=(by decide);have k2:aq 17 28683=mR:=(by decide);have hst:s.aa=[]:=List.eq_nil_of_length_eq_zero (by rw [hS.tl,ht0];rfl);have C:=uY (c:=17) (H:=[(2,bM r s),(4,om)]::H) r hFu hst (by simp) (by simp [k1,me]) (by simp [k2,mR]);simp only [List.length_cons,Nat.add_sub_cancel,k1,k2]at C;obtain⟨F0,hF0⟩: ∃F0:Fr,[(2,bM r s),(4,om),(me, .arr 1 (s.ah.map aG) 0 false),(mR, .arr 2 (s.ao.map aH.row) 0 false)]=F0:=⟨_,rfl⟩;have hC:aj.set (aj.set ([(2,bM r s),(4,om)]::H) (H.length,me) (.arr 1 (s.ah.map aG) 0 false)) (H.length,mR) (.arr 2 (s.ao.map aH.row) 0 false)=F0::H:=by
  rw [←hF0];simp [me,mR]
 rw [hC]at C;obtain⟨F1,hF1⟩: ∃F1,(F0.ins 7 (J7 H.length r s)).ins 18 (.map [])=F1:=⟨_,rfl⟩;have f07:F0.get 7=none:=(by rw [←hF0];simp [me,mR]);have f018:F0.get 18=none:=(by rw [←hF0];simp [me,mR]);have o1: ∀k,k≠7→k≠18→F1.get k=F0.get k:=fun k h1 h2=>by rw [←hF1,Fr.az _ h2,Fr.az _ h1]
 have MX1:ME H.length F1 r s [] s:={
  g2:=(o1 2 (by decide) (by decide)).trans (by rw [←hF0];simp)
  g4:=(o1 4 (by decide) (by decide)).trans (by rw [←hF0];simp)
  gm:=by rw [←hF1,Fr.bQ];rfl
  ji:=by
   rw [←hF1];refine Fr.dR (Fr.dR ?_);rw [←hF0];simp [Fr.ji,me,mR]
  g7:=by rw [←hF1,Fr.az _ (by decide),Fr.bQ]
  h1:=⟨0,Nat.zero_le _,(o1 _ (by decide) (by decide)).trans (by rw [←hF0];simp [me,mR])⟩
  h2:=(o1 _ (by decide) (by decide)).trans (by rw [←hF0];simp [me,mR])}
 have L1:=fun Q=>EW (H:=H) ht0 hS hW ai hal hA Q ai.length 0 F1 [] s (by omega) MX1 (fun x=>by simp) ⟨fun a ha=>by simp at ha,by simp⟩ rfl;simp only [List.drop_zero]at L1;simp only [aQ,Q7,bM,om]at C;have f018':(F0.ins 7 (J7 H.length r s)).get 18=none:=(Fr.az _ (by decide) _).trans f018;simp only [J7]at hF1 f018';unfold aQ;simp [C,f07,f018',Fr.bQ,Fr.jj,hF1];refine L1 _ (fun he F' hF' hG hm=> ?_) (fun he hm F' h4=> ?_)
 ·obtain⟨tk',hF'⟩:=hF';have g7:=hF'.g7;have g4:=hF'.g4;have LL:=D3 hS hG;rw [hm]at hF' g7;obtain⟨v1,a1,b1⟩:=hF'.h1;have b2:=hF'.h2;have hft:(kW s ai).aa=[]:=List.eq_nil_of_length_eq_zero (by rw [LL.2.2,hst];rfl);have o4: ∀(x:dH) (k:Nat),k≠4→(F'.ins 4 x).get k=F'.get k:=fun x k hk=>Fr.az _ hk _;have c1:=fun x=>(o4 x me (by decide)).trans b1;have c2:=fun x=>(o4 x mR (by decide)).trans b2;have hat:=yO he;rw [hm];simp only [J7]at g7;simp only [om]at g4;simp [g7,g4,aD,Fr.bQ]
  have fin: ∀x,gG KC 118 c (.tuple [.agg [.pure (.int .i64 r.wide), .pure (.int .i64 r.deep), .pure (.slice (r.ah.map aW.row)), .pure (.slice (r.aa.map bc.row)), .pure (.slice (r.seen.map aG)), .pure (.slice (r.br.map aG)), .pure (.slice (r.ai.map ak.row)), .a8 (H.length,me) 1 (kW s ai).ah.length 0 (kW s ai).ah.length, .a8 (H.length,mR) 2 (kW s ai).ao.length 0 (kW s ai).ao.length, .aV], .pure (.int .i64 0), .pure (.int .i64 0)]) (F'.ins 4 x::H)=
    some (.pure (.tuple [.agg (aQ r (kW s ai)), .int .i64 0, .int .i64 0]),H):=fun x=>by
   have d1:=c1 x;have d2:=c2 x;generalize F'.ins 4 x=F5 at d1 d2;have hnl: ¬H.length≤H.length-1:=(by omega);rw [ae (by simp)];simp [hnl,d1,d2,a1,aQ,hft];exact⟨List.take_of_length_le (by simp),List.take_of_length_le (by simp)⟩
  rw [fin,jf,hat,he];simp only [aQ]
 ·rw [hm];simp only [bM]at h4;simp [h4,ae]
theorem xy {r:aA}{s:aw}(hS:fR r s)(hW:WB r)(hFu:Full s)(ai:List ak)(hal:ai.length≤1000000)(hA: ∀a∈ai,AB r a.aN.toNat a)(hH:0<H.length):
  aL KC (aE KC) 118 [.pure (.agg (aQ r s)), .pure (.slice (ai.map ak.row))] c H=
   some (.pure (.tuple [.agg (aQ r (cJ r s ai [] s 0).1), .int .i64 (cJ r s ai [] s 0).2.1, .int .i64 (cJ r s ai [] s 0).2.2]),H):=by
 by_cases h:s.aa=[]
 ·exact Ci hS hW hFu (List.eq_nil_of_length_eq_zero (by rw [←hS.tl,h];rfl)) ai hal hA hH
 ·exact Ch hS hW hFu h ai hal hA hH
end
section
variable {c:Nat} {H:aj}
def aY (a:ak):ak→Bool:=fun b=>b.a7==a.a7
noncomputable def bw (r:aA):Nat→aw→List ak→Nat→List aw×aw×Int×Int
 |0,s,_,_=>([],s,-1,0)
 |_+1,s,[],_=>([],s,-1,0)
 |k+1,s,a::rest,i=>
  let g:=(a::rest).takeWhile (aY a)
  let m:=cJ r s g [] s 0
  if m.2.2≠0 then ([],s,i+m.2.1,m.2.2)
  else let q:=bw r k m.1 ((a::rest).drop g.length) (i+g.length);(m.1::q.1,q.2)
def wW (r:aA)(s:aw):Fr:=[(3,bM r s),(6,om)]
theorem J8 {r:aA}{s:aw}(g:GV)(ai:List ak)(hal:ai.length≤1000000)(i:Nat)(hi:i<ai.length)(V:aj)(hcl: ∀f2,clean (f2::[]::wW r s::V) (V.length+1) g=g)(Q:GX→bN→Prop): ∀k j:Nat,j+k=ai.length→
  Q (.exit 2) ⟨[(1, .pure (.slice (ai.map ak.row))),(2,g),(3, .ay (V.length,3) 0),(6, .ay (V.length,6) 0),(9, .pure (.int .i64 i)),(10, .pure (.int .i64 ((j+((ai.drop j).takeWhile (aY ai[i])).length:Nat):Int)))],[]::wW r s::V,64⟩→
  gS KC au 93 (lp Tryz.f93 1) [1,2,3,6,9,10] [1,2,3,6,9,10] Q
   [(1, .pure (.slice (ai.map ak.row))),(2,g),(3, .ay (V.length,3) 0),(6, .ay (V.length,6) 0),(9, .pure (.int .i64 i)),(10, .pure (.int .i64 j))] ([]::wW r s::V) 64:=by
 intro k
 induction k with
 |zero=>
  intro j hj h1;have e:ai.drop j=[]:=List.drop_of_length_le (by omega);rw [e]at h1;have hnl: ¬j<ai.length:=(by omega);apply ax;conv=>arg 4;whnf
  simp [wW]at hcl;simp [hnl,wW,hcl];simpa [wW]using h1
 |succ k ih=>
  intro j hj h1;have hja:j<ai.length:=(by omega);have hw:=dh (x:=(j:Int)+1) (by omega) (by omega);have ed:ai.drop j=ai[j]::ai.drop (j+1):=List.drop_eq_getElem_cons hja;rw [ed,List.takeWhile_cons]at h1;simp [wW]at hcl;apply ax;conv=>arg 4;whnf
  cases he:(ai[j].a7==ai[i].a7)with
  |true=>
   rw [show aY ai[i] ai[j]=true from he]at h1
   simp only [if_true,List.length_cons]at h1;have ih':=ih (j+1) (by omega) (by rw [show j+1+((ai.drop (j+1)).takeWhile (aY ai[i])).length=j+(((ai.drop (j+1)).takeWhile (aY ai[i])).length+1)by omega];exact h1)
   simp [hja,hi,bF,he,hw,wW,hcl];simpa [wW]using ih'
  |false=>
   rw [show aY ai[i] ai[j]=false from he]at h1
   simp [hja,hi,bF,he,wW,hcl];simpa [wW]using h1
theorem sD {r:aA}{s:aw}: ∀{g p:List ak} {tk:List (Int×Int)} {nx:aw} {i:Nat},wU s p tk→qX r s p→nx=kW s p→(∀a∈g,AB r a.aN.toNat a)→(cJ r s g tk nx i).2.2=0→qX r s (p++g)∧(cJ r s g tk nx i).1=kW s (p++g)
 | [],p,tk,nx,i,_,hG,hn,_,_=>by rw [List.append_nil];exact⟨hG,hn⟩
 |a::g,p,tk,nx,i,hT,hG,hn,hA,h=>by
  unfold cJ at h⊢;split at h
  ·simp at h
  ·rename_i h1;split at h
   ·rename_i h2;have h1':bV r s a.aN.toNat a=true:=(by simpa using h1);have:=sD (hT.snoc (a:=a)) (hG.snoc hT (hA a (List.mem_cons_self ..)) h1' h2) (by rw [hn,iR];rfl) (fun b hb=>hA b (List.mem_cons_of_mem _ hb)) h;rw [if_neg h1,if_pos h2]
    rwa [List.append_assoc,List.singleton_append]at this
   ·simp at h
theorem Ad {r:aA}{s:aw}: ∀{g:List ak} {tk:List (Int×Int)} {nx:aw} {i:Nat},(cJ r s g tk nx i).2.2≠0→(cJ r s g tk nx i).1=s
 | [],_,_,_,h=>absurd rfl h
 |a::g,tk,nx,i,h=>by
  unfold cJ at h⊢;split
  ·rfl
  ·rename_i h1;rw [if_neg h1]at h;split
   ·rename_i h2;rw [if_pos h2]at h;exact Ad h
   ·rfl
theorem Ae {r:aA}{s:aw}: ∀{g:List ak} {tk:List (Int×Int)} {nx:aw} {i:Nat},0≤(cJ r s g tk nx i).2.1∧(cJ r s g tk nx i).2.1≤i+g.length
 | [],_,_,i=>by simp [cJ]
 |a::g,tk,nx,i=>by
  unfold cJ;split
  ·simp only [List.length_cons];omega
  ·split
   ·have:=Ae (r:=r) (s:=s) (g:=g) (tk:=fI tk (gd s a.aN.toNat a)) (nx:=cR nx a.aN.toNat a) (i:=i+1);simp only [List.length_cons];omega
   ·simp only [List.length_cons];omega
theorem ry {r:aA}{s s':aw}(h:fR r s)(h':fR r s')(hF:Full s):Full s':=by
 have e1:=h'.pl.trans h.pl.symm;have e2:=h'.hl.trans h.hl.symm;have e3:=h'.tl.trans h.tl.symm;have a1:=List.length_pos_iff.2 hF.p0;have a2:=List.length_pos_iff.2 hF.h0;have:=hF.pl;have:=hF.hl;have:=hF.tl;exact⟨List.length_pos_iff.1 (by omega),List.length_pos_iff.1 (by omega),by omega,by omega,by omega⟩
theorem He {r:aA} (hW:WB r) (g:GV) (ai:List ak) (hal:ai.length≤1000000) (hA: ∀a∈ai,AB r a.aN.toNat a) (V:List aw→aj) (LV:Nat) (hV: ∀l,(V l).length=LV) (hV0:0<LV)
  (hcl0: ∀f1 f0 l,clean (f1::f0::V l) LV g=g) (hcl1: ∀f2 f1 f0 l,clean (f2::f1::f0::V l) (LV+1) g=g)
  (hsee: ∀l s' c f1 f0,l.length≤1000001→fR r s'→Full s'→dJ KC (aE KC) g [.pure (.agg (aQ r s'))] c (f1::f0::V l)=some (.pure (.tuple []),f1::f0::V (l++[s'])))
  (Q:GX→bN→Prop): ∀(k i:Nat) (s:aw) (l:List aw),ai.length-i≤k→i≤ai.length→l.length≤i+1→fR r s→Full s→
  ((bw r k s (ai.drop i) i).2.2.2=0→Q (.exit 0) ⟨[(3, .ay (LV,3) 0),(6, .ay (LV,6) 0),(7,aP),(8,aP)],wW r (bw r k s (ai.drop i) i).2.1::V (l++(bw r k s (ai.drop i) i).1),64⟩)→
  ((bw r k s (ai.drop i) i).2.2.2≠0→ ∀s',Q .ret ⟨[(3, .ay (LV,3) 0),(6, .ay (LV,6) 0),(7, .pure (.int .i64 (bw r k s (ai.drop i) i).2.2.1)),(8, .pure (.int .i64 (bw r k s (ai.drop i) i).2.2.2))],[(3,bM r s'),(6,bM r (bw r k s (ai.drop i) i).2.1)]::V (l++(bw r k s (ai.drop i) i).1),64⟩)→
  gS KC au 93 (lp Tryz.f93 0) [1,2,3,6,9] [3,6,7,8] Q
   [(1, .pure (.slice (ai.map ak.row))),(2,g),(3, .ay (LV,3) 0),(6, .ay (LV,6) 0),(9, .pure (.int .i64 i))] (wW r s::V l) 64:=by
 intro k
 induction k with
 |zero=>
  intro i s l hk hi hll hS hF h1 h2;have hnl: ¬i<ai.length:=(by omega);have e:i=ai.length:=(by omega);apply ax;conv=>arg 4;whnf
  simp [bw]at h1;simp [hnl,hV,wW];simpa [wW]using h1
 |succ k ih=>
  intro i s l hk hi hll hS hF h1 h2;by_cases hia:i<ai.length
  ·have ed:ai.drop i=ai[i]::ai.drop (i+1):=List.drop_eq_getElem_cons hia;obtain⟨a,ha⟩: ∃a,ai[i]=a:=⟨_,rfl⟩;rw [ha]at ed;obtain⟨gr,hgr⟩: ∃gr,(a::ai.drop (i+1)).takeWhile (aY a)=gr:=⟨_,rfl⟩;have hg1:1≤gr.length:=by
    rw [←hgr,List.takeWhile_cons,show aY a a=true from by simp [aY]]
    simp
   have hgp:gr<+:ai.drop i:=(by rw [ed,←hgr];exact List.takeWhile_prefix _);have hgl:i+gr.length≤ai.length:=(by have:=hgp.length_le;simp at this;omega);have hgt:gr=(ai.drop i).take gr.length:=List.prefix_iff_eq_take.1 hgp;have hsl:List.drop i (List.take (i+gr.length) (ai.map ak.row))=gr.map ak.row:=by
    rw [←List.map_take,←List.map_drop];congr 1;rw [List.drop_take,Nat.add_sub_cancel_left];exact hgt.symm
   have hgA: ∀b∈gr,AB r b.aN.toNat b:=fun b hb=>hA b (List.mem_of_mem_drop (hgp.subset hb));have hgal:gr.length≤1000000:=(by omega);have M:=fun c (H:aj) (hH:0<H.length)=>xy (c:=c) (H:=H) hS hW hF gr hgal hgA hH;obtain⟨m,hm⟩: ∃m,cJ r s gr [] s 0=m:=⟨_,rfl⟩;have hbad:=Ad (r:=r) (s:=s) (g:=gr) (tk:=[]) (nx:=s) (i:=0);have hgood:=sD (r:=r) (s:=s) (g:=gr) (p:=[]) (tk:=[]) (nx:=s) (i:=0) (fun x=>by simp) ⟨fun a ha=>by simp at ha,by simp⟩ rfl hgA;have hrng:=Ae (r:=r) (s:=s) (g:=gr) (tk:=[]) (nx:=s) (i:=0);rw [hm]at M hbad hgood hrng;rw [ed]at h1 h2;unfold bw at h1 h2;simp only [hgr,hm]at h1 h2;have L1:=fun Q=>J8 (r:=r) (s:=s) g ai hal i hia (V l) (fun f2=>by rw [hV];exact hcl1 _ _ _ _) Q (ai.length-i) i (by omega);rw [ed,ha,hgr]at L1;simp only [hV,wW]at L1;have hc0:=hcl0;obtain⟨e,hee⟩: ∃e,i+gr.length=e:=⟨_,rfl⟩;rw [hee]at L1 hsl hgl;have hle: ¬(e:Int)<(i:Int):=(by omega);have hle2:i≤e:=(by omega);have hmin:min e ai.length=e:=(by omega);have hrl: ∀x:ak,x.row.length=9:=fun _=>rfl;obtain⟨x1,x2,x3⟩:=m;simp only at hbad hgood hrng h1 h2 M;have hw:=dh (x:=(i:Int)+x2) (by omega) (by omega);apply ax;conv=>arg 4;whnf
   simp [hia,hV,wW];refine L1 _ ?_;clear L1;simp only [bM,om];simp only [aQ]at M;by_cases he:x3=0
   ·subst he;obtain⟨hG,hx1⟩:=hgood rfl;have hS1:fR r x1:=(by rw [hx1];exact hG.snd hS);have hF1:=ry hS hS1 hF;simp only [ne_eq,not_true_eq_false,if_false]at h1 h2;have edr:(a::ai.drop (i+1)).drop gr.length=ai.drop (i+gr.length):=(by rw [←ed,List.drop_drop]);rw [edr,hee]at h1 h2;have ih':=ih e x1 (l++[x1]) (by omega) hgl (by simp;omega) hS1 hF1 (fun h=>by rw [List.append_assoc];exact h1 h) (fun h s'=>by rw [List.append_assoc];exact h2 h s');have SE:=fun c f1 f0=>hsee l x1 c f1 f0 (by omega) hS1 hF1;simp only [aQ]at SE;simp only [wW,bM,om]at ih';simp [hV,hle,hle2,hgl,hmin,hsl,hrl,M,SE,aD,hcl0];exact ih'
   ·have hx1:=hbad he;have he':(x3 !=0)=true:=(by simpa using he);simp only [ne_eq,he,not_false_eq_true,if_true]at h2;have h2':=h2 trivial s;simp only [bM,List.append_nil]at h2';simp only [hx1]at M;simp [hV,hle,hle2,hgl,hmin,hsl,hrl,M,he',aD,hw];exact h2'
  ·have e:ai.drop i=[]:=List.drop_of_length_le (by omega);rw [e]at h1;apply ax;conv=>arg 4;whnf
   simp [bw]at h1;simp [hia,hV,wW];simpa [wW]using h1
end
section
variable {c:Nat} {H:aj}
structure Rd (r:aA)(g:GV)(V:List aw→aj)(LV:Nat):Prop where
 len: ∀l,(V l).length=LV
 pos:0<LV
 can:canon g=g
 EP: ∀H,dn H g=(g,H)
 cl: ∀(fs:List Fr) l n,LV-1≤n→clean (fs++V l) n g=g
 U8: ∀(fs:List Fr) l s' c,fs≠[]→l.length≤1000001→fR r s'→Full s'→dJ KC (aE KC) g [.pure (.agg (aQ r s'))] c (fs++V l)=some (.pure (.tuple []),fs++V (l++[s']))
theorem yP {r:aA}(hW:WB r){g:GV}{V:List aw→aj}{LV:Nat}(hg:Rd r g V LV)(ai:List ak)(hal:ai.length≤1000000)(hA: ∀a∈ai,AB r a.aN.toNat a){s:aw}(hS:fR r s)(hF:Full s):
  bK KC (aE KC) 93 [.pure (.agg (aQ r s)), .pure (.slice (ai.map ak.row)),g] c (V [])=
   some (.pure (.tuple [.agg (aQ r (bw r ai.length s ai 0).2.1), .int .i64 (bw r ai.length s ai 0).2.2.1, .int .i64 (bw r ai.length s ai 0).2.2.2]),V (s::(bw r ai.length s ai 0).1)):=by
 have hV:=hg.len;refine aO (aK KC au Tryz.func93 rfl rfl Re (by simp) (by rw [hV];exact hg.pos) ?_);have hc:=hg.can;have S1:=fun(f0:Fr) c=>hg.U8 [f0] [] s c (by simp) (by simp) hS hF;simp only [List.cons_append,List.nil_append]at S1;have L1:=fun Q=>He hW g ai hal hA V LV hV hg.pos (fun f1 f0 l=>hg.cl [f1,f0] l LV (by omega)) (fun f2 f1 f0 l=>hg.cl [f2,f1,f0] l (LV+1) (by omega)) (fun l s' c f1 f0 hl h1 h2=>hg.U8 [f1,f0] l s' c (by simp) hl h1 h2) Q ai.length 0 s [s] (by omega) (by omega) (by simp) hS hF;simp only [List.drop_zero]at L1;simp only [wW,bM,om,aQ]at L1 S1⊢;simp [hV,hc,S1];simp at L1;refine L1 _ (fun h=> ?_) (fun h s'=> ?_)
 ·have hat: ∀k i s ai,(bw r k s ai i).2.2.2=0→(bw r k s ai i).2.2.1= -1:=by
   intro k
   induction k with
   |zero=>intro i s ai h;rfl
   |succ k ih=>
    intro i s ai h
    cases ai with
    |nil=>rfl
    |cons a rest=>
     unfold bw at h⊢;simp only at h⊢;split at h
     ·rename_i h1;exact absurd h h1
     ·rename_i h1;rw [if_neg h1];exact ih _ _ _ h
  have e1:=hat _ _ _ _ h;simp [hV,aD];rw [ae (by simp)];simp [h,e1]
 ·simp [hV,aD];rw [ae (by simp)];simp
noncomputable def dw (r:aA):List aw×aw×Int×Int:=
 let q:=bw r r.ai.length (aF r) r.ai 0
 (aF r::q.1,q.2.1,if q.2.2.2=0∧og r q.2.1=false then ((r.ai.length:Int),11)else q.2.2)
theorem mA {r:aA}: ∀(k:Nat) (s:aw) (ai:List ak) (i:Nat),fR r s→(∀a∈ai,AB r a.aN.toNat a)→fR r (bw r k s ai i).2.1∧ ∀s'∈(bw r k s ai i).1,fR r s'
 |0,s,_,_,hS,_=>⟨hS,fun _ h=>by simp [bw]at h⟩
 |_+1,s,[],_,hS,_=>⟨hS,fun _ h=>by simp [bw]at h⟩
 |k+1,s,a::rest,i,hS,hA=>by
  unfold bw;simp only;split
  ·exact⟨hS,fun _ h=>by simp at h⟩
  ·rename_i h;have h':(cJ r s ((a::rest).takeWhile (aY a)) [] s 0).2.2=0:=(by simpa using h);have hgA: ∀b∈(a::rest).takeWhile (aY a),AB r b.aN.toNat b:=fun b hb=>hA b ((List.takeWhile_prefix _).subset hb);obtain⟨hG,e⟩:=sD (r:=r) (s:=s) (p:=[]) (tk:=[]) (nx:=s) (i:=0) (fun x=>by simp) ⟨fun a ha=>by simp at ha,by simp⟩ rfl hgA h';have hS1:fR r (cJ r s ((a::rest).takeWhile (aY a)) [] s 0).1:=(by rw [e];exact hG.snd hS);have:=mA k _ ((a::rest).drop ((a::rest).takeWhile (aY a)).length) (i+((a::rest).takeWhile (aY a)).length) hS1 (fun b hb=>hA b (List.mem_of_mem_drop hb));refine⟨this.1,fun s' hs'=> ?_⟩;rcases List.mem_cons.1 hs' with rfl|hs'
   ·exact hS1
   ·exact this.2 s' hs'
theorem Rd.up {r:aA}{g:GV}{V:List aw→aj}{LV:Nat}(h:Rd r g V LV)(F:Fr):Rd r g (fun l=>F::V l) (LV+1) where
 len:=fun l=>by simp [h.len]
 pos:=by omega
 can:=h.can
 EP:=h.EP
 cl:=fun fs l n hn=>by
  have:=h.cl (fs++[F]) l n (by omega);simpa using this
 U8:=fun fs l s' c hf hl h1 h2=>by
  have:=h.U8 (fs++[F]) l s' c (by simp) hl h1 h2;simpa using this
theorem jG {K:Ctx}{rec:Rec}{f:FuncId}{args:List GV}(h1:K.wT f=false)(h2:K.Aa f=false)(h3:K.EP f=true):aL K rec f args c H=bK K rec f (bs H args).1 c (bs H args).2:=by
 unfold aL;simp [h1,h2,h3]
theorem wX {K:Ctx}{rec:Rec}{f:FuncId}{a b:List GV}(h:a.map canon=b.map canon):bK K rec f a c H=bK K rec f b c H:=by
 have hl:a.length=b.length:=(by have:=congrArg List.length h;simpa using this);unfold bK;rw [h,hl]
theorem rz {r:aA}(hW:WB r)(hS:fR r (aF r))(hp0:r.ah≠[])(hal:r.ai.length≤1000000)(hA: ∀a∈r.ai,AB r a.aN.toNat a){g:GV}{V:List aw→aj}{LV:Nat}(hg:Rd r g V LV):
  bK KC (aE KC) 58 [.pure (.agg r.row),g] c (V [])=
   some (.pure (.tuple [.agg (aQ r (dw r).2.1), .int .i64 (dw r).2.2.1, .int .i64 (dw r).2.2.2]),V (dw r).1):=by
 have hV:=hg.len;have hF:Full (aF r):=⟨by simpa [aF]using hp0,by simpa [aF]using hp0,by simp [aF];exact hW.pl,by simp [aF];exact hW.pl,by simp [aF];exact hW.tl⟩;refine aO (aK KC au Tryz.func58 rfl rfl Rf (by simp) (by rw [hV];exact hg.pos) ?_);have C:=fun F=>sC (c:=12) (H:=F::V []) r hW.pl hW.tl (by simp);have fz: ∀H,bs H [.pure (.agg (aQ r (aF r))), .pure (.slice (r.ai.map ak.row)),g]=([.pure (.agg (aQ r (aF r))), .pure (.slice (r.ai.map ak.row)),g],H):=fun H=>by simp [bs,hg.EP]
 have R2: ∀F:Fr,aL KC (aE KC) 93 [.pure (.agg (aQ r (aF r))), .pure (.slice (r.ai.map ak.row)),g] 16 (F::V [])=
   some (.pure (.tuple [.agg (aQ r (bw r r.ai.length (aF r) r.ai 0).2.1), .int .i64 (bw r r.ai.length (aF r) r.ai 0).2.2.1, .int .i64 (bw r r.ai.length (aF r) r.ai 0).2.2.2]),F::V (aF r::(bw r r.ai.length (aF r) r.ai 0).1)):=fun F=>by
  rw [jG rfl rfl rfl,fz];exact yP (c:=16) hW (hg.up F) r.ai hal hA hS hF
 have hc:=hg.can;obtain⟨q,hq⟩: ∃q,bw r r.ai.length (aF r) r.ai 0=q:=⟨_,rfl⟩;have ha:dw r=(aF r::q.1,q.2.1,if q.2.2.2=0∧og r q.2.1=false then ((r.ai.length:Int),11)else q.2.2):=(by unfold dw;simp only [hq]);rw [hq]at R2;rw [ha];have hSq:=mA r.ai.length (aF r) r.ai 0 hS hA;rw [hq]at hSq;obtain⟨l,s,a7,e⟩:=q;simp only at hSq R2⊢;have OR:=fun c (H:aj) (hH:0<H.length)=>uZ (c:=c) (H:=H) r s hW.tl (by rw [hSq.1.hl];exact hW.pl) hSq.1.tl hH;rw [eE]at C⊢;simp only [aQ]at C R2 OR⊢;by_cases he:e=0
 ·subst he
  cases ho:og r s with
  |true=>
   rw [ho]at OR;simp [C,R2,OR,hV,hc,aD];rw [ae (by simp)];simp
  |false=>
   rw [ho]at OR;simp [C,R2,OR,hV,hc,aD];rw [ae (by simp)];simp
 ·have he':(e==0)=false:=(by simpa using he);simp [C,R2,hV,hc,he,he',aD];rw [ae (by simp)];simp
end
def rA (l:List ak)(x:ak):List ak:=(l.reverse.dropWhile fun y=>decide (x.a7<y.a7)).reverse++x::(l.reverse.takeWhile fun y=>decide (x.a7<y.a7)).reverse
def dY (l:List ak):List ak:=l.foldl rA []
theorem u5 {A B:List ak}{x:ak}(hB: ∀b∈B,x.a7<b.a7)(hA: ∀a,A.getLast? =some a→ ¬x.a7<a.a7):rA (A++B) x=A++x::B:=by
 unfold rA;rw [List.reverse_append];have hB': ∀b∈B.reverse,(fun y:ak=>decide (x.a7<y.a7)) b=true:=fun b hb=>(by simpa using hB b (List.mem_reverse.1 hb));rw [List.dropWhile_append_of_pos hB',List.takeWhile_append_of_pos hB'];have hd:A.reverse.dropWhile (fun y=>decide (x.a7<y.a7))=A.reverse∧A.reverse.takeWhile (fun y=>decide (x.a7<y.a7))=[]:=by
  cases h:A.reverse with
  |nil=>exact⟨rfl,rfl⟩
  |cons a r=>
   have:A.getLast? =some a:=(by rw [←List.head?_reverse,h];rfl);have:=hA a this;simp [List.dropWhile_cons,List.takeWhile_cons,this]
 rw [hd.1,hd.2];simp
theorem u6 (l:List ak)(x:ak): ∃A B,l=A++B∧rA l x=A++x::B∧(∀b∈B,x.a7<b.a7)∧(∀a,A.getLast? =some a→ ¬x.a7<a.a7):=by
 refine⟨(l.reverse.dropWhile fun y=>decide (x.a7<y.a7)).reverse,(l.reverse.takeWhile fun y=>decide (x.a7<y.a7)).reverse, ?_,rfl,fun b hb=> ?_,fun a ha=> ?_⟩
 ·rw [←List.reverse_append,List.takeWhile_append_dropWhile,List.reverse_reverse]
 ·have h: ∀(l:List ak) (b:ak),b∈l.takeWhile (fun y=>decide (x.a7<y.a7))→x.a7<b.a7:=fun l b=>by
   induction l with
   |nil=>intro h;simp at h
   |cons y l ih=>
    intro h;rw [List.takeWhile_cons]at h;split at h
    ·rename_i hy;rcases List.mem_cons.1 h with rfl|h
     ·simpa using hy
     ·exact ih h
    ·cases h
  exact h _ _ (List.mem_reverse.1 hb)
 ·rw [List.getLast?_reverse]at ha;have:=List.head?_dropWhile_not (fun y:ak=>decide (x.a7<y.a7)) l.reverse;rw [ha]at this;simpa using this
theorem EX (l:List ak)(x:ak):List.Perm (rA l x) (x::l):=by
 obtain⟨A,B,e1,e2,_,_⟩:=u6 l x;rw [e2,e1];exact List.perm_middle
theorem u7: ∀(l a:List ak),List.Perm (l.foldl rA a) (a++l)
 | [],a=>by simp
 |x::l,a=>by
  rw [List.foldl_cons];exact(u7 l (rA a x)).trans (((EX a x).append_right l).trans (by simpa using(List.perm_middle (l₁:=a) (l₂:=l) (a:=x)).symm))
theorem kX (l:List ak):List.Perm (dY l) l:=by unfold dY;simpa using u7 l []
theorem kI (l:List ak):(dY l).length=l.length:=(kX l).length_eq
theorem J9 {l:List ak}{x:ak}(h:l.Pairwise fun a b=>a.a7≤b.a7):(rA l x).Pairwise fun a b=>a.a7≤b.a7:=by
 obtain⟨A,B,e1,e2,hB,hA⟩:=u6 l x;rw [e2];rw [e1,List.pairwise_append]at h;obtain⟨h1,h2,h3⟩:=h;rw [List.pairwise_append];have hx: ∀a∈A,a.a7≤x.a7:=fun a ha=>by
  cases hl:A.getLast? with
  |none=>rw [List.getLast?_eq_none_iff]at hl;subst hl;cases ha
  |some z=>
   have hz:=hA z hl;obtain⟨A',rfl⟩:=List.getLast?_eq_some_iff.1 hl;rw [List.mem_append,List.mem_singleton]at ha;rcases ha with ha|rfl
   ·have:=(List.pairwise_append.1 h1).2.2 a ha z (by simp);omega
   ·omega
 refine⟨h1,List.pairwise_cons.2 ⟨fun b hb=>by have:=hB b hb;omega,h2⟩,fun a ha b hb=> ?_⟩;rcases List.mem_cons.1 hb with rfl|hb
 ·exact hx a ha
 ·exact h3 a ha b hb
theorem Af: ∀(l a:List ak),(a.Pairwise fun a b=>a.a7≤b.a7)→((l.foldl rA a).Pairwise fun a b=>a.a7≤b.a7)
 | [],a,h=>h
 |x::l,a,h=>by rw [List.foldl_cons];exact Af l _ (J9 h)
theorem Hg (l:List ak):(dY l).Pairwise fun a b=>a.a7≤b.a7:=Af l [] List.Pairwise.nil
theorem yQ {a:ak}{ai:List ak}:(a::ai).takeWhile (aY a)=a::ai.takeWhile (aY a):=by
 rw [List.takeWhile_cons];simp [aY]
theorem eA {r:aA}{k:Nat}{s:aw}{a:ak}{rest:List ak}{i:Nat}:bw r (k+1) s (a::rest) i=
  (if (cJ r s ((a::rest).takeWhile (aY a)) [] s 0).2.2≠0 then ([],s,(i:Int)+(cJ r s ((a::rest).takeWhile (aY a)) [] s 0).2.1,(cJ r s ((a::rest).takeWhile (aY a)) [] s 0).2.2)
  else ((cJ r s ((a::rest).takeWhile (aY a)) [] s 0).1::(bw r k (cJ r s ((a::rest).takeWhile (aY a)) [] s 0).1 ((a::rest).drop ((a::rest).takeWhile (aY a)).length) (i+((a::rest).takeWhile (aY a)).length)).1,
   (bw r k (cJ r s ((a::rest).takeWhile (aY a)) [] s 0).1 ((a::rest).drop ((a::rest).takeWhile (aY a)).length) (i+((a::rest).takeWhile (aY a)).length)).2)):=by
 rw [bw]
theorem mB {r:aA}{k:Nat}{s:aw}{i:Nat}:bw r k s [] i=([],s,-1,0):=by
 cases k<;>rfl
theorem rB {a:ak}{rest:List ak}{k:Nat}(h:(a::rest).length≤k+1):((a::rest).drop ((a::rest).takeWhile (aY a)).length).length≤k:=by
 rw [yQ,List.length_drop];simp only [List.length_cons]at h⊢;omega
theorem xz {r:aA}: ∀(k1 k2:Nat) (s:aw) (ai:List ak) (i:Nat),ai.length≤k1→ai.length≤k2→bw r k1 s ai i=bw r k2 s ai i
 |k1,k2,s,[],i,_,_=>by rw [mB,mB]
 |0,_,s,a::rest,i,h,_=>by simp at h
 |_+1,0,s,a::rest,i,_,h=>by simp at h
 |k1+1,k2+1,s,a::rest,i,h1,h2=>by
  rw [eA,eA,xz k1 k2 _ _ _ (rB h1) (rB h2)]
theorem pO {f:ak→Bool}{q:List ak}(hq: ∀b∈q,f b=false): ∀p:List ak,(p++q).takeWhile f=p.takeWhile f
 | []=>by
  cases q with
  |nil=>rfl
  |cons b q=>simp [List.takeWhile_cons,hq b (by simp)]
 |a::p=>by
  rw [List.cons_append,List.takeWhile_cons,List.takeWhile_cons,pO hq p]
theorem fU {r:aA}: ∀(k1 k k2:Nat) (s:aw) (p q:List ak) (i:Nat),p.length≤k1→(p++q).length≤k→q.length≤k2→(∀a∈p,∀b∈q,a.a7≠b.a7)→
  bw r k s (p++q) i=if (bw r k1 s p i).2.2.2≠0 then bw r k1 s p i else ((bw r k1 s p i).1++(bw r k2 (bw r k1 s p i).2.1 q (i+p.length)).1,(bw r k2 (bw r k1 s p i).2.1 q (i+p.length)).2)
 |k1,k,k2,s,[],q,i,_,h2,h3,_=>by
  rw [mB];simp only [ne_eq,not_true_eq_false,if_false,List.nil_append,List.length_nil,Nat.add_zero]at h2⊢;rw [xz k k2 s q i (by simpa using h2) h3]
 |0,k,k2,s,a::p,q,i,h1,_,_,_=>by simp at h1
 |k1+1,0,k2,s,a::p,q,i,_,h2,_,_=>by simp at h2
 |k1+1,k+1,k2,s,a::p,q,i,h1,h2,h3,hne=>by
  have hq: ∀b∈q,aY a b=false:=fun b hb=>by
   have:=hne a (by simp) b hb;simpa [aY]using fun e=>this e.symm
  have et:(a::(p++q)).takeWhile (aY a)=(a::p).takeWhile (aY a):=pO hq (a::p);have hle:((a::p).takeWhile (aY a)).length≤(a::p).length:=(List.takeWhile_sublist _).length_le;have ed:(a::(p++q)).drop ((a::p).takeWhile (aY a)).length=(a::p).drop ((a::p).takeWhile (aY a)).length++q:=by
   rw [←List.cons_append,List.drop_append_of_le_length hle]
  rw [List.cons_append,eA,et,ed,eA];generalize hm:cJ r s ((a::p).takeWhile (aY a)) [] s 0=m;by_cases he:m.2.2≠0
  ·simp only [if_pos he]
  ·rw [if_neg he,if_neg he];have hl:((a::p).drop ((a::p).takeWhile (aY a)).length++q).length≤k:=by
    rw [←ed,←et];exact rB (by simpa using h2)
   rw [fU k1 k k2 m.1 _ q (i+((a::p).takeWhile (aY a)).length) (rB h1) hl h3 (fun x hx=>hne x (List.mem_of_mem_drop hx))];have ei:i+((a::p).takeWhile (aY a)).length+((a::p).drop ((a::p).takeWhile (aY a)).length).length=i+(a::p).length:=by
    rw [List.length_drop];omega
   rw [ei];generalize bw r k1 m.1 ((a::p).drop ((a::p).takeWhile (aY a)).length) (i+((a::p).takeWhile (aY a)).length)=x;by_cases hx:x.2.2.2≠0
   ·simp only [if_pos hx]
   ·simp only [if_neg hx,List.cons_append]
theorem u9 {r:aA}: ∀(k:Nat) (s:aw) (ai:List ak) (i j:Nat),(bw r k s ai i).1=(bw r k s ai j).1∧(bw r k s ai i).2.1=(bw r k s ai j).2.1∧(bw r k s ai i).2.2.2=(bw r k s ai j).2.2.2
 |0,s,_,_,_=>⟨rfl,rfl,rfl⟩
 |_+1,s,[],_,_=>⟨rfl,rfl,rfl⟩
 |k+1,s,a::rest,i,j=>by
  rw [eA,eA];split
  ·exact⟨rfl,rfl,rfl⟩
  ·obtain⟨e1,e2,e3⟩:=u9 (r:=r) k (cJ r s ((a::rest).takeWhile (aY a)) [] s 0).1 ((a::rest).drop ((a::rest).takeWhile (aY a)).length) (i+((a::rest).takeWhile (aY a)).length) (j+((a::rest).takeWhile (aY a)).length);exact⟨by rw [e1],e2,e3⟩
def rC (l:List ak)(a:ak):List ak:=l.takeWhile fun b=>decide (b.a7<a.a7)
def j3 (l:List ak):Nat→Nat
 |0=>0
 |n+1=>j3 l n+if (l.getD (n+1) bH).a7≠(l.getD n bH).a7 then 1 else 0
theorem sE {l:List ak}{x:Int}: ∀(n:Nat),(∀j,j≤n→(l.getD j bH).a7=x)→j3 l n=0
 |0,_=>rfl
 |n+1,h=>by
  unfold j3;rw [sE n (fun j hj=>h j (by omega)),h (n+1) (Nat.le_refl _),h n (by omega)];simp
theorem xA {g l:List ak}(hg:g≠[])(hl:l≠[])(hs: ∀j,j<g.length→(g.getD j bH).a7=(g.getD 0 bH).a7)(hd:(l.getD 0 bH).a7≠(g.getD 0 bH).a7): ∀n,j3 (g++l) (g.length+n)=1+j3 l n
 |0=>by
  obtain⟨m,hm⟩: ∃m,g.length=m+1:=⟨g.length-1,by have:=List.length_pos_iff.2 hg;omega⟩;have e1: ∀j,j<g.length→(g++l).getD j bH=g.getD j bH:=fun j hj=>by
   simp [List.getD_eq_getElem?_getD,List.getElem?_append_left hj]
  have e2:(g++l).getD (m+1) bH=l.getD 0 bH:=by
   simp [List.getD_eq_getElem?_getD,List.getElem?_append_right (show g.length≤m+1 by omega),hm]
  rw [Nat.add_zero,hm];unfold j3;rw [sE m (x:=(g.getD 0 bH).a7) (fun j hj=>by rw [e1 j (by omega)];exact hs j (by omega)),e2,e1 m (by omega),hs m (by omega),if_pos hd]
 |n+1=>by
  have e1: ∀j,(g++l).getD (g.length+j) bH=l.getD j bH:=fun j=>by
   simp [List.getD_eq_getElem?_getD,List.getElem?_append_right (show g.length≤g.length+j by omega)]
  rw [←Nat.add_assoc];unfold j3;rw [xA hg hl hs hd n,Nat.add_assoc g.length n 1,e1,e1];omega
theorem Cj {r:aA}{k:Nat}{s:aw}{a:ak}{p:List ak}{i:Nat}(hs: ∀b∈p,b.a7=a.a7)(hk:(a::p).length≤k)(he:(cJ r s (a::p) [] s 0).2.2=0):bw r k s (a::p) i=([(cJ r s (a::p) [] s 0).1],(cJ r s (a::p) [] s 0).1,-1,0):=by
 obtain⟨m,rfl⟩: ∃m,k=m+1:=⟨k-1,by simp at hk;omega⟩;have et:(a::p).takeWhile (aY a)=a::p:=by
  rw [yQ];congr 1;have: ∀b∈p,aY a b=true:=fun b hb=>(by simp [aY,hs b hb]);simpa using List.takeWhile_append_of_pos (l₂:=[]) this
 rw [eA,et,if_neg (by simpa using he)];simp only [List.drop_length,mB]
theorem qi (f:ak→Bool): ∀l:List ak,l.takeWhile f=l.take (l.takeWhile f).length
 | []=>rfl
 |a::l=>by
  rw [List.takeWhile_cons];split
  ·rw [List.length_cons,List.take_succ_cons,←qi f l]
  ·rfl
theorem vc (f:ak→Bool): ∀(l:List ak) (j:Nat) (hj:j<l.length),j<(l.takeWhile f).length→f l[j]=true
 | [],j,hj,_=>by simp at hj
 |a::l,j,hj,h=>by
  rw [List.takeWhile_cons]at h;split at h
  ·rename_i ha
   cases j with
   |zero=>exact ha
   |succ j=>exact vc f l j (by simpa using hj) (by simpa using h)
  ·simp at h
theorem pz (f:ak→Bool): ∀(l:List ak) (hj:(l.takeWhile f).length<l.length),f (l[(l.takeWhile f).length]'hj)=false
 | [],hj=>by simp at hj
 |a::l,hj=>by
  by_cases ha:f a=true
  ·have e:((a::l).takeWhile f).length=(l.takeWhile f).length+1:=(by rw [List.takeWhile_cons,if_pos ha];rfl);have:=pz f l (by rw [e]at hj;simpa using hj);simp only [e,List.getElem_cons_succ];exact this
  ·have e:((a::l).takeWhile f).length=0:=(by rw [List.takeWhile_cons,if_neg ha];rfl);simp only [e,List.getElem_cons_zero];simpa using ha
theorem Oi {l:List ak}(hp:l.Pairwise fun a b=>a.a7≤b.a7){i j:Nat}(hi:i<l.length)(hj:j<l.length)(h:i≤j):l[i].a7≤l[j].a7:=by
 rcases Nat.lt_or_eq_of_le h with h|h
 ·exact List.pairwise_iff_getElem.1 hp i j hi hj h
 ·subst h;exact Int.le_refl _
theorem vd {l:List ak}{act:Nat}(h:act<l.length)(hp:l.Pairwise fun a b=>a.a7≤b.a7):
  (rC l l[act]).length≤act∧(∀j (hj:j<l.length),j<(rC l l[act]).length→l[j].a7<l[act].a7)∧ ∀j (hj:j<l.length),(rC l l[act]).length≤j→j≤act→l[j].a7=l[act].a7:=by
 have h1: ∀j (hj:j<l.length),j<(rC l l[act]).length→l[j].a7<l[act].a7:=fun j hj hm=>by
  have:=vc (fun b:ak=>decide (b.a7<l[act].a7)) l j hj hm;simpa using this
 have h2:(rC l l[act]).length≤act:=by
  rcases Nat.lt_or_ge act (rC l l[act]).length with hm|hm
  ·have:=h1 act h hm;omega
  ·exact hm
 refine⟨h2,h1,fun j hj hm hja=> ?_⟩;have hml:(rC l l[act]).length<l.length:=(by omega);have h3:=pz (fun b:ak=>decide (b.a7<l[act].a7)) l hml;have h3': ¬(l[(rC l l[act]).length]'hml).a7<l[act].a7:=of_decide_eq_false h3;have h4:=Oi hp hml hj hm;have h5:=Oi hp hj h hja;omega
noncomputable def Ck (r:aA)(a:ak):aw:=(bw r (rC r.ai a).length (aF r) (rC r.ai a) 0).2.1
def late (aN:Int)(a:ak):ak:=if a.aN=aN then {a with a7:=a.a7+1}else a
noncomputable def dp (r:aA)(act:Nat)(kind:Int):List ak:=
 if kind=2 then (if bV r (Ck r (r.ai.getD act bH)) (r.ai.getD act bH).aN.toNat {(r.ai.getD act bH)with hand:=1-(r.ai.getD act bH).hand}=true
  then r.ai.set act {(r.ai.getD act bH)with hand:=1-(r.ai.getD act bH).hand}else r.ai.eraseIdx act)
 else if kind=3 then dY (r.ai.take act++(r.ai.drop act).map (late (r.ai.getD act bH).aN))
 else r.ai.eraseIdx act
def eG (r:aA)(act:Nat)(kind:Int):Int:=(r.ai.getD act bH).a7+if kind=3 then 1 else 0
def cA (m:Int)(l:List ak):List ak:=l.takeWhile fun a=>decide (a.a7≤m)
def behind (m:Int)(l:List ak):List ak:=l.dropWhile fun a=>decide (a.a7≤m)
theorem iX (m:Int)(l:List ak):cA m l++behind m l=l:=List.takeWhile_append_dropWhile
def bI (m:Int):List ak→List ak
 | []=> []
 |a::l=>{a with a7:=m+1}::bI (m+1) l
def fg (m:Int)(ai mend:List ak):List ak:=cA m ai++bI m mend++(behind m ai).map fun a=>{a with a7:=a.a7+mend.length}
end Go.Gh
