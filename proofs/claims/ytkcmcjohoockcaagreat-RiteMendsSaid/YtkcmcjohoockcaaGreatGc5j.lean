/- Texts joined: the evaluator over ghost values, its soundness, the walks. Spaces struck and names made short by a program, for the size. -/
import Derived.Test.YtkcmcjohoockcaaGreatGc5i
import Derived.Test.YtkcmcjohoockcaaGreatGc5f
namespace Go.Gh
open Go.Proofs
set_option linter.unusedVariables false
set_option linter.unusedSimpArgs false
set_option linter.unnecessarySimpa false
set_option maxRecDepth 100000
set_option maxHeartbeats 8000000
section
variable {c:Nat} {H:aj}
noncomputable def cj (r:aC)(s:az):List ak→List (Int×Int)→az→Nat→az×Int×Int
 | [],_,nx,_=>(nx,0,0)
 |a::g,tk,nx,i=>if bW r s a.aQ.toNat a=false then (s,i,10)else if∀x∈dW s a.aQ.toNat a,x∉tk then cj r s g (eZ tk (dW s a.aQ.toNat a)) (cX nx a.aQ.toNat a) (i+1)else (s,i,12)
theorem qL.after {r:aC}: ∀{p:List ak} {s:az} {a:ak},gz r s→qL r s (p++[a])→gz r (mG s p)∧bW r (mG s p) a.aQ.toNat a=true
 | [],s,a,hS,h=>⟨hS,(h.ab a (by simp)).2⟩
 |b::p,s,a,hS,h=>by
  obtain⟨h1,h2⟩:=h.tail hS;show gz r (mG (cX s b.aQ.toNat b) p)∧bW r (mG (cX s b.aQ.toNat b) p) a.aQ.toNat a=true
  exact qL.after h1 h2
def sE (s:az)(p:List ak)(tk:List (Int×Int)):Prop:= ∀x,x∈tk↔ ∃b∈p,x∈dW s b.aQ.toNat b
theorem sE.snoc {s:az}{p:List ak}{tk:List (Int×Int)}{a:ak}(h:sE s p tk):sE s (p++[a]) (eZ tk (dW s a.aQ.toNat a)):=fun x=>by
 rw [yN,h x];simp only [List.mem_append,List.mem_singleton];constructor
 ·rintro(⟨b,hb,hx⟩|hx)
  ·exact⟨b, .inl hb,hx⟩
  ·exact⟨a, .inr rfl,hx⟩
 ·rintro⟨b,hb|rfl,hx⟩
  ·exact .inl ⟨b,hb,hx⟩
  ·exact .inr hx
theorem qL.snoc {r:aC}{s:az}{p:List ak}{tk:List (Int×Int)}{a:ak}(h:qL r s p)(ht:sE s p tk)(hA:AB r a.aQ.toNat a)(pa:bW r s a.aQ.toNat a=true)(hd: ∀x∈dW s a.aQ.toNat a,x∉tk):qL r s (p++[a]) where
 ab:=fun b hb=>by
  rcases List.mem_append.1 hb with hb|hb
  ·exact h.ab b hb
  ·simp only [List.mem_singleton]at hb;subst hb;exact⟨hA,pa⟩
 ap:=by
  rw [List.pairwise_append];refine⟨h.ap,List.pairwise_singleton ..,fun b hb x hx=> ?_⟩;simp only [List.mem_singleton]at hx;subst hx;exact(ry.2 fun y h1 h2=>hd y h2 ((ht y).2 ⟨b,hb,h1⟩))
def J0 (k:Nat):Nat:=136+2*(k-1)
theorem X8 {r:aC}{s:az}{w:Nat}{a:ak}{n1 n2 n3:Nm}{v1 v2 v3:Nat}(h:lI H n1 n2 n3 v1 v2 v3 s)(hb:DS s w a)(hst: ∀t:Nat,t<s.aa.length→0≤(s.aa.getD t aV).state∧(s.aa.getD t aV).state<16)(hH:0<H.length):Pz H (J0 a.kind.toNat) r n1 n2 n3 s w a c:=by
 obtain⟨d1,d2,d3,d4,d5,d6,d7,d8⟩:=X9 (r:=r) (c:=c) h hb hst hH;rcases nR hb.kind with k|k|k|k|k|k|k|k
 ·rw [show J0 a.kind.toNat=136 by rw [k];rfl];exact d1 k
 ·rw [show J0 a.kind.toNat=138 by rw [k];rfl];exact d2 k
 ·rw [show J0 a.kind.toNat=140 by rw [k];rfl];exact d3 k
 ·rw [show J0 a.kind.toNat=142 by rw [k];rfl];exact d4 k
 ·rw [show J0 a.kind.toNat=144 by rw [k];rfl];exact d5 k
 ·rw [show J0 a.kind.toNat=146 by rw [k];rfl];exact d6 k
 ·rw [show J0 a.kind.toNat=148 by rw [k];rfl];exact d7 k
 ·rw [show J0 a.kind.toNat=150 by rw [k];rfl];exact d8 k
def mH:Nat:=117469202
def nu:Nat:=117485586
def ye:Nat:=117501970
def PA (L:Nat)(r:aC)(s:az):dF:= .box [.pure (.int .i64 r.wide), .pure (.int .i64 r.deep), .pure (.slice (r.ah.map aS.row)), .pure (.slice (r.aa.map aY.row)), .pure (.slice (r.seen.map aE)), .pure (.slice (r.aP.map aE)), .pure (.slice (r.ai.map ak.row)), .aZ (L,mH) 1 s.ah.length 0 s.ah.length, .aZ (L,nu) 2 s.aq.length 0 s.aq.length, .aZ (L,ye) 2 s.aa.length 0 s.aa.length]
structure MX (L:Nat)(F:Fr)(r:aC)(s:az)(tk:List (Int×Int))(nx:az):Prop extends MF F r s tk where
 gU:F.gU
 g7:F.get 7=some (PA L r nx)
 sc:SF F mH nu ye nx
theorem J1 {r:aC}{s:az}(hS:gz r s)(hW:WB r)(ai:List ak)(hal:ai.length≤1000000)(hA: ∀a∈ai,AB r a.aQ.toNat a)(Q:GX→bN→Prop):
  ∀(k i:Nat) (F:Fr) (tk:List (Int×Int)) (nx:az),i+k=ai.length→MX H.length F r s tk nx→sE s (ai.take i) tk→qL r s (ai.take i)→nx=mG s (ai.take i)→
  ((cj r s (ai.drop i) tk nx i).2.2=0→ ∀F',(∃tk',MX H.length F' r s tk' (cj r s (ai.drop i) tk nx i).1)→qL r s ai→(cj r s (ai.drop i) tk nx i).1=mG s ai→Q (.exit 0) ⟨[(4, .aA (H.length,4) 0),(5,aN),(6,aN),(7, .aA (H.length,7) 0)],F'::H,65⟩)→
  ((cj r s (ai.drop i) tk nx i).2.2≠0→(cj r s (ai.drop i) tk nx i).1=s→ ∀F',F'.get 4=some (bT r s)→Q .ret ⟨[(4, .aA (H.length,4) 0),(5, .pure (.int .i64 (cj r s (ai.drop i) tk nx i).2.1)),(6, .pure (.int .i64 (cj r s (ai.drop i) tk nx i).2.2)),(7, .aA (H.length,7) 0)],F'::H,65⟩)→
  fM KC au 118 (lp Tryz.f118 0) [2,4,7,8,19,20,21] [4,5,6,7] Q
   [(2, .aA (H.length,2) 0),(4, .aA (H.length,4) 0),(7, .aA (H.length,7) 0),(8, .map (H.length,18)),(19, .pure (.slice (ai.map ak.row))),(20, .pure (.int .i64 ai.length)),(21, .pure (.int .i64 i))] (F::H) 65:=by
 intro k
 induction k with
 |zero=>
  intro i F tk nx hi hF hT hG hnx h1 h2;apply ax;conv=>arg 4;whnf
  have hnl: ¬i<ai.length:=(by omega);have e:ai.drop i=[]:=List.drop_of_length_le (by omega);have et:ai.take i=ai:=List.take_of_length_le (by omega);rw [e]at h1;simp [hnl];exact h1 rfl F ⟨tk,hF⟩ (et▸hG) (by show nx=_;rw [hnx,et])
 |succ k ih=>
  intro i F tk nx hi hF hT hG hnx h1 h2;have hia:i<ai.length:=(by omega);have hw:=cU (x:=(i:Int)+1) (by omega) (by omega);have ed:ai.drop i=ai[i]::ai.drop (i+1):=List.drop_eq_getElem_cons hia;have et:ai.take (i+1)=ai.take i++[ai[i]]:=List.take_succ_eq_append_getElem hia;have ne: ¬H.length=H.length+1:=(by omega);obtain⟨a,ha⟩: ∃a,ai[i]=a:=⟨_,rfl⟩;have hAa:AB r a.aQ.toNat a:=hA a (ha▸List.getElem_mem hia);obtain⟨w,hwq⟩: ∃w,a.aQ.toNat=w:=⟨_,rfl⟩;rw [ha]at ed et;rw [ed]at h1 h2;unfold cj at h1 h2;have g2:=hF.g2;have g4:=hF.g4;have g7:=hF.g7;have M:=fun c (H:aj) (hH:0<H.length)=>Al (c:=c) (H:=H) hS hW hAa hH;have T:=fun c (H:aj) (hH:0<H.length)=>uI (c:=c) (H:=H) hS hAa hH;have hAk:=hAa.kind;have kk:((a.kind.toNat:Nat):Int)=a.kind:=(by omega);have W:=fun c (H:aj) (hH:0<H.length)=>D0 (c:=c) (H:=H) (k:=a.kind.toNat) (by omega) hH;rw [kk]at W;apply ax;conv=>arg 4;whnf
  cases hp:bW r s a.aQ.toNat a with
  |false=>
   rw [hp]at M;simp only [hp,if_true]at h2;have h2':=h2 (by decide) trivial (F.ins 4 (bT r s)) (Fr.a7 ..);rw [bp]at M;simp only [bT]at g2 h2';simp only [pF]at g4;simp only [aU]at M;simp [hia,ha,bp,ne,g2,g4,M,aI];exact h2'
  |true=>
   rw [hp]at M;obtain⟨l,hl⟩: ∃l,dW s a.aQ.toNat a=l:=⟨_,rfl⟩;have hll:l.length≤1000:=by
    rw [←hl];unfold dW
    repeat' split
    all_goals simp
   rw [hl]at T h1 h2;simp only [hp,Bool.true_eq_false,if_false]at h1 h2;have L1:=fun Q=>yO (H:=H) hF.toMF a ai ai.length i l hll Q l.length 0 (by omega);simp only [List.drop_zero,bR]at L1;have hF1s:(F.ins 18 (.map (kS (eZ tk l)))).gU:=Fr.cB hF.gU;rw [bp]at M T;simp only [bT]at g2;simp only [pF]at g4;simp only [aU]at M T;simp [hia,ha,bp,ne,g2,g4,M,T];refine L1 _ (fun hfr=> ?_) (fun hfr=> ?_)
   ·clear L1;rw [if_pos hfr]at h1 h2;have hGs:qL r s (ai.take (i+1)):=(by rw [et];exact hG.snoc hT hAa hp (by rw [hl];exact hfr));have hTs:sE s (ai.take (i+1)) (eZ tk l):=(by rw [et,←hl];exact hT.snoc);have aft:=(qL.after hS (et▸hGs):gz r (mG s (ai.take i))∧_);rw [←hnx]at aft;have hD:=lH aft.1 hAa aft.2;have L2:=fun Q=>Ca (H:=H) (a:=a) ai ai.length i l hll Q l.length 0 F tk (by omega) hF.gU hF.gm;simp only [List.drop_zero,bR]at L2;simp [ne];refine L2 _ ?_;clear L2;have q12:mH≠nu:=(by decide);have q13:mH≠ye:=(by decide);have q23:nu≠ye:=(by decide);have e1: ∀k,k≠18→(F.ins 18 (.map (kS (eZ tk l)))).get k=F.get k:=fun k hk=>Fr.aw _ hk _;have sc1:SF (F.ins 18 (.map (kS (eZ tk l)))) mH nu ye nx:=hF.sc.other (e1 _ (by decide)) (e1 _ (by decide)) (e1 _ (by decide));have g71:=(e1 7 (by decide)).trans g7;have gm1:(F.ins 18 (.map (kS (eZ tk l)))).get 18=some (.map (kS (eZ tk l))):=Fr.a7 ..;have g21:=(e1 2 (by decide)).trans hF.g2;have g41:=(e1 4 (by decide)).trans hF.g4;generalize F.ins 18 (.map (kS (eZ tk l)))=F1 at hF1s sc1 g71 gm1 g21 g41⊢;obtain⟨u1,u2,u3,SS⟩:=sc1.self (f0:=[(10,bR a)]) (H:=H) hF1s q12 q13 q23;obtain⟨v1,v2,v3,b1,b2,b3,ed'⟩:=X8 (r:=r) (c:=62) SS hD aft.1.st (by simp);have LD:=ig (s:=nx) (w:=a.aQ.toNat) hAk;obtain⟨F2,hF2⟩: ∃F2,((F1.ins mH (.arr 1 ((cX nx a.aQ.toNat a).ah.map aE) v1 false)).ins nu (.arr 2 ((cX nx a.aQ.toNat a).aq.map aF.row) v2 false)).ins ye (.arr 2 ((cX nx a.aQ.toNat a).aa.map bm.row) v3 false)=F2:=⟨_,rfl⟩;have hsc:cn ([(10,bR a)]::F1::H) (H.length,mH) (H.length,nu) (H.length,ye) v1 v2 v3 (cX nx a.aQ.toNat a)=[(10,bR a)]::F2::H:=by
     rw [←hF2];simp [cn,ne]
    rw [hsc]at ed';have o2: ∀k,k≠mH→k≠nu→k≠ye→F2.get k=F1.get k:=fun k h1 h2 h3=>(by rw [←hF2,Fr.aw _ h3,Fr.aw _ h2,Fr.aw _ h1]);have enx:PA H.length r (cX nx a.aQ.toNat a)=PA H.length r nx:=by simp only [PA,LD]
    have MX2:MX H.length F2 r s (eZ tk l) (cX nx a.aQ.toNat a):={
     g2:=(o2 2 (by decide) (by decide) (by decide)).trans g21
     g4:=(o2 4 (by decide) (by decide) (by decide)).trans g41
     gm:=(o2 18 (by decide) (by decide) (by decide)).trans gm1
     gU:=by rw [←hF2];exact Fr.cB (Fr.cB (Fr.cB hF1s))
     g7:=by rw [enx];exact(o2 7 (by decide) (by decide) (by decide)).trans g71
     sc:=⟨⟨v1,by omega,by rw [←hF2,Fr.aw _ q13,Fr.aw _ q12,Fr.a7]⟩,⟨v2,by omega,by rw [←hF2,Fr.aw _ q23,Fr.a7]⟩,⟨v3,by omega,by rw [←hF2,Fr.a7]⟩⟩}
    have ih':=ih (i+1) F2 (eZ tk l) (cX nx a.aQ.toNat a) (by omega) MX2 hTs hGs (by rw [hnx,et,jj];rfl) h1 h2;rw [bp]at ed';simp only [PA]at g71;simp only [vz,bR,J0]at ed';simp [ne,g71,W,ed',hw,J0];simpa using ih'
   ·clear L1;rw [if_neg hfr]at h2;have h2':=h2 (show (12:Int)≠0 by decide) rfl (F.ins 4 (bT r s)) (Fr.a7 ..)
    simp only [bT]at h2'⊢;simp;exact h2'
end
section
variable {c:Nat} {H:aj}
theorem FF {r:aC}{s:az}{g:List ak}(hS:gz r s)(hG:qL r s g):(mG s g).ah.length=s.ah.length∧(mG s g).aq.length=s.aq.length∧(mG s g).aa.length=s.aa.length:=by
 have a:=hG.snd hS;exact⟨a.pl.trans hS.pl.symm,a.hl.trans hS.hl.symm,a.tl.trans hS.tl.symm⟩
theorem Am {r:aC}{s:az}: ∀{g:List ak} {tk:List (Int×Int)} {nx:az} {i:Nat},(cj r s g tk nx i).2.2=0→(cj r s g tk nx i).2.1=0
 | [],_,_,_,_=>rfl
 |a::g,tk,nx,i,h=>by
  unfold cj at h⊢;split at h
  ·simp at h
  ·rename_i h1;split at h
   ·rename_i h2;rw [if_neg h1,if_pos h2];exact Am h
   ·simp at h
theorem D3 {r:aC}{s:az}(hS:gz r s)(hW:WB r)(hFu:Full s)(ht0:s.aa≠[])(ai:List ak)(hal:ai.length≤1000000)(hA: ∀a∈ai,AB r a.aQ.toNat a)(hH:0<H.length):
  aL KC (aG KC) 118 [.pure (.agg (aU r s)), .pure (.slice (ai.map ak.row))] c H=
   some (.pure (.tuple [.agg (aU r (cj r s ai [] s 0).1), .int .i64 (cj r s ai [] s 0).2.1, .int .i64 (cj r s ai [] s 0).2.2]),H):=by
 refine aM (aW KC au Tryz.func118 rfl rfl Fe rfl rfl rfl (by simp) hH ?_);have k1:ao 17 28679=mH:=(by decide);have k2:ao 17 28683=nu:=(by decide);have k3:ao 17 28687=ye:=(by decide);have C:=Hp (c:=17) (H:=[(2,bT r s),(4,pF)]::H) r hFu ht0 (by simp) (by simp [k1,mH]) (by simp [k2,nu]) (by simp [k3,ye]);simp only [List.length_cons,Nat.add_sub_cancel,k1,k2,k3]at C;obtain⟨F0,hF0⟩: ∃F0:Fr,[(2,bT r s),(4,pF),(mH, .arr 1 (s.ah.map aE) 0 false),(nu, .arr 2 (s.aq.map aF.row) 0 false),(ye, .arr 2 (s.aa.map bm.row) 0 false)]=F0:=⟨_,rfl⟩;have hC:cn ([(2,bT r s),(4,pF)]::H) (H.length,mH) (H.length,nu) (H.length,ye) 0 0 0 s=F0::H:=by
  rw [←hF0];simp [cn,mH,nu,ye]
 rw [hC]at C;obtain⟨F1,hF1⟩: ∃F1,(F0.ins 7 (PA H.length r s)).ins 18 (.map [])=F1:=⟨_,rfl⟩;have f07:F0.get 7=none:=(by rw [←hF0];simp [mH,nu,ye]);have f018:F0.get 18=none:=(by rw [←hF0];simp [mH,nu,ye]);have o1: ∀k,k≠7→k≠18→F1.get k=F0.get k:=fun k h1 h2=>by rw [←hF1,Fr.aw _ h2,Fr.aw _ h1]
 have MX1:MX H.length F1 r s [] s:={
  g2:=(o1 2 (by decide) (by decide)).trans (by rw [←hF0];simp)
  g4:=(o1 4 (by decide) (by decide)).trans (by rw [←hF0];simp)
  gm:=by rw [←hF1,Fr.a7];rfl
  gU:=by
   rw [←hF1];refine Fr.cB (Fr.cB ?_);rw [←hF0];simp [Fr.gU,mH,nu,ye]
  g7:=by rw [←hF1,Fr.aw _ (by decide),Fr.a7]
  sc:=⟨⟨0,Nat.zero_le _,(o1 _ (by decide) (by decide)).trans (by rw [←hF0];simp [mH,nu,ye])⟩,⟨0,Nat.zero_le _,(o1 _ (by decide) (by decide)).trans (by rw [←hF0];simp [mH,nu,ye])⟩,⟨0,Nat.zero_le _,(o1 _ (by decide) (by decide)).trans (by rw [←hF0];simp [mH,nu,ye])⟩⟩}
 have L1:=fun Q=>J1 (H:=H) hS hW ai hal hA Q ai.length 0 F1 [] s (by omega) MX1 (fun x=>by simp) ⟨fun a ha=>by simp at ha,by simp⟩ rfl;simp only [List.drop_zero]at L1;simp only [aU,vz,bT,pF]at C;have f018':(F0.ins 7 (PA H.length r s)).get 18=none:=(Fr.aw _ (by decide) _).trans f018;simp only [PA]at hF1 f018';unfold aU;simp [C,f07,f018',Fr.a7,Fr.fe,hF1];refine L1 _ (fun he F' hF' hG hm=> ?_) (fun he hm F' h4=> ?_)
 ·obtain⟨tk',hF'⟩:=hF';have g7:=hF'.g7;have g4:=hF'.g4;have LL:=FF hS hG;rw [hm]at hF' g7;obtain⟨v1,a1,b1⟩:=hF'.sc.h1;obtain⟨v2,a2,b2⟩:=hF'.sc.h2;obtain⟨v3,a3,b3⟩:=hF'.sc.h3;have o4: ∀(x:dF) (k:Nat),k≠4→(F'.ins 4 x).get k=F'.get k:=fun x k hk=>Fr.aw _ hk _;have c1:=fun x=>(o4 x mH (by decide)).trans b1;have c2:=fun x=>(o4 x nu (by decide)).trans b2;have c3:=fun x=>(o4 x ye (by decide)).trans b3;have hat:=Am he;rw [hm];simp only [PA]at g7;simp only [pF]at g4;simp [g7,g4,aI,Fr.a7]
  have fin: ∀x,gn KC 118 c (.tuple [.agg [.pure (.int .i64 r.wide), .pure (.int .i64 r.deep), .pure (.slice (r.ah.map aS.row)), .pure (.slice (r.aa.map aY.row)), .pure (.slice (r.seen.map aE)), .pure (.slice (r.aP.map aE)), .pure (.slice (r.ai.map ak.row)), .aZ (H.length,mH) 1 (mG s ai).ah.length 0 (mG s ai).ah.length, .aZ (H.length,nu) 2 (mG s ai).aq.length 0 (mG s ai).aq.length, .aZ (H.length,ye) 2 (mG s ai).aa.length 0 (mG s ai).aa.length], .pure (.int .i64 0), .pure (.int .i64 0)]) (F'.ins 4 x::H)=
    some (.pure (.tuple [.agg (aU r (mG s ai)), .int .i64 0, .int .i64 0]),H):=fun x=>by
   have d1:=c1 x;have d2:=c2 x;have d3:=c3 x;generalize F'.ins 4 x=F5 at d1 d2 d3;have hnl: ¬H.length≤H.length-1:=(by omega);rw [ae (by simp)];simp [hnl,d1,d2,d3,a1,a2,a3,aU];exact⟨List.take_of_length_le (by simp),List.take_of_length_le (by simp),List.take_of_length_le (by simp)⟩
  rw [fin,gS,hat,he];simp only [aU]
 ·rw [hm];simp only [bT]at h4;simp [h4,ae]
end
section
variable {c:Nat} {H:aj}
theorem D4 {s:az}{w:Nat}{a:ak}(hb:DS s w a)(h:s.aa=[]):a.kind=1:=by
 have hk:=hb.kind;have e:s.aa.length=0:=(by rw [h];rfl);by_cases k1:a.kind=1
 ·exact k1
 ·by_cases k2:a.kind=2
  ·obtain⟨t,_,ht⟩:=hb.take k2;omega
  ·obtain⟨t,_,ht⟩:=hb.held (by omega);omega
theorem PB {r:aC}{s:az}{w:Nat}{a:ak}{n1 n2:Nm}{v1:Nat}(g1:H.get n1=some (.arr 1 (s.ah.map aE) v1 false))(e1:v1≤s.ah.length)(g2:n2.1<H.length)(hp:w<s.ah.length)(hwho:a.aQ=w)(k:a.kind=1)(hH:0<H.length):
  aL KC (aG KC) 136 [stE r n1 n2 s, .pure (.agg a.row)] c H=some (.pure (.tuple []),H.set n1 (.arr 1 ((cX s w a).ah.map aE) s.ah.length false)):=by
 have l1:=aj.bP g1;have d1: ¬n1.1=H.length:=(by omega);have d2: ¬n2.1=H.length:=(by omega);have hd:=kq (s:=s) (w:=w) k;refine aM (br KC au Tryz.func136 rfl rfl Ff rfl rfl rfl (by simp) hH ?_);rw [bp];unfold stE;simp [d1,d2,g1,e1,hp,hwho,aE,aI,ae,hd]
def PD (L:Nat)(r:aC)(s:az):dF:= .box [.pure (.int .i64 r.wide), .pure (.int .i64 r.deep), .pure (.slice (r.ah.map aS.row)), .pure (.slice (r.aa.map aY.row)), .pure (.slice (r.seen.map aE)), .pure (.slice (r.aP.map aE)), .pure (.slice (r.ai.map ak.row)), .aZ (L,mH) 1 s.ah.length 0 s.ah.length, .aZ (L,nu) 2 s.aq.length 0 s.aq.length, .aR]
structure ME (L:Nat)(F:Fr)(r:aC)(s:az)(tk:List (Int×Int))(nx:az):Prop extends MF F r s tk where
 gU:F.gU
 g7:F.get 7=some (PD L r nx)
 h1: ∃v,v≤nx.ah.length∧F.get mH=some (.arr 1 (nx.ah.map aE) v false)
 h2:F.get nu=some (.arr 2 (nx.aq.map aF.row) 0 false)
theorem Hq {r:aC}{s:az}(ht0:r.aa=[])(hS:gz r s)(hW:WB r)(ai:List ak)(hal:ai.length≤1000000)(hA: ∀a∈ai,AB r a.aQ.toNat a)(Q:GX→bN→Prop):
  ∀(k i:Nat) (F:Fr) (tk:List (Int×Int)) (nx:az),i+k=ai.length→ME H.length F r s tk nx→sE s (ai.take i) tk→qL r s (ai.take i)→nx=mG s (ai.take i)→
  ((cj r s (ai.drop i) tk nx i).2.2=0→ ∀F',(∃tk',ME H.length F' r s tk' (cj r s (ai.drop i) tk nx i).1)→qL r s ai→(cj r s (ai.drop i) tk nx i).1=mG s ai→Q (.exit 0) ⟨[(4, .aA (H.length,4) 0),(5,aN),(6,aN),(7, .aA (H.length,7) 0)],F'::H,65⟩)→
  ((cj r s (ai.drop i) tk nx i).2.2≠0→(cj r s (ai.drop i) tk nx i).1=s→ ∀F',F'.get 4=some (bT r s)→Q .ret ⟨[(4, .aA (H.length,4) 0),(5, .pure (.int .i64 (cj r s (ai.drop i) tk nx i).2.1)),(6, .pure (.int .i64 (cj r s (ai.drop i) tk nx i).2.2)),(7, .aA (H.length,7) 0)],F'::H,65⟩)→
  fM KC au 118 (lp Tryz.f118 0) [2,4,7,8,19,20,21] [4,5,6,7] Q
   [(2, .aA (H.length,2) 0),(4, .aA (H.length,4) 0),(7, .aA (H.length,7) 0),(8, .map (H.length,18)),(19, .pure (.slice (ai.map ak.row))),(20, .pure (.int .i64 ai.length)),(21, .pure (.int .i64 i))] (F::H) 65:=by
 intro k
 induction k with
 |zero=>
  intro i F tk nx hi hF hT hG hnx h1 h2;apply ax;conv=>arg 4;whnf
  have hnl: ¬i<ai.length:=(by omega);have e:ai.drop i=[]:=List.drop_of_length_le (by omega);have et:ai.take i=ai:=List.take_of_length_le (by omega);rw [e]at h1;simp [hnl];exact h1 rfl F ⟨tk,hF⟩ (et▸hG) (by show nx=_;rw [hnx,et])
 |succ k ih=>
  intro i F tk nx hi hF hT hG hnx h1 h2;have hia:i<ai.length:=(by omega);have hw:=cU (x:=(i:Int)+1) (by omega) (by omega);have ed:ai.drop i=ai[i]::ai.drop (i+1):=List.drop_eq_getElem_cons hia;have et:ai.take (i+1)=ai.take i++[ai[i]]:=List.take_succ_eq_append_getElem hia;have ne: ¬H.length=H.length+1:=(by omega);obtain⟨a,ha⟩: ∃a,ai[i]=a:=⟨_,rfl⟩;have hAa:AB r a.aQ.toNat a:=hA a (ha▸List.getElem_mem hia);obtain⟨w,hwq⟩: ∃w,a.aQ.toNat=w:=⟨_,rfl⟩;rw [ha]at ed et;rw [ed]at h1 h2;unfold cj at h1 h2;have g2:=hF.g2;have g4:=hF.g4;have g7:=hF.g7;have M:=fun c (H:aj) (hH:0<H.length)=>Al (c:=c) (H:=H) hS hW hAa hH;have T:=fun c (H:aj) (hH:0<H.length)=>uI (c:=c) (H:=H) hS hAa hH;have hAk:=hAa.kind;have kk:((a.kind.toNat:Nat):Int)=a.kind:=(by omega);have W:=fun c (H:aj) (hH:0<H.length)=>D0 (c:=c) (H:=H) (k:=a.kind.toNat) (by omega) hH;rw [kk]at W;apply ax;conv=>arg 4;whnf
  cases hp:bW r s a.aQ.toNat a with
  |false=>
   rw [hp]at M;simp only [hp,if_true]at h2;have h2':=h2 (by decide) trivial (F.ins 4 (bT r s)) (Fr.a7 ..);rw [bp]at M;simp only [bT]at g2 h2';simp only [pF]at g4;simp only [aU]at M;simp [hia,ha,bp,ne,g2,g4,M,aI];exact h2'
  |true=>
   rw [hp]at M;obtain⟨l,hl⟩: ∃l,dW s a.aQ.toNat a=l:=⟨_,rfl⟩;have hll:l.length≤1000:=by
    rw [←hl];unfold dW
    repeat' split
    all_goals simp
   rw [hl]at T h1 h2;simp only [hp,Bool.true_eq_false,if_false]at h1 h2;have L1:=fun Q=>yO (H:=H) hF.toMF a ai ai.length i l hll Q l.length 0 (by omega);simp only [List.drop_zero,bR]at L1;have hF1s:(F.ins 18 (.map (kS (eZ tk l)))).gU:=Fr.cB hF.gU;rw [bp]at M T;simp only [bT]at g2;simp only [pF]at g4;simp only [aU]at M T;simp [hia,ha,bp,ne,g2,g4,M,T];refine L1 _ (fun hfr=> ?_) (fun hfr=> ?_)
   ·clear L1;rw [if_pos hfr]at h1 h2;have hGs:qL r s (ai.take (i+1)):=(by rw [et];exact hG.snoc hT hAa hp (by rw [hl];exact hfr));have hTs:sE s (ai.take (i+1)) (eZ tk l):=(by rw [et,←hl];exact hT.snoc);have aft:=(qL.after hS (et▸hGs):gz r (mG s (ai.take i))∧_);rw [←hnx]at aft;have hD:=lH aft.1 hAa aft.2;have L2:=fun Q=>Ca (H:=H) (a:=a) ai ai.length i l hll Q l.length 0 F tk (by omega) hF.gU hF.gm;simp only [List.drop_zero,bR]at L2;simp [ne];refine L2 _ ?_;clear L2;have q12:mH≠nu:=(by decide);have q21:nu≠mH:=(by decide);have e1: ∀k,k≠18→(F.ins 18 (.map (kS (eZ tk l)))).get k=F.get k:=fun k hk=>Fr.aw _ hk _;obtain⟨u1,w1,hh1⟩:=hF.h1;have hh1':=(e1 mH (by decide)).trans hh1;have hh2':=(e1 nu (by decide)).trans hF.h2;have g71:=(e1 7 (by decide)).trans g7;have gm1:(F.ins 18 (.map (kS (eZ tk l)))).get 18=some (.map (kS (eZ tk l))):=Fr.a7 ..;have g21:=(e1 2 (by decide)).trans hF.g2;have g41:=(e1 4 (by decide)).trans hF.g4;generalize F.ins 18 (.map (kS (eZ tk l)))=F1 at hF1s hh1' hh2' g71 gm1 g21 g41⊢;have hnt:nx.aa=[]:=List.eq_nil_of_length_eq_zero (by rw [aft.1.tl,ht0];rfl);have hk1:=D4 hD hnt;have ed':=PB (H:=[(10,bR a)]::F1::H) (c:=62) (r:=r) (s:=nx) (w:=a.aQ.toNat) (a:=a) (n1:=(H.length,mH)) (n2:=(H.length,nu)) (v1:=u1) (by simp [ne,hh1']) w1 (by simp;omega) hD.hp hD.aQ hk1 (by simp);have LD:=ig (s:=nx) (w:=a.aQ.toNat) hAk;have LH:(cX nx a.aQ.toNat a).aq=nx.aq:=(by rw [kq hk1]);obtain⟨F2,hF2⟩: ∃F2,F1.ins mH (.arr 1 ((cX nx a.aQ.toNat a).ah.map aE) nx.ah.length false)=F2:=⟨_,rfl⟩;have hsc:aj.set ([(10,bR a)]::F1::H) (H.length,mH) (.arr 1 ((cX nx a.aQ.toNat a).ah.map aE) nx.ah.length false)=[(10,bR a)]::F2::H:=by
     rw [←hF2];simp [ne]
    rw [hsc]at ed';have o2: ∀k,k≠mH→F2.get k=F1.get k:=fun k h1=>(by rw [←hF2,Fr.aw _ h1]);have enx:PD H.length r (cX nx a.aQ.toNat a)=PD H.length r nx:=by simp only [PD,LD]
    have MX2:ME H.length F2 r s (eZ tk l) (cX nx a.aQ.toNat a):={
     g2:=(o2 2 (by decide)).trans g21
     g4:=(o2 4 (by decide)).trans g41
     gm:=(o2 18 (by decide)).trans gm1
     gU:=by rw [←hF2];exact Fr.cB hF1s
     g7:=by rw [enx];exact(o2 7 (by decide)).trans g71
     h1:=⟨nx.ah.length,by omega,by rw [←hF2,Fr.a7]⟩
     h2:=by rw [LH];exact(o2 nu q21).trans hh2'}
    have ih':=ih (i+1) F2 (eZ tk l) (cX nx a.aQ.toNat a) (by omega) MX2 hTs hGs (by rw [hnx,et,jj];rfl) h1 h2;rw [bp]at ed';simp only [PD]at g71;simp only [stE,bR]at ed';rw [hk1]at ed';rw [hk1]at W;simp at W;simp [hk1,ne,g71,W,ed',hw];simpa using ih'
   ·clear L1;rw [if_neg hfr]at h2;have h2':=h2 (show (12:Int)≠0 by decide) rfl (F.ins 4 (bT r s)) (Fr.a7 ..)
    simp only [bT]at h2'⊢;simp;exact h2'
theorem D5 {r:aC}{s:az}(hS:gz r s)(hW:WB r)(hFu:Full s)(ht0:r.aa=[])(ai:List ak)(hal:ai.length≤1000000)(hA: ∀a∈ai,AB r a.aQ.toNat a)(hH:0<H.length):
  aL KC (aG KC) 118 [.pure (.agg (aU r s)), .pure (.slice (ai.map ak.row))] c H=
   some (.pure (.tuple [.agg (aU r (cj r s ai [] s 0).1), .int .i64 (cj r s ai [] s 0).2.1, .int .i64 (cj r s ai [] s 0).2.2]),H):=by
 refine aM (aW KC au Tryz.func118 rfl rfl Fe rfl rfl rfl (by simp) hH ?_);have k1:ao 17 28679=mH:=(by decide);have k2:ao 17 28683=nu:=(by decide);have hst:s.aa=[]:=List.eq_nil_of_length_eq_zero (by rw [hS.tl,ht0];rfl);have C:=D6 (c:=17) (H:=[(2,bT r s),(4,pF)]::H) r hFu hst (by simp) (by simp [k1,mH]) (by simp [k2,nu]);simp only [List.length_cons,Nat.add_sub_cancel,k1,k2]at C;obtain⟨F0,hF0⟩: ∃F0:Fr,[(2,bT r s),(4,pF),(mH, .arr 1 (s.ah.map aE) 0 false),(nu, .arr 2 (s.aq.map aF.row) 0 false)]=F0:=⟨_,rfl⟩;have hC:aj.set (aj.set ([(2,bT r s),(4,pF)]::H) (H.length,mH) (.arr 1 (s.ah.map aE) 0 false)) (H.length,nu) (.arr 2 (s.aq.map aF.row) 0 false)=F0::H:=by
  rw [←hF0];simp [mH,nu]
 rw [hC]at C;obtain⟨F1,hF1⟩: ∃F1,(F0.ins 7 (PD H.length r s)).ins 18 (.map [])=F1:=⟨_,rfl⟩;have f07:F0.get 7=none:=(by rw [←hF0];simp [mH,nu]);have f018:F0.get 18=none:=(by rw [←hF0];simp [mH,nu]);have o1: ∀k,k≠7→k≠18→F1.get k=F0.get k:=fun k h1 h2=>by rw [←hF1,Fr.aw _ h2,Fr.aw _ h1]
 have MX1:ME H.length F1 r s [] s:={
  g2:=(o1 2 (by decide) (by decide)).trans (by rw [←hF0];simp)
  g4:=(o1 4 (by decide) (by decide)).trans (by rw [←hF0];simp)
  gm:=by rw [←hF1,Fr.a7];rfl
  gU:=by
   rw [←hF1];refine Fr.cB (Fr.cB ?_);rw [←hF0];simp [Fr.gU,mH,nu]
  g7:=by rw [←hF1,Fr.aw _ (by decide),Fr.a7]
  h1:=⟨0,Nat.zero_le _,(o1 _ (by decide) (by decide)).trans (by rw [←hF0];simp [mH,nu])⟩
  h2:=(o1 _ (by decide) (by decide)).trans (by rw [←hF0];simp [mH,nu])}
 have L1:=fun Q=>Hq (H:=H) ht0 hS hW ai hal hA Q ai.length 0 F1 [] s (by omega) MX1 (fun x=>by simp) ⟨fun a ha=>by simp at ha,by simp⟩ rfl;simp only [List.drop_zero]at L1;simp only [aU,stE,bT,pF]at C;have f018':(F0.ins 7 (PD H.length r s)).get 18=none:=(Fr.aw _ (by decide) _).trans f018;simp only [PD]at hF1 f018';unfold aU;simp [C,f07,f018',Fr.a7,Fr.fe,hF1];refine L1 _ (fun he F' hF' hG hm=> ?_) (fun he hm F' h4=> ?_)
 ·obtain⟨tk',hF'⟩:=hF';have g7:=hF'.g7;have g4:=hF'.g4;have LL:=FF hS hG;rw [hm]at hF' g7;obtain⟨v1,a1,b1⟩:=hF'.h1;have b2:=hF'.h2;have hft:(mG s ai).aa=[]:=List.eq_nil_of_length_eq_zero (by rw [LL.2.2,hst];rfl);have o4: ∀(x:dF) (k:Nat),k≠4→(F'.ins 4 x).get k=F'.get k:=fun x k hk=>Fr.aw _ hk _;have c1:=fun x=>(o4 x mH (by decide)).trans b1;have c2:=fun x=>(o4 x nu (by decide)).trans b2;have hat:=Am he;rw [hm];simp only [PD]at g7;simp only [pF]at g4;simp [g7,g4,aI,Fr.a7]
  have fin: ∀x,gn KC 118 c (.tuple [.agg [.pure (.int .i64 r.wide), .pure (.int .i64 r.deep), .pure (.slice (r.ah.map aS.row)), .pure (.slice (r.aa.map aY.row)), .pure (.slice (r.seen.map aE)), .pure (.slice (r.aP.map aE)), .pure (.slice (r.ai.map ak.row)), .aZ (H.length,mH) 1 (mG s ai).ah.length 0 (mG s ai).ah.length, .aZ (H.length,nu) 2 (mG s ai).aq.length 0 (mG s ai).aq.length, .aR], .pure (.int .i64 0), .pure (.int .i64 0)]) (F'.ins 4 x::H)=
    some (.pure (.tuple [.agg (aU r (mG s ai)), .int .i64 0, .int .i64 0]),H):=fun x=>by
   have d1:=c1 x;have d2:=c2 x;generalize F'.ins 4 x=F5 at d1 d2;have hnl: ¬H.length≤H.length-1:=(by omega);rw [ae (by simp)];simp [hnl,d1,d2,a1,aU,hft];exact⟨List.take_of_length_le (by simp),List.take_of_length_le (by simp)⟩
  rw [fin,gS,hat,he];simp only [aU]
 ·rw [hm];simp only [bT]at h4;simp [h4,ae]
theorem yP {r:aC}{s:az}(hS:gz r s)(hW:WB r)(hFu:Full s)(ai:List ak)(hal:ai.length≤1000000)(hA: ∀a∈ai,AB r a.aQ.toNat a)(hH:0<H.length):
  aL KC (aG KC) 118 [.pure (.agg (aU r s)), .pure (.slice (ai.map ak.row))] c H=
   some (.pure (.tuple [.agg (aU r (cj r s ai [] s 0).1), .int .i64 (cj r s ai [] s 0).2.1, .int .i64 (cj r s ai [] s 0).2.2]),H):=by
 by_cases h:s.aa=[]
 ·exact D5 hS hW hFu (List.eq_nil_of_length_eq_zero (by rw [←hS.tl,h];rfl)) ai hal hA hH
 ·exact D3 hS hW hFu h ai hal hA hH
end
section
variable {c:Nat} {H:aj}
def a8 (a:ak):ak→Bool:=fun b=>b.bc==a.bc
noncomputable def bM (r:aC):Nat→az→List ak→Nat→List az×az×Int×Int
 |0,s,_,_=>([],s,-1,0)
 |_+1,s,[],_=>([],s,-1,0)
 |k+1,s,a::rest,i=>
  let g:=(a::rest).takeWhile (a8 a)
  let m:=cj r s g [] s 0
  if m.2.2≠0 then ([],s,i+m.2.1,m.2.2)
  else let q:=bM r k m.1 ((a::rest).drop g.length) (i+g.length);(m.1::q.1,q.2)
def yf (r:aC)(s:az):Fr:=[(3,bT r s),(6,pF)]
theorem PE {r:aC}{s:az}(g:GV)(ai:List ak)(hal:ai.length≤1000000)(i:Nat)(hi:i<ai.length)(V:aj)(hcl: ∀f2,clean (f2::[]::yf r s::V) (V.length+1) g=g)(Q:GX→bN→Prop): ∀k j:Nat,j+k=ai.length→
  Q (.exit 2) ⟨[(1, .pure (.slice (ai.map ak.row))),(2,g),(3, .aA (V.length,3) 0),(6, .aA (V.length,6) 0),(9, .pure (.int .i64 i)),(10, .pure (.int .i64 ((j+((ai.drop j).takeWhile (a8 ai[i])).length:Nat):Int)))],[]::yf r s::V,64⟩→
  fM KC au 93 (lp Tryz.f93 1) [1,2,3,6,9,10] [1,2,3,6,9,10] Q
   [(1, .pure (.slice (ai.map ak.row))),(2,g),(3, .aA (V.length,3) 0),(6, .aA (V.length,6) 0),(9, .pure (.int .i64 i)),(10, .pure (.int .i64 j))] ([]::yf r s::V) 64:=by
 intro k
 induction k with
 |zero=>
  intro j hj h1;have e:ai.drop j=[]:=List.drop_of_length_le (by omega);rw [e]at h1;have hnl: ¬j<ai.length:=(by omega);apply ax;conv=>arg 4;whnf
  simp [yf]at hcl;simp [hnl,yf,hcl];simpa [yf]using h1
 |succ k ih=>
  intro j hj h1;have hja:j<ai.length:=(by omega);have hw:=cU (x:=(j:Int)+1) (by omega) (by omega);have ed:ai.drop j=ai[j]::ai.drop (j+1):=List.drop_eq_getElem_cons hja;rw [ed,List.takeWhile_cons]at h1;simp [yf]at hcl;apply ax;conv=>arg 4;whnf
  cases he:(ai[j].bc==ai[i].bc)with
  |true=>
   rw [show a8 ai[i] ai[j]=true from he]at h1
   simp only [if_true,List.length_cons]at h1;have ih':=ih (j+1) (by omega) (by rw [show j+1+((ai.drop (j+1)).takeWhile (a8 ai[i])).length=j+(((ai.drop (j+1)).takeWhile (a8 ai[i])).length+1)by omega];exact h1)
   simp [hja,hi,bp,he,hw,yf,hcl];simpa [yf]using ih'
  |false=>
   rw [show a8 ai[i] ai[j]=false from he]at h1
   simp [hja,hi,bp,he,yf,hcl];simpa [yf]using h1
theorem qk {r:aC}{s:az}: ∀{g p:List ak} {tk:List (Int×Int)} {nx:az} {i:Nat},sE s p tk→qL r s p→nx=mG s p→(∀a∈g,AB r a.aQ.toNat a)→(cj r s g tk nx i).2.2=0→qL r s (p++g)∧(cj r s g tk nx i).1=mG s (p++g)
 | [],p,tk,nx,i,_,hG,hn,_,_=>by rw [List.append_nil];exact⟨hG,hn⟩
 |a::g,p,tk,nx,i,hT,hG,hn,hA,h=>by
  unfold cj at h⊢;split at h
  ·simp at h
  ·rename_i h1;split at h
   ·rename_i h2;have h1':bW r s a.aQ.toNat a=true:=(by simpa using h1);have:=qk (hT.snoc (a:=a)) (hG.snoc hT (hA a (List.mem_cons_self ..)) h1' h2) (by rw [hn,jj];rfl) (fun b hb=>hA b (List.mem_cons_of_mem _ hb)) h;rw [if_neg h1,if_pos h2]
    rwa [List.append_assoc,List.singleton_append]at this
   ·simp at h
theorem wN {r:aC}{s:az}: ∀{g:List ak} {tk:List (Int×Int)} {nx:az} {i:Nat},(cj r s g tk nx i).2.2≠0→(cj r s g tk nx i).1=s
 | [],_,_,_,h=>absurd rfl h
 |a::g,tk,nx,i,h=>by
  unfold cj at h⊢;split
  ·rfl
  ·rename_i h1;rw [if_neg h1]at h;split
   ·rename_i h2;rw [if_pos h2]at h;exact wN h
   ·rfl
theorem Cb {r:aC}{s:az}: ∀{g:List ak} {tk:List (Int×Int)} {nx:az} {i:Nat},0≤(cj r s g tk nx i).2.1∧(cj r s g tk nx i).2.1≤i+g.length
 | [],_,_,i=>by simp [cj]
 |a::g,tk,nx,i=>by
  unfold cj;split
  ·simp only [List.length_cons];omega
  ·split
   ·have:=Cb (r:=r) (s:=s) (g:=g) (tk:=eZ tk (dW s a.aQ.toNat a)) (nx:=cX nx a.aQ.toNat a) (i:=i+1);simp only [List.length_cons];omega
   ·simp only [List.length_cons];omega
theorem kT {r:aC}{s s':az}(h:gz r s)(h':gz r s')(hF:Full s):Full s':=by
 have e1:=h'.pl.trans h.pl.symm;have e2:=h'.hl.trans h.hl.symm;have e3:=h'.tl.trans h.tl.symm;have a1:=List.length_pos_iff.2 hF.p0;have a2:=List.length_pos_iff.2 hF.h0;have:=hF.pl;have:=hF.hl;have:=hF.tl;exact⟨List.length_pos_iff.1 (by omega),List.length_pos_iff.1 (by omega),by omega,by omega,by omega⟩
theorem J2 {r:aC} (hW:WB r) (g:GV) (ai:List ak) (hal:ai.length≤1000000) (hA: ∀a∈ai,AB r a.aQ.toNat a) (V:List az→aj) (LV:Nat) (hV: ∀l,(V l).length=LV) (hV0:0<LV)
  (hcl0: ∀f1 f0 l,clean (f1::f0::V l) LV g=g) (hcl1: ∀f2 f1 f0 l,clean (f2::f1::f0::V l) (LV+1) g=g)
  (hsee: ∀l s' c f1 f0,l.length≤1000001→gz r s'→Full s'→ez KC (aG KC) g [.pure (.agg (aU r s'))] c (f1::f0::V l)=some (.pure (.tuple []),f1::f0::V (l++[s'])))
  (Q:GX→bN→Prop): ∀(k i:Nat) (s:az) (l:List az),ai.length-i≤k→i≤ai.length→l.length≤i+1→gz r s→Full s→
  ((bM r k s (ai.drop i) i).2.2.2=0→Q (.exit 0) ⟨[(3, .aA (LV,3) 0),(6, .aA (LV,6) 0),(7,aN),(8,aN)],yf r (bM r k s (ai.drop i) i).2.1::V (l++(bM r k s (ai.drop i) i).1),64⟩)→
  ((bM r k s (ai.drop i) i).2.2.2≠0→ ∀s',Q .ret ⟨[(3, .aA (LV,3) 0),(6, .aA (LV,6) 0),(7, .pure (.int .i64 (bM r k s (ai.drop i) i).2.2.1)),(8, .pure (.int .i64 (bM r k s (ai.drop i) i).2.2.2))],[(3,bT r s'),(6,bT r (bM r k s (ai.drop i) i).2.1)]::V (l++(bM r k s (ai.drop i) i).1),64⟩)→
  fM KC au 93 (lp Tryz.f93 0) [1,2,3,6,9] [3,6,7,8] Q
   [(1, .pure (.slice (ai.map ak.row))),(2,g),(3, .aA (LV,3) 0),(6, .aA (LV,6) 0),(9, .pure (.int .i64 i))] (yf r s::V l) 64:=by
 intro k
 induction k with
 |zero=>
  intro i s l hk hi hll hS hF h1 h2;have hnl: ¬i<ai.length:=(by omega);have e:i=ai.length:=(by omega);apply ax;conv=>arg 4;whnf
  simp [bM]at h1;simp [hnl,hV,yf];simpa [yf]using h1
 |succ k ih=>
  intro i s l hk hi hll hS hF h1 h2;by_cases hia:i<ai.length
  ·have ed:ai.drop i=ai[i]::ai.drop (i+1):=List.drop_eq_getElem_cons hia;obtain⟨a,ha⟩: ∃a,ai[i]=a:=⟨_,rfl⟩;rw [ha]at ed;obtain⟨gr,hgr⟩: ∃gr,(a::ai.drop (i+1)).takeWhile (a8 a)=gr:=⟨_,rfl⟩;have hg1:1≤gr.length:=by
    rw [←hgr,List.takeWhile_cons,show a8 a a=true from by simp [a8]]
    simp
   have hgp:gr<+:ai.drop i:=(by rw [ed,←hgr];exact List.takeWhile_prefix _);have hgl:i+gr.length≤ai.length:=(by have:=hgp.length_le;simp at this;omega);have hgt:gr=(ai.drop i).take gr.length:=List.prefix_iff_eq_take.1 hgp;have hsl:List.drop i (List.take (i+gr.length) (ai.map ak.row))=gr.map ak.row:=by
    rw [←List.map_take,←List.map_drop];congr 1;rw [List.drop_take,Nat.add_sub_cancel_left];exact hgt.symm
   have hgA: ∀b∈gr,AB r b.aQ.toNat b:=fun b hb=>hA b (List.mem_of_mem_drop (hgp.subset hb));have hgal:gr.length≤1000000:=(by omega);have M:=fun c (H:aj) (hH:0<H.length)=>yP (c:=c) (H:=H) hS hW hF gr hgal hgA hH;obtain⟨m,hm⟩: ∃m,cj r s gr [] s 0=m:=⟨_,rfl⟩;have hbad:=wN (r:=r) (s:=s) (g:=gr) (tk:=[]) (nx:=s) (i:=0);have hgood:=qk (r:=r) (s:=s) (g:=gr) (p:=[]) (tk:=[]) (nx:=s) (i:=0) (fun x=>by simp) ⟨fun a ha=>by simp at ha,by simp⟩ rfl hgA;have hrng:=Cb (r:=r) (s:=s) (g:=gr) (tk:=[]) (nx:=s) (i:=0);rw [hm]at M hbad hgood hrng;rw [ed]at h1 h2;unfold bM at h1 h2;simp only [hgr,hm]at h1 h2;have L1:=fun Q=>PE (r:=r) (s:=s) g ai hal i hia (V l) (fun f2=>by rw [hV];exact hcl1 _ _ _ _) Q (ai.length-i) i (by omega);rw [ed,ha,hgr]at L1;simp only [hV,yf]at L1;have hc0:=hcl0;obtain⟨e,hee⟩: ∃e,i+gr.length=e:=⟨_,rfl⟩;rw [hee]at L1 hsl hgl;have hle: ¬(e:Int)<(i:Int):=(by omega);have hle2:i≤e:=(by omega);have hmin:min e ai.length=e:=(by omega);have hrl: ∀x:ak,x.row.length=9:=fun _=>rfl;obtain⟨x1,x2,x3⟩:=m;simp only at hbad hgood hrng h1 h2 M;have hw:=cU (x:=(i:Int)+x2) (by omega) (by omega);apply ax;conv=>arg 4;whnf
   simp [hia,hV,yf];refine L1 _ ?_;clear L1;simp only [bT,pF];simp only [aU]at M;by_cases he:x3=0
   ·subst he;obtain⟨hG,hx1⟩:=hgood rfl;have hS1:gz r x1:=(by rw [hx1];exact hG.snd hS);have hF1:=kT hS hS1 hF;simp only [ne_eq,not_true_eq_false,if_false]at h1 h2;have edr:(a::ai.drop (i+1)).drop gr.length=ai.drop (i+gr.length):=(by rw [←ed,List.drop_drop]);rw [edr,hee]at h1 h2;have ih':=ih e x1 (l++[x1]) (by omega) hgl (by simp;omega) hS1 hF1 (fun h=>by rw [List.append_assoc];exact h1 h) (fun h s'=>by rw [List.append_assoc];exact h2 h s');have SE:=fun c f1 f0=>hsee l x1 c f1 f0 (by omega) hS1 hF1;simp only [aU]at SE;simp only [yf,bT,pF]at ih';simp [hV,hle,hle2,hgl,hmin,hsl,hrl,M,SE,aI,hcl0];exact ih'
   ·have hx1:=hbad he;have he':(x3 !=0)=true:=(by simpa using he);simp only [ne_eq,he,not_false_eq_true,if_true]at h2;have h2':=h2 trivial s;simp only [bT,List.append_nil]at h2';simp only [hx1]at M;simp [hV,hle,hle2,hgl,hmin,hsl,hrl,M,he',aI,hw];exact h2'
  ·have e:ai.drop i=[]:=List.drop_of_length_le (by omega);rw [e]at h1;apply ax;conv=>arg 4;whnf
   simp [bM]at h1;simp [hia,hV,yf];simpa [yf]using h1
end
section
variable {c:Nat} {H:aj}
structure See (r:aC)(g:GV)(V:List az→aj)(LV:Nat):Prop where
 len: ∀l,(V l).length=LV
 pos:0<LV
 can:canon g=g
 ID: ∀H,dr H g=(g,H)
 cl: ∀(fs:List Fr) l n,LV-1≤n→clean (fs++V l) n g=g
 see: ∀(fs:List Fr) l s' c,fs≠[]→l.length≤1000001→gz r s'→Full s'→ez KC (aG KC) g [.pure (.agg (aU r s'))] c (fs++V l)=some (.pure (.tuple []),fs++V (l++[s']))
theorem An {r:aC}(hW:WB r){g:GV}{V:List az→aj}{LV:Nat}(hg:See r g V LV)(ai:List ak)(hal:ai.length≤1000000)(hA: ∀a∈ai,AB r a.aQ.toNat a){s:az}(hS:gz r s)(hF:Full s):
  bF KC (aG KC) 93 [.pure (.agg (aU r s)), .pure (.slice (ai.map ak.row)),g] c (V [])=
   some (.pure (.tuple [.agg (aU r (bM r ai.length s ai 0).2.1), .int .i64 (bM r ai.length s ai 0).2.2.1, .int .i64 (bM r ai.length s ai 0).2.2.2]),V (s::(bM r ai.length s ai 0).1)):=by
 have hV:=hg.len;refine aM (aH KC au Tryz.func93 rfl rfl WR (by simp) (by rw [hV];exact hg.pos) ?_);have hc:=hg.can;have S1:=fun(f0:Fr) c=>hg.see [f0] [] s c (by simp) (by simp) hS hF;simp only [List.cons_append,List.nil_append]at S1;have L1:=fun Q=>J2 hW g ai hal hA V LV hV hg.pos (fun f1 f0 l=>hg.cl [f1,f0] l LV (by omega)) (fun f2 f1 f0 l=>hg.cl [f2,f1,f0] l (LV+1) (by omega)) (fun l s' c f1 f0 hl h1 h2=>hg.see [f1,f0] l s' c (by simp) hl h1 h2) Q ai.length 0 s [s] (by omega) (by omega) (by simp) hS hF;simp only [List.drop_zero]at L1;simp only [yf,bT,pF,aU]at L1 S1⊢;simp [hV,hc,S1];simp at L1;refine L1 _ (fun h=> ?_) (fun h s'=> ?_)
 ·have hat: ∀k i s ai,(bM r k s ai i).2.2.2=0→(bM r k s ai i).2.2.1= -1:=by
   intro k
   induction k with
   |zero=>intro i s ai h;rfl
   |succ k ih=>
    intro i s ai h
    cases ai with
    |nil=>rfl
    |cons a rest=>
     unfold bM at h⊢;simp only at h⊢;split at h
     ·rename_i h1;exact absurd h h1
     ·rename_i h1;rw [if_neg h1];exact ih _ _ _ h
  have e1:=hat _ _ _ _ h;simp [hV,aI];rw [ae (by simp)];simp [h,e1]
 ·simp [hV,aI];rw [ae (by simp)];simp
noncomputable def du (r:aC):List az×az×Int×Int:=
 let q:=bM r r.ai.length (ay r) r.ai 0
 (ay r::q.1,q.2.1,if q.2.2.2=0∧kU r q.2.1=false then ((r.ai.length:Int),11)else q.2.2)
theorem jD {r:aC}: ∀(k:Nat) (s:az) (ai:List ak) (i:Nat),gz r s→(∀a∈ai,AB r a.aQ.toNat a)→gz r (bM r k s ai i).2.1∧ ∀s'∈(bM r k s ai i).1,gz r s'
 |0,s,_,_,hS,_=>⟨hS,fun _ h=>by simp [bM]at h⟩
 |_+1,s,[],_,hS,_=>⟨hS,fun _ h=>by simp [bM]at h⟩
 |k+1,s,a::rest,i,hS,hA=>by
  unfold bM;simp only;split
  ·exact⟨hS,fun _ h=>by simp at h⟩
  ·rename_i h;have h':(cj r s ((a::rest).takeWhile (a8 a)) [] s 0).2.2=0:=(by simpa using h);have hgA: ∀b∈(a::rest).takeWhile (a8 a),AB r b.aQ.toNat b:=fun b hb=>hA b ((List.takeWhile_prefix _).subset hb);obtain⟨hG,e⟩:=qk (r:=r) (s:=s) (p:=[]) (tk:=[]) (nx:=s) (i:=0) (fun x=>by simp) ⟨fun a ha=>by simp at ha,by simp⟩ rfl hgA h';have hS1:gz r (cj r s ((a::rest).takeWhile (a8 a)) [] s 0).1:=(by rw [e];exact hG.snd hS);have:=jD k _ ((a::rest).drop ((a::rest).takeWhile (a8 a)).length) (i+((a::rest).takeWhile (a8 a)).length) hS1 (fun b hb=>hA b (List.mem_of_mem_drop hb));refine⟨this.1,fun s' hs'=> ?_⟩;rcases List.mem_cons.1 hs' with rfl|hs'
   ·exact hS1
   ·exact this.2 s' hs'
theorem See.up {r:aC}{g:GV}{V:List az→aj}{LV:Nat}(h:See r g V LV)(F:Fr):See r g (fun l=>F::V l) (LV+1) where
 len:=fun l=>by simp [h.len]
 pos:=by omega
 can:=h.can
 ID:=h.ID
 cl:=fun fs l n hn=>by
  have:=h.cl (fs++[F]) l n (by omega);simpa using this
 see:=fun fs l s' c hf hl h1 h2=>by
  have:=h.see (fs++[F]) l s' c (by simp) hl h1 h2;simpa using this
theorem gZ {K:Ctx}{rec:Rec}{f:FuncId}{args:List GV}(h1:K.xS f=false)(h2:K.Be f=false)(h3:K.ID f=true):aL K rec f args c H=bF K rec f (bu H args).1 c (bu H args).2:=by
 unfold aL;simp [h1,h2,h3]
theorem qM {K:Ctx}{rec:Rec}{f:FuncId}{a b:List GV}(h:a.map canon=b.map canon):bF K rec f a c H=bF K rec f b c H:=by
 have hl:a.length=b.length:=(by have:=congrArg List.length h;simpa using this);unfold bF;rw [h,hl]
theorem Ao {r:aC}(hW:WB r)(hS:gz r (ay r))(hp0:r.ah≠[])(hal:r.ai.length≤1000000)(hA: ∀a∈r.ai,AB r a.aQ.toNat a){g:GV}{V:List az→aj}{LV:Nat}(hg:See r g V LV):
  bF KC (aG KC) 58 [.pure (.agg r.row),g] c (V [])=
   some (.pure (.tuple [.agg (aU r (du r).2.1), .int .i64 (du r).2.2.1, .int .i64 (du r).2.2.2]),V (du r).1):=by
 have hV:=hg.len;have hF:Full (ay r):=⟨by simpa [ay]using hp0,by simpa [ay]using hp0,by simp [ay];exact hW.pl,by simp [ay];exact hW.pl,by simp [ay];exact hW.tl⟩;refine aM (aH KC au Tryz.func58 rfl rfl Wm (by simp) (by rw [hV];exact hg.pos) ?_);have C:=fun F=>tW (c:=12) (H:=F::V []) r hW.pl hW.tl (by simp);have fz: ∀H,bu H [.pure (.agg (aU r (ay r))), .pure (.slice (r.ai.map ak.row)),g]=([.pure (.agg (aU r (ay r))), .pure (.slice (r.ai.map ak.row)),g],H):=fun H=>by simp [bu,hg.ID]
 have R2: ∀F:Fr,aL KC (aG KC) 93 [.pure (.agg (aU r (ay r))), .pure (.slice (r.ai.map ak.row)),g] 16 (F::V [])=
   some (.pure (.tuple [.agg (aU r (bM r r.ai.length (ay r) r.ai 0).2.1), .int .i64 (bM r r.ai.length (ay r) r.ai 0).2.2.1, .int .i64 (bM r r.ai.length (ay r) r.ai 0).2.2.2]),F::V (ay r::(bM r r.ai.length (ay r) r.ai 0).1)):=fun F=>by
  rw [gZ rfl rfl rfl,fz];exact An (c:=16) hW (hg.up F) r.ai hal hA hS hF
 have hc:=hg.can;obtain⟨q,hq⟩: ∃q,bM r r.ai.length (ay r) r.ai 0=q:=⟨_,rfl⟩;have ha:du r=(ay r::q.1,q.2.1,if q.2.2.2=0∧kU r q.2.1=false then ((r.ai.length:Int),11)else q.2.2):=(by unfold du;simp only [hq]);rw [hq]at R2;rw [ha];have hSq:=jD r.ai.length (ay r) r.ai 0 hS hA;rw [hq]at hSq;obtain⟨l,s,bc,e⟩:=q;simp only at hSq R2⊢;have OR:=fun c (H:aj) (hH:0<H.length)=>wO (c:=c) (H:=H) r s hW.tl (by rw [hSq.1.hl];exact hW.pl) hSq.1.tl hH;rw [cI]at C⊢;simp only [aU]at C R2 OR⊢;by_cases he:e=0
 ·subst he
  cases ho:kU r s with
  |true=>
   rw [ho]at OR;simp [C,R2,OR,hV,hc,aI];rw [ae (by simp)];simp
  |false=>
   rw [ho]at OR;simp [C,R2,OR,hV,hc,aI];rw [ae (by simp)];simp
 ·have he':(e==0)=false:=(by simpa using he);simp [C,R2,hV,hc,he,he',aI];rw [ae (by simp)];simp
end
def nT (l:List ak)(x:ak):List ak:=(l.reverse.dropWhile fun y=>decide (x.bc<y.bc)).reverse++x::(l.reverse.takeWhile fun y=>decide (x.bc<y.bc)).reverse
def cS (l:List ak):List ak:=l.foldl nT []
theorem lJ {A B:List ak}{x:ak}(hB: ∀b∈B,x.bc<b.bc)(hA: ∀a,A.getLast? =some a→ ¬x.bc<a.bc):nT (A++B) x=A++x::B:=by
 unfold nT;rw [List.reverse_append];have hB': ∀b∈B.reverse,(fun y:ak=>decide (x.bc<y.bc)) b=true:=fun b hb=>(by simpa using hB b (List.mem_reverse.1 hb));rw [List.dropWhile_append_of_pos hB',List.takeWhile_append_of_pos hB'];have hd:A.reverse.dropWhile (fun y=>decide (x.bc<y.bc))=A.reverse∧A.reverse.takeWhile (fun y=>decide (x.bc<y.bc))=[]:=by
  cases h:A.reverse with
  |nil=>exact⟨rfl,rfl⟩
  |cons a r=>
   have:A.getLast? =some a:=(by rw [←List.head?_reverse,h];rfl);have:=hA a this;simp [List.dropWhile_cons,List.takeWhile_cons,this]
 rw [hd.1,hd.2];simp
theorem wP (l:List ak)(x:ak): ∃A B,l=A++B∧nT l x=A++x::B∧(∀b∈B,x.bc<b.bc)∧(∀a,A.getLast? =some a→ ¬x.bc<a.bc):=by
 refine⟨(l.reverse.dropWhile fun y=>decide (x.bc<y.bc)).reverse,(l.reverse.takeWhile fun y=>decide (x.bc<y.bc)).reverse, ?_,rfl,fun b hb=> ?_,fun a ha=> ?_⟩
 ·rw [←List.reverse_append,List.takeWhile_append_dropWhile,List.reverse_reverse]
 ·have h: ∀(l:List ak) (b:ak),b∈l.takeWhile (fun y=>decide (x.bc<y.bc))→x.bc<b.bc:=fun l b=>by
   induction l with
   |nil=>intro h;simp at h
   |cons y l ih=>
    intro h;rw [List.takeWhile_cons]at h;split at h
    ·rename_i hy;rcases List.mem_cons.1 h with rfl|h
     ·simpa using hy
     ·exact ih h
    ·cases h
  exact h _ _ (List.mem_reverse.1 hb)
 ·rw [List.getLast?_reverse]at ha;have:=List.head?_dropWhile_not (fun y:ak=>decide (x.bc<y.bc)) l.reverse;rw [ha]at this;simpa using this
theorem Hs (l:List ak)(x:ak):List.Perm (nT l x) (x::l):=by
 obtain⟨A,B,e1,e2,_,_⟩:=wP l x;rw [e2,e1];exact List.perm_middle
theorem wQ: ∀(l a:List ak),List.Perm (l.foldl nT a) (a++l)
 | [],a=>by simp
 |x::l,a=>by
  rw [List.foldl_cons];exact(wQ l (nT a x)).trans (((Hs a x).append_right l).trans (by simpa using(List.perm_middle (l₁:=a) (l₂:=l) (a:=x)).symm))
theorem wR (l:List ak):List.Perm (cS l) l:=by unfold cS;simpa using wQ l []
theorem iJ (l:List ak):(cS l).length=l.length:=(wR l).length_eq
theorem J3 {l:List ak}{x:ak}(h: ∀a∈l,a.bc≤x.bc):nT l x=l++[x]:=by
 have:=lJ (A:=l) (B:=[]) (x:=x) (by simp) (fun a ha=>by have:=h a (List.mem_of_getLast? ha);omega);simpa using this
theorem PF {l:List ak}{x:ak}(h:l.Pairwise fun a b=>a.bc≤b.bc):(nT l x).Pairwise fun a b=>a.bc≤b.bc:=by
 obtain⟨A,B,e1,e2,hB,hA⟩:=wP l x;rw [e2];rw [e1,List.pairwise_append]at h;obtain⟨h1,h2,h3⟩:=h;rw [List.pairwise_append];have hx: ∀a∈A,a.bc≤x.bc:=fun a ha=>by
  cases hl:A.getLast? with
  |none=>rw [List.getLast?_eq_none_iff]at hl;subst hl;cases ha
  |some z=>
   have hz:=hA z hl;obtain⟨A',rfl⟩:=List.getLast?_eq_some_iff.1 hl;rw [List.mem_append,List.mem_singleton]at ha;rcases ha with ha|rfl
   ·have:=(List.pairwise_append.1 h1).2.2 a ha z (by simp);omega
   ·omega
 refine⟨h1,List.pairwise_cons.2 ⟨fun b hb=>by have:=hB b hb;omega,h2⟩,fun a ha b hb=> ?_⟩;rcases List.mem_cons.1 hb with rfl|hb
 ·exact hx a ha
 ·exact h3 a ha b hb
theorem Cc: ∀(l a:List ak),(a.Pairwise fun a b=>a.bc≤b.bc)→((l.foldl nT a).Pairwise fun a b=>a.bc≤b.bc)
 | [],a,h=>h
 |x::l,a,h=>by rw [List.foldl_cons];exact Cc l _ (PF h)
theorem J4 (l:List ak):(cS l).Pairwise fun a b=>a.bc≤b.bc:=Cc l [] List.Pairwise.nil
theorem sF: ∀(l a:List ak),((a++l).Pairwise fun a b=>a.bc≤b.bc)→l.foldl nT a=a++l
 | [],a,h=>by simp
 |x::l,a,h=>by
  rw [List.foldl_cons,J3 (fun y hy=>(List.pairwise_append.1 h).2.2 y hy x (by simp)),sF l (a++[x]) (by simpa using h)];simp
theorem nV {l:List ak}(h:l.Pairwise fun a b=>a.bc≤b.bc):cS l=l:=by unfold cS;simpa using sF l [] (by simpa using h)
theorem Ap {a:ak}{ai:List ak}:(a::ai).takeWhile (a8 a)=a::ai.takeWhile (a8 a):=by
 rw [List.takeWhile_cons];simp [a8]
theorem fG {r:aC}{k:Nat}{s:az}{a:ak}{rest:List ak}{i:Nat}:bM r (k+1) s (a::rest) i=
  (if (cj r s ((a::rest).takeWhile (a8 a)) [] s 0).2.2≠0 then ([],s,(i:Int)+(cj r s ((a::rest).takeWhile (a8 a)) [] s 0).2.1,(cj r s ((a::rest).takeWhile (a8 a)) [] s 0).2.2)
  else ((cj r s ((a::rest).takeWhile (a8 a)) [] s 0).1::(bM r k (cj r s ((a::rest).takeWhile (a8 a)) [] s 0).1 ((a::rest).drop ((a::rest).takeWhile (a8 a)).length) (i+((a::rest).takeWhile (a8 a)).length)).1,
   (bM r k (cj r s ((a::rest).takeWhile (a8 a)) [] s 0).1 ((a::rest).drop ((a::rest).takeWhile (a8 a)).length) (i+((a::rest).takeWhile (a8 a)).length)).2)):=by
 rw [bM]
theorem pG {r:aC}{k:Nat}{s:az}{i:Nat}:bM r k s [] i=([],s,-1,0):=by
 cases k<;>rfl
theorem sG {a:ak}{rest:List ak}{k:Nat}(h:(a::rest).length≤k+1):((a::rest).drop ((a::rest).takeWhile (a8 a)).length).length≤k:=by
 rw [Ap,List.length_drop];simp only [List.length_cons]at h⊢;omega
theorem tX {r:aC}: ∀(k1 k2:Nat) (s:az) (ai:List ak) (i:Nat),ai.length≤k1→ai.length≤k2→bM r k1 s ai i=bM r k2 s ai i
 |k1,k2,s,[],i,_,_=>by rw [pG,pG]
 |0,_,s,a::rest,i,h,_=>by simp at h
 |_+1,0,s,a::rest,i,_,h=>by simp at h
 |k1+1,k2+1,s,a::rest,i,h1,h2=>by
  rw [fG,fG,tX k1 k2 _ _ _ (sG h1) (sG h2)]
theorem qN {f:ak→Bool}{q:List ak}(hq: ∀b∈q,f b=false): ∀p:List ak,(p++q).takeWhile f=p.takeWhile f
 | []=>by
  cases q with
  |nil=>rfl
  |cons b q=>simp [List.takeWhile_cons,hq b (by simp)]
 |a::p=>by
  rw [List.cons_append,List.takeWhile_cons,List.takeWhile_cons,qN hq p]
theorem mh {r:aC}: ∀(k1 k k2:Nat) (s:az) (p q:List ak) (i:Nat),p.length≤k1→(p++q).length≤k→q.length≤k2→(∀a∈p,∀b∈q,a.bc≠b.bc)→
  bM r k s (p++q) i=if (bM r k1 s p i).2.2.2≠0 then bM r k1 s p i else ((bM r k1 s p i).1++(bM r k2 (bM r k1 s p i).2.1 q (i+p.length)).1,(bM r k2 (bM r k1 s p i).2.1 q (i+p.length)).2)
 |k1,k,k2,s,[],q,i,_,h2,h3,_=>by
  rw [pG];simp only [ne_eq,not_true_eq_false,if_false,List.nil_append,List.length_nil,Nat.add_zero]at h2⊢;rw [tX k k2 s q i (by simpa using h2) h3]
 |0,k,k2,s,a::p,q,i,h1,_,_,_=>by simp at h1
 |k1+1,0,k2,s,a::p,q,i,_,h2,_,_=>by simp at h2
 |k1+1,k+1,k2,s,a::p,q,i,h1,h2,h3,hne=>by
  have hq: ∀b∈q,a8 a b=false:=fun b hb=>by
   have:=hne a (by simp) b hb;simpa [a8]using fun e=>this e.symm
  have et:(a::(p++q)).takeWhile (a8 a)=(a::p).takeWhile (a8 a):=qN hq (a::p);have hle:((a::p).takeWhile (a8 a)).length≤(a::p).length:=(List.takeWhile_sublist _).length_le;have ed:(a::(p++q)).drop ((a::p).takeWhile (a8 a)).length=(a::p).drop ((a::p).takeWhile (a8 a)).length++q:=by
   rw [←List.cons_append,List.drop_append_of_le_length hle]
  rw [List.cons_append,fG,et,ed,fG];generalize hm:cj r s ((a::p).takeWhile (a8 a)) [] s 0=m;by_cases he:m.2.2≠0
  ·simp only [if_pos he]
  ·rw [if_neg he,if_neg he];have hl:((a::p).drop ((a::p).takeWhile (a8 a)).length++q).length≤k:=by
    rw [←ed,←et];exact sG (by simpa using h2)
   rw [mh k1 k k2 m.1 _ q (i+((a::p).takeWhile (a8 a)).length) (sG h1) hl h3 (fun x hx=>hne x (List.mem_of_mem_drop hx))];have ei:i+((a::p).takeWhile (a8 a)).length+((a::p).drop ((a::p).takeWhile (a8 a)).length).length=i+(a::p).length:=by
    rw [List.length_drop];omega
   rw [ei];generalize bM r k1 m.1 ((a::p).drop ((a::p).takeWhile (a8 a)).length) (i+((a::p).takeWhile (a8 a)).length)=x;by_cases hx:x.2.2.2≠0
   ·simp only [if_pos hx]
   ·simp only [if_neg hx,List.cons_append]
theorem Cd {r:aC}: ∀(k:Nat) (s:az) (ai:List ak) (i j:Nat),(bM r k s ai i).1=(bM r k s ai j).1∧(bM r k s ai i).2.1=(bM r k s ai j).2.1∧(bM r k s ai i).2.2.2=(bM r k s ai j).2.2.2
 |0,s,_,_,_=>⟨rfl,rfl,rfl⟩
 |_+1,s,[],_,_=>⟨rfl,rfl,rfl⟩
 |k+1,s,a::rest,i,j=>by
  rw [fG,fG];split
  ·exact⟨rfl,rfl,rfl⟩
  ·obtain⟨e1,e2,e3⟩:=Cd (r:=r) k (cj r s ((a::rest).takeWhile (a8 a)) [] s 0).1 ((a::rest).drop ((a::rest).takeWhile (a8 a)).length) (i+((a::rest).takeWhile (a8 a)).length) (j+((a::rest).takeWhile (a8 a)).length);exact⟨by rw [e1],e2,e3⟩
def kr (l:List ak)(a:ak):List ak:=l.takeWhile fun b=>decide (b.bc<a.bc)
def jE (l:List ak):Nat→Nat
 |0=>0
 |n+1=>jE l n+if (l.getD (n+1) cA).bc≠(l.getD n cA).bc then 1 else 0
theorem tY {l:List ak}{x:Int}: ∀(n:Nat),(∀j,j≤n→(l.getD j cA).bc=x)→jE l n=0
 |0,_=>rfl
 |n+1,h=>by
  unfold jE;rw [tY n (fun j hj=>h j (by omega)),h (n+1) (Nat.le_refl _),h n (by omega)];simp
theorem yQ {g l:List ak}(hg:g≠[])(hl:l≠[])(hs: ∀j,j<g.length→(g.getD j cA).bc=(g.getD 0 cA).bc)(hd:(l.getD 0 cA).bc≠(g.getD 0 cA).bc): ∀n,jE (g++l) (g.length+n)=1+jE l n
 |0=>by
  obtain⟨m,hm⟩: ∃m,g.length=m+1:=⟨g.length-1,by have:=List.length_pos_iff.2 hg;omega⟩;have e1: ∀j,j<g.length→(g++l).getD j cA=g.getD j cA:=fun j hj=>by
   simp [List.getD_eq_getElem?_getD,List.getElem?_append_left hj]
  have e2:(g++l).getD (m+1) cA=l.getD 0 cA:=by
   simp [List.getD_eq_getElem?_getD,List.getElem?_append_right (show g.length≤m+1 by omega),hm]
  rw [Nat.add_zero,hm];unfold jE;rw [tY m (x:=(g.getD 0 cA).bc) (fun j hj=>by rw [e1 j (by omega)];exact hs j (by omega)),e2,e1 m (by omega),hs m (by omega),if_pos hd]
 |n+1=>by
  have e1: ∀j,(g++l).getD (g.length+j) cA=l.getD j cA:=fun j=>by
   simp [List.getD_eq_getElem?_getD,List.getElem?_append_right (show g.length≤g.length+j by omega)]
  rw [←Nat.add_assoc];unfold jE;rw [yQ hg hl hs hd n,Nat.add_assoc g.length n 1,e1,e1];omega
theorem wT {r:aC}{k:Nat}{s:az}{a:ak}{p:List ak}{i:Nat}(hs: ∀b∈p,b.bc=a.bc)(hk:(a::p).length≤k)(he:(cj r s (a::p) [] s 0).2.2=0):bM r k s (a::p) i=([(cj r s (a::p) [] s 0).1],(cj r s (a::p) [] s 0).1,-1,0):=by
 obtain⟨m,rfl⟩: ∃m,k=m+1:=⟨k-1,by simp at hk;omega⟩;have et:(a::p).takeWhile (a8 a)=a::p:=by
  rw [Ap];congr 1;have: ∀b∈p,a8 a b=true:=fun b hb=>(by simp [a8,hs b hb]);simpa using List.takeWhile_append_of_pos (l₂:=[]) this
 rw [fG,et,if_neg (by simpa using he)];simp only [List.drop_length,pG]
theorem FG {r:aC}: ∀(k:Nat) (s:az) (ai:List ak) (i act:Nat) (h:act<ai.length),ai.length≤k→(ai.Pairwise fun a b=>a.bc≤b.bc)→(bM r k s ai i).2.2.2=0→
  (s::(bM r k s ai i).1)[jE ai act]? =some (bM r k s (kr ai ai[act]) i).2.1∧(bM r k s (kr ai ai[act]) i).2.2.2=0
 |0,s,ai,i,act,h,hk,_,_=>by omega
 |k+1,s,[],i,act,h,_,_,_=>by simp at h
 |k+1,s,a::rest,i,act,h,hk,hp,he=>by
  obtain⟨g,hg⟩: ∃g,(a::rest).takeWhile (a8 a)=g:=⟨_,rfl⟩;obtain⟨g',hg'⟩: ∃g',rest.takeWhile (a8 a)=g':=⟨_,rfl⟩;have hgc:g=a::g':=(by rw [←hg,Ap,hg']);have hsm: ∀b∈g',b.bc=a.bc:=fun b hb=>by
   rw [←hg']at hb;have h1: ∀(l:List ak) (b:ak),b∈l.takeWhile (a8 a)→b.bc=a.bc:=fun l b=>by
    induction l with
    |nil=>intro h;simp at h
    |cons y l ih=>
     intro h;rw [List.takeWhile_cons]at h;split at h
     ·rename_i hy;rcases List.mem_cons.1 h with rfl|h
      ·simpa [a8]using hy
      ·exact ih h
     ·cases h
   exact h1 _ _ hb
  have hsg: ∀b∈g,b.bc=a.bc:=fun b hb=>by
   rw [hgc]at hb;rcases List.mem_cons.1 hb with rfl|hb
   ·rfl
   ·exact hsm b hb
  obtain⟨l,hl⟩: ∃l,(a::rest).drop g.length=l:=⟨_,rfl⟩;have hsplit:a::rest=g++l:=by
   rw [←hl,←hg];have:=List.takeWhile_append_dropWhile (p:=a8 a) (l:=a::rest);conv=>lhs;rw [←this]
   congr 1;conv=>rhs;arg 2;rw [←this]
   rw [List.drop_left]
  have hgp:g≠[]:=(by rw [hgc];simp);rw [fG,hg,hl]at he⊢;obtain⟨m,hm⟩: ∃m,cj r s g [] s 0=m:=⟨_,rfl⟩;rw [hm]at he⊢;by_cases hme:m.2.2≠0
  ·rw [if_pos hme]at he;exact absurd he hme
  ·rw [if_neg hme]at he⊢;have hme':m.2.2=0:=(by simpa using hme);by_cases ha:act<g.length
   ·have e1:(a::rest)[act].bc=a.bc:=by
     have:(a::rest)[act]=g[act]:=(by simp only [hsplit];exact List.getElem_append_left ha);rw [this];exact hsg _ (List.getElem_mem ha)
    have e2:kr (a::rest) (a::rest)[act]=[]:=by
     unfold kr;rw [List.takeWhile_cons,e1];simp
    have e3:jE (a::rest) act=0:=tY act (x:=a.bc) (fun j hj=>by
     have:(a::rest).getD j cA=g[j]'(by omega):=by
      rw [hsplit,List.getD_eq_getElem?_getD,List.getElem?_append_left (by omega),List.getElem?_eq_getElem (by omega)];rfl
     rw [this];exact hsg _ (List.getElem_mem _))
    rw [e2,e3,pG];exact⟨rfl,rfl⟩
   ·obtain⟨n,rfl⟩: ∃n,act=g.length+n:=⟨act-g.length,by omega⟩;have hll:n<l.length:=by
     have:=congrArg List.length hsplit;rw [List.length_append]at this;omega
    have hln:l≠[]:=fun e=>(by rw [e]at hll;simp at hll);have eg:(a::rest)[g.length+n]=l[n]:=(by simp only [hsplit];rw [List.getElem_append_right (by omega)];congr 1;omega);have hpl:l.Pairwise fun a b=>a.bc≤b.bc:=(by rw [hsplit,List.pairwise_append]at hp;exact hp.2.1);have hlk:l.length≤k:=(by rw [←hl,←hg];exact sG hk);have hd: ∀b∈l,a.bc<b.bc:=by
     cases hlc:l with
     |nil=>exact absurd hlc hln
     |cons b l'=>
      have hb:a8 a b=false:=by
       have h1:(a::rest).dropWhile (a8 a)=l:=by
        have:=List.takeWhile_append_dropWhile (p:=a8 a) (l:=a::rest);rw [hg]at this;conv at this=>rhs;rw [hsplit]
        exact List.append_cancel_left this
       have:=List.head?_dropWhile_not (a8 a) (a::rest);rw [h1,hlc]at this;simpa using this
      have hne:b.bc≠a.bc:=(by simpa [a8]using hb);have hle:a.bc≤b.bc:=by
       rw [hsplit,List.pairwise_append]at hp;exact hp.2.2 a (by rw [hgc];simp) b (by rw [hlc];simp)
      intro x hx;rcases List.mem_cons.1 hx with rfl|hx
      ·omega
      ·rw [hlc]at hpl;have:=(List.pairwise_cons.1 hpl).1 x hx;omega
    have eb:kr (a::rest) (a::rest)[g.length+n]=g++kr l l[n]:=by
     rw [eg];unfold kr;rw [hsplit];have: ∀b∈g,(fun b:ak=>decide (b.bc<l[n].bc)) b=true:=fun b hb=>by
      have h1:=hsg b hb;have h2:=hd l[n] (List.getElem_mem hll);simp only [decide_eq_true_eq];omega
     exact List.takeWhile_append_of_pos this
    have ec:jE (a::rest) (g.length+n)=1+jE l n:=by
     rw [hsplit];refine yQ hgp hln (fun j hj=> ?_) ?_ n
     ·have e0:(g.getD 0 cA).bc=a.bc:=(by rw [hgc];rfl);rw [List.getD_eq_getElem?_getD,List.getElem?_eq_getElem hj,e0];exact hsg (g[j]) (List.getElem_mem hj)
     ·rw [hgc];simp only [List.getD_cons_zero]
      have:=hd (l.getD 0 cA) (by
       cases l with
       |nil=>exact absurd rfl hln
       |cons b l'=>simp)
      omega
    obtain⟨i1,i2⟩:=FG k m.1 l (i+g.length) n hll hlk hpl he;have hgr: ∀kk,g.length≤kk→bM r kk s g i=([m.1],m.1,-1,0):=fun kk hkk=>by
     rw [hgc]at hkk hm⊢;have:=wT (r:=r) (k:=kk) (s:=s) (i:=i) hsm hkk (by rw [hm];exact hme');rw [this,hm]
    have hbl:(kr l l[n]).length≤l.length:=(List.takeWhile_sublist _).length_le;have hgl:g.length≤k+1:=by
     have:=congrArg List.length hsplit;rw [List.length_append]at this;omega
    have ea:=mh (r:=r) (k+1) (k+1) k s g (kr l l[n]) i hgl (by
     rw [List.length_append];have:=congrArg List.length hsplit;rw [List.length_append]at this;omega) (by omega) (fun x hx y hy=>by
      have h1:=hsg x hx;have h2:=hd y ((List.takeWhile_sublist _).subset hy);omega)
    rw [hgr (k+1) hgl]at ea;simp only [ne_eq,not_true_eq_false,if_false]at ea;rw [eb,ec,ea];refine⟨?_,i2⟩;rw [Nat.add_comm 1,List.getElem?_cons_succ];exact i1
theorem wU (f:ak→Bool): ∀l:List ak,l.takeWhile f=l.take (l.takeWhile f).length
 | []=>rfl
 |a::l=>by
  rw [List.takeWhile_cons];split
  ·rw [List.length_cons,List.take_succ_cons,←wU f l]
  ·rfl
theorem pH (f:ak→Bool): ∀(l:List ak) (j:Nat) (hj:j<l.length),j<(l.takeWhile f).length→f l[j]=true
 | [],j,hj,_=>by simp at hj
 |a::l,j,hj,h=>by
  rw [List.takeWhile_cons]at h;split at h
  ·rename_i ha
   cases j with
   |zero=>exact ha
   |succ j=>exact pH f l j (by simpa using hj) (by simpa using h)
  ·simp at h
theorem mW (f:ak→Bool): ∀(l:List ak) (hj:(l.takeWhile f).length<l.length),f (l[(l.takeWhile f).length]'hj)=false
 | [],hj=>by simp at hj
 |a::l,hj=>by
  by_cases ha:f a=true
  ·have e:((a::l).takeWhile f).length=(l.takeWhile f).length+1:=(by rw [List.takeWhile_cons,if_pos ha];rfl);have:=mW f l (by rw [e]at hj;simpa using hj);simp only [e,List.getElem_cons_succ];exact this
  ·have e:((a::l).takeWhile f).length=0:=(by rw [List.takeWhile_cons,if_neg ha];rfl);simp only [e,List.getElem_cons_zero];simpa using ha
theorem T3 {l:List ak}(hp:l.Pairwise fun a b=>a.bc≤b.bc){i j:Nat}(hi:i<l.length)(hj:j<l.length)(h:i≤j):l[i].bc≤l[j].bc:=by
 rcases Nat.lt_or_eq_of_le h with h|h
 ·exact List.pairwise_iff_getElem.1 hp i j hi hj h
 ·subst h;exact Int.le_refl _
theorem wV {l:List ak}{act:Nat}(h:act<l.length)(hp:l.Pairwise fun a b=>a.bc≤b.bc):
  (kr l l[act]).length≤act∧(∀j (hj:j<l.length),j<(kr l l[act]).length→l[j].bc<l[act].bc)∧ ∀j (hj:j<l.length),(kr l l[act]).length≤j→j≤act→l[j].bc=l[act].bc:=by
 have h1: ∀j (hj:j<l.length),j<(kr l l[act]).length→l[j].bc<l[act].bc:=fun j hj hm=>by
  have:=pH (fun b:ak=>decide (b.bc<l[act].bc)) l j hj hm;simpa using this
 have h2:(kr l l[act]).length≤act:=by
  rcases Nat.lt_or_ge act (kr l l[act]).length with hm|hm
  ·have:=h1 act h hm;omega
  ·exact hm
 refine⟨h2,h1,fun j hj hm hja=> ?_⟩;have hml:(kr l l[act]).length<l.length:=(by omega);have h3:=mW (fun b:ak=>decide (b.bc<l[act].bc)) l hml;have h3': ¬(l[(kr l l[act]).length]'hml).bc<l[act].bc:=of_decide_eq_false h3;have h4:=T3 hp hml hj hm;have h5:=T3 hp hj h hja;omega
noncomputable def yg (r:aC)(a:ak):az:=(bM r (kr r.ai a).length (ay r) (kr r.ai a) 0).2.1
def late (aQ:Int)(a:ak):ak:=if a.aQ=aQ then {a with bc:=a.bc+1}else a
noncomputable def fQ (r:aC)(act:Nat)(kind:Int):List ak:=
 if kind=2 then (if bW r (yg r (r.ai.getD act cA)) (r.ai.getD act cA).aQ.toNat {(r.ai.getD act cA)with hand:=1-(r.ai.getD act cA).hand}=true
  then r.ai.set act {(r.ai.getD act cA)with hand:=1-(r.ai.getD act cA).hand}else r.ai.eraseIdx act)
 else if kind=3 then cS (r.ai.take act++(r.ai.drop act).map (late (r.ai.getD act cA).aQ))
 else r.ai.eraseIdx act
def fa (r:aC)(act:Nat)(kind:Int):Int:=(r.ai.getD act cA).bc+if kind=3 then 1 else 0
def cf (m:Int)(l:List ak):List ak:=l.takeWhile fun a=>decide (a.bc≤m)
def behind (m:Int)(l:List ak):List ak:=l.dropWhile fun a=>decide (a.bc≤m)
theorem js (m:Int)(l:List ak):cf m l++behind m l=l:=List.takeWhile_append_dropWhile
def cT (m:Int):List ak→List ak
 | []=> []
 |a::l=>{a with bc:=m+1}::cT (m+1) l
def iY (m:Int)(ai mend:List ak):List ak:=cf m ai++cT m mend++(behind m ai).map fun a=>{a with bc:=a.bc+mend.length}
noncomputable def qv:aC→az→Nat→ak→Bool:=mI fun r s w a=>bW r s w a && !gI r.seen [s.ah.getD w 0,if a.kind=1 then a.cell else s.ah.getD w 0]
theorem sH (r:aC)(s:az)(w:Nat)(a:ak):qv r s w a=(bW r s w a && !gI r.seen [s.ah.getD w 0,if a.kind=1 then a.cell else s.ah.getD w 0]):=by rw [qv,cO]
noncomputable def ql (r:aC)(w:Nat)(all:List ak)(fin:az→List ak→Bool):Nat→az→List ak→Option (List ak)
 |0,s,l=>if fin s l=true then some l else none
 |n+1,s,l=>all.findSome? fun a=>if qv r s w a=true then ql r w all fin n (cX s w a) (l++[a])else none
theorem lK {α β:Type}{f g:α→Option β}: ∀{l:List α},(∀a∈l,f a=g a)→l.findSome? f=l.findSome? g
 | [],_=>rfl
 |a::l,h=>by
  rw [List.findSome?_cons,List.findSome?_cons,h a (by simp),lK (l:=l) fun b hb=>h b (by simp [hb])]
theorem yR {r:aC}{w:Nat}{all:List ak}{fin fin':az→List ak→Bool}(P:Nat→az→List ak→Prop)(hP: ∀n s l a,P (n+1) s l→a∈all→qv r s w a=true→P n (cX s w a) (l++[a]))(hf: ∀s l,P 0 s l→fin s l=fin' s l):
  ∀n s l,P n s l→ql r w all fin n s l=ql r w all fin' n s l
 |0,s,l,h=>by unfold ql;rw [hf s l h]
 |n+1,s,l,h=>by
  unfold ql;refine lK fun a ha=> ?_;by_cases hu:qv r s w a=true
  ·rw [if_pos hu,if_pos hu];exact yR P hP hf n _ _ (hP n s l a h ha hu)
  ·rw [if_neg hu,if_neg hu]
theorem FH {r:aC}{w:Nat}{all:List ak}{fin:az→List ak→Bool}: ∀n s l m,ql r w all fin n s l=some m→m.length=l.length+n∧(∃t,m=l++t∧ ∀a∈t,a∈all)
 |0,s,l,m,h=>by
  unfold ql at h;split at h
  ·cases h;exact⟨rfl,[],by simp,by simp⟩
  ·cases h
 |n+1,s,l,m,h=>by
  unfold ql at h;obtain⟨a,ha,h⟩:=List.exists_of_findSome?_eq_some h;split at h
  ·obtain⟨e,t,e2,ht⟩:=FH n _ _ m h;refine⟨by rw [e,List.length_append,List.length_singleton];omega,a::t,by rw [e2];simp,fun b hb=> ?_⟩;rcases List.mem_cons.1 hb with rfl|hb
   ·exact ha
   ·exact ht b hb
  ·cases h
theorem Aq {s:az}{w:Nat}{a:ak}{t:Int}:dW s w (setAt a t)=dW s w a:=rfl
theorem Ce {r:aC}{f:ak→ak}(h: ∀a,∃t,f a=setAt a t){s:az}: ∀(g:List ak) (tk:List (Int×Int)) (nx:az) (i:Nat),cj r s (g.map f) tk nx i=cj r s g tk nx i
 | [],_,_,_=>rfl
 |a::g,tk,nx,i=>by
  obtain⟨t,e⟩:=h a;have ew:(setAt a t).aQ=a.aQ:=rfl;rw [List.map_cons,e];unfold cj;rw [ew,nW,Aq,yS,Ce h g]
theorem Cf {r:aC}{f:ak→ak}(h: ∀a,∃t,f a=setAt a t)(h2: ∀a b,(f a).bc=(f b).bc↔a.bc=b.bc): ∀(k:Nat) (s:az) (ai:List ak) (i:Nat),bM r k s (ai.map f) i=bM r k s ai i
 |0,s,ai,i=>by
  cases ai<;>rfl
 |_+1,s,[],i=>rfl
 |k+1,s,a::rest,i=>by
  have e:(a8 (f a) ∘ f)=a8 a:=by
   funext b
   have:=h2 b a;unfold a8;by_cases hb:b.bc=a.bc
   ·simp [hb,this.2 hb]
   ·have h3: ¬(f b).bc=(f a).bc:=fun e=>hb (this.1 e);show ((f b).bc==(f a).bc)=(b.bc==a.bc)
    rw [show ((f b).bc==(f a).bc)=false from by simpa using h3,show (b.bc==a.bc)=false from by simpa using hb]
  have et:((a::rest).map f).takeWhile (a8 (f a))=((a::rest).takeWhile (a8 a)).map f:=by
   rw [List.takeWhile_map,e]
  rw [List.map_cons,fG,fG,←List.map_cons,et,Ce h,List.length_map,←List.map_drop,Cf h h2 k]
theorem yT {r:aC}{x:List ak}{s:az}: ∀(g:List ak) (tk:List (Int×Int)) (nx:az) (i:Nat),cj {r with ai:=x} s g tk nx i=cj r s g tk nx i
 | [],_,_,_=>rfl
 |a::g,tk,nx,i=>by
  unfold cj;rw [tZ,yT g]
theorem yU {r:aC}{x:List ak}: ∀(k:Nat) (s:az) (ai:List ak) (i:Nat),bM {r with ai:=x} k s ai i=bM r k s ai i
 |0,s,ai,i=>by
  cases ai<;>rfl
 |_+1,s,[],i=>rfl
 |k+1,s,a::rest,i=>by
  rw [fG,fG,yT,yU k]
theorem wW {r:aC}{s:az}{a:ak}(hp:bW r s a.aQ.toNat a=true):cj r s [a] [] s 0=(cX s a.aQ.toNat a,0,0):=by
 unfold cj;rw [if_neg (by simp [hp]),if_pos (by simp)];rfl
theorem J5 {r:aC}{s:az}{a:ak}{k i:Nat}(hp:bW r s a.aQ.toNat a=true):bM r (k+1) s [a] i=([cX s a.aQ.toNat a],cX s a.aQ.toNat a,-1,0):=by
 rw [wT (by simp) (by simp) (by rw [wW hp]),wW hp]
theorem ju {f:ak→Bool}: ∀{l:List ak} {x:ak},x∈l.takeWhile f→f x=true∧x∈l
 | [],_,h=>by simp at h
 |a::l,x,h=>by
  rw [List.takeWhile_cons]at h;split at h
  ·rename_i ha;rcases List.mem_cons.1 h with rfl|h
   ·exact⟨ha,by simp⟩
   ·exact⟨(ju h).1,by simp [(ju h).2]⟩
  ·cases h
theorem FJ {m:Int}{l:List ak}{x:ak}(h:x∈cf m l):x.bc≤m:=by simpa using(ju h).1
theorem yV {m:Int}: ∀{l:List ak} (hp:l.Pairwise fun a b=>a.bc≤b.bc) {x:ak},x∈behind m l→m<x.bc
 | [],_,x,h=>by simp [behind]at h
 |a::l,hp,x,h=>by
  unfold behind at h;rw [List.dropWhile_cons]at h;split at h
  ·exact yV (List.pairwise_cons.1 hp).2 h
  ·rename_i ha;have ha': ¬a.bc≤m:=(by simpa using ha);rcases List.mem_cons.1 h with rfl|h
   ·omega
   ·have:=(List.pairwise_cons.1 hp).1 x h;omega
theorem ua: ∀{l:List ak} {m:Int} {x:ak},x∈cT m l→m<x.bc∧x.bc≤m+l.length
 | [],_,_,h=>by simp [cT]at h
 |a::l,m,x,h=>by
  unfold cT at h;rcases List.mem_cons.1 h with rfl|h
  ·simp only [List.length_cons];omega
  ·have:=ua h;simp only [List.length_cons];omega
theorem yW: ∀{l:List ak} {m:Int} {x:ak},x∈cT m l→ ∃a∈l,∃t,x=setAt a t
 | [],_,_,h=>by simp [cT]at h
 |a::l,m,x,h=>by
  unfold cT at h;rcases List.mem_cons.1 h with rfl|h
  ·exact⟨a,by simp,_,rfl⟩
  ·obtain⟨b,hb,t,e⟩:=yW h;exact⟨b,by simp [hb],t,e⟩
theorem uJ (a:ak): ∀(l:List ak) (m:Int),cT m (l++[a])=cT m l++[setAt a (m+1+l.length)]
 | [],m=>by simp [cT,setAt]
 |b::l,m=>by
  have:=uJ a l (m+1);simp only [List.cons_append,cT,this,List.length_cons];rw [show m+1+1+(l.length:Int)=m+1+((l.length+1:Nat):Int)by omega]
theorem wX: ∀(l:List ak) (m:Int),(cT m l).length=l.length
 | [],m=>rfl
 |b::l,m=>by simp [cT,wX l]
structure Rch (r:aC)(w:Nat)(U:List ak)(m:Int)(s:az)(l:List ak):Prop where
 snd:gz r s
 full:Full s
 ab: ∀a∈l,AB r w a
 run:(bM r (U++cT m l).length (ay r) (U++cT m l) 0).2.2.2=0
 fin:(bM r (U++cT m l).length (ay r) (U++cT m l) 0).2.1=s
theorem Rch.next {r:aC}{w:Nat}{U:List ak}{m:Int}{s:az}{l:List ak}{a:ak}(h:Rch r w U m s l)(hU: ∀x∈U,x.bc≤m)(ha:AB r w a)(hp:bW r s w a=true):Rch r w U m (cX s w a) (l++[a]):=by
 have hS:=h.snd.TY ha hp;have ew:(setAt a (m+1+l.length)).aQ.toNat=w:=by show a.aQ.toNat=w;rw [ha.aQ];rfl
 have E:bM r (U++cT m (l++[a])).length (ay r) (U++cT m (l++[a])) 0=
   ((bM r (U++cT m l).length (ay r) (U++cT m l) 0).1++[cX s w a],cX s w a,-1,0):=by
  rw [uJ,←List.append_assoc];rw [mh (U++cT m l).length _ 1 (ay r) (U++cT m l) [setAt a (m+1+l.length)] 0 (Nat.le_refl _) (Nat.le_refl _) (by simp) (fun x hx y hy=>by
   have ey:y.bc=m+1+l.length:=(by rw [List.mem_singleton.1 hy];rfl);rcases List.mem_append.1 hx with hx|hx
   ·have:=hU x hx;omega
   ·have:=ua hx;omega),if_neg (by simpa using h.run),h.fin,J5 (by rw [ew,nW];exact hp),ew,yS]
 refine⟨hS,kT h.snd hS h.full,fun x hx=> ?_,by rw [E],by rw [E]⟩;rcases List.mem_append.1 hx with hx|hx
 ·exact h.ab x hx
 ·rw [List.mem_singleton.1 hx];exact ha
noncomputable def qz (r:aC)(B:List ak)(s:az)(l:List ak):Bool:=decide ((bM r B.length s B 0).2.2.2=0) && kU r (bM r B.length s B 0).2.1
noncomputable def oL (r:aC)(m:Int)(ai:List ak)(s:az)(l:List ak):Bool:=decide ((du {r with ai:=iY m ai l}).2.2.2=0)
theorem Ht {r:aC}{x:List ak}{s:az}:kU {r with ai:=x} s=kU r s:=by rw [sI,sI]
theorem Ya {r:aC}{w:Nat}{ai:List ak}{m:Int}{s:az}{l:List ak}(hp:ai.Pairwise fun a b=>a.bc≤b.bc)(h:Rch r w (cf m ai) m s l):oL r m ai s l=qz r (behind m ai) s l:=by
 have sh: ∀a:ak,∃t,({a with bc:=a.bc+l.length}:ak)=setAt a t:=fun a=>⟨_,rfl⟩;have E:bM r (iY m ai l).length (ay r) (iY m ai l) 0=((bM r (cf m ai++cT m l).length (ay r) (cf m ai++cT m l) 0).1++(bM r (behind m ai).length s (behind m ai) (0+(cf m ai++cT m l).length)).1,(bM r (behind m ai).length s (behind m ai) (0+(cf m ai++cT m l).length)).2):=by
  unfold iY;rw [mh (cf m ai++cT m l).length _ (behind m ai).length (ay r) (cf m ai++cT m l) _ 0 (Nat.le_refl _) (Nat.le_refl _) (by simp) (fun x hx y hy=>by
   obtain⟨b,hb,rfl⟩:=List.mem_map.1 hy;have h1:=yV hp hb;simp only;rcases List.mem_append.1 hx with hx|hx
   ·have:=FJ hx;omega
   ·have:=ua hx;omega),if_neg (by simpa using h.run),h.fin,Cf sh (fun a b=>by simp only;omega)]
 obtain⟨_,i2,i3⟩:=Cd (r:=r) (behind m ai).length s (behind m ai) (0+(cf m ai++cT m l).length) 0;have e1:(bM r (iY m ai l).length (ay r) (iY m ai l) 0).2.2.2=(bM r (behind m ai).length s (behind m ai) 0).2.2.2:=(by rw [E];exact i3);have e2:(bM r (iY m ai l).length (ay r) (iY m ai l) 0).2.1=(bM r (behind m ai).length s (behind m ai) 0).2.1:=(by rw [E];exact i2);unfold qz oL du;simp only [yU,Ht];have ef:ay {r with ai:=iY m ai l}=ay r:=rfl;rw [ef,e1,e2];by_cases h0:(bM r (behind m ai).length s (behind m ai) 0).2.2.2=0
 ·cases h1:kU r (bM r (behind m ai).length s (behind m ai) 0).2.1 with
  |true=>simp [h0,e1]
  |false=>simp [h0,e1]
 ·simp [h0,e1]
section
variable {c:Nat} {H:aj}
theorem ub (r:aC)(G:aj)(hG:0<G.length):See r (.pure (.fn 59)) (fun _=>G) G.length where
 len:=fun _=>rfl
 pos:=hG
 can:=rfl
 ID:=fun _=>rfl
 cl:=fun fs l n _=>by simp
 see:=fun fs l s' c hf _ _ _=>by
  rw [vW];refine aM (aW KC au Tryz.func59 rfl rfl Wn rfl rfl rfl (by simp) (by simp;omega) ?_);unfold aU;simp;rw [ae (by simp)];simp
end
section
variable {c:Nat} {H:aj}
structure sJ (r:aC):Prop where
 w:WB r
 snd:gz r (ay r)
 p0:r.ah≠[]
 al:r.ai.length≤1000000
 ab: ∀a∈r.ai,AB r a.aQ.toNat a
 sh:eL r
structure D7 (r:aC):Prop extends sJ r where
 ck:cv r=0
theorem PH {r:aC}(h:D7 r)(hH:0<H.length):
  bF KC (aG KC) 15 [.pure (.agg r.row)] c H=
   some (.pure (.tuple (if (du r).2.2.2=0 then [.agg (du r).2.1.row, .int .i64 (-1), .int .i64 0]else [.agg [.slice [], .slice [], .slice []], .int .i64 (du r).2.2.1, .int .i64 (du r).2.2.2])),H):=by
 refine aM (aH KC au Tryz.func15 rfl rfl IZ (by simp) hH ?_);have C:=fun c (H:aj) (hH:0<H.length)=>Cg (c:=c) (H:=H) r h.sh.s h.sh.l h.sh.p h.sh.t h.sh.a hH;rw [h.ck]at C;have A:=fun(F:Fr)=>Ao (c:=15) h.w h.snd h.p0 h.al h.ab (ub r (F::H) (by simp));have A2: ∀F:Fr,aL KC (aG KC) 58 [.pure (.agg r.row), .pure (.fn 59)] 15 (F::H)=some (.pure (.tuple [.agg (aU r (du r).2.1), .int .i64 (du r).2.2.1, .int .i64 (du r).2.2.2]),F::H):=fun F=>by
  rw [gZ rfl rfl rfl];have:bu (F::H) [.pure (.agg r.row), .pure (.fn 59)]=([.pure (.agg r.row), .pure (.fn 59)],F::H):=rfl;rw [this];exact A F
 generalize du r=q at A2⊢;obtain⟨l,s,bc,e⟩:=q;simp only [aU]at A2;rw [cI]at C A2⊢;unfold az.row;by_cases he:e=0
 ·subst he;simp [C,A2,aI];rw [ae (by simp)];simp
 ·have he':(e !=0)=true:=(by simpa using he);simp [C,A2,he,he',aI];rw [ae (by simp)];simp
end
section
variable {c:Nat} {H:aj}
def Ch:List PV:=[.int .i64 0, .int .i64 0, .int .i64 0, .int .i64 0, .int .i64 0, .int .i64 0, .int .i64 0, .int .i64 0, .int .i64 0]
theorem Hu {nm:Nm}{rows:List (List PV)}{v k N:Nat}(hN:rows.length=N)(hg:H.get nm=some (.arr 9 rows v false))(hv:v≤N)(hk:k<N)(hw: ∀r∈rows,r.length=9)(hn:N≤1000000)(hH:0<H.length):
  aL KC (aG KC) 109 [.aZ nm 9 N 0 N, .pure (.int .i64 k), .pure (.int .i64 (k+1))] c H=
   some (.aZ nm 9 N 0 (N-1),H.set nm (.arr 9 (rows.take k++rows.drop (k+1)++[Ch]) N false)):=by
 have l1:=aj.bP hg;have d1: ¬nm.1=H.length:=(by omega);have d2:nm.1≤H.length-1:=(by omega);have k1: ¬(k:Int)<0:=(by omega);have k2:(k:Int)<(k:Int)+1:=(by omega);have k3:(k:Int)+1≤N:=(by omega);have k4: ¬(k:Int)+1=0:=(by omega);have k5:((k:Int)==(k:Int)+1)=false:=by
  have: ¬(k:Int)=(k:Int)+1:=(by omega);simpa using this
 have k6: ¬(k:Int)+1<0:=(by omega);have k7:Int.toNat ((k:Int)+1)=k+1:=(by omega);have k8:k≤N:=(by omega);have k9:k+1≤N:=(by omega);have hb:N*72≤1099511627776:=(by omega);refine aM (br KC au Tryz.func109 rfl rfl NS rfl rfl rfl (by simp) hH ?_);have hdl:(rows.drop (k+1)).length=N-(k+1):=(by rw [List.length_drop,hN]);have hdw: ∀x∈rows.drop (k+1),x.length=9:=fun x hx=>hw x (List.mem_of_mem_drop hx);have hrl:List.replicate 1 Ch=[Ch]:=rfl;by_cases hl:N=k+1
 ·subst hl;have z0: ¬k+1≤k:=(by omega);have z1: ¬k+1=k:=(by omega);have z2:Int.toNat ((k:Int)+1)=k+1:=(by omega);have hd:rows.drop (k+1)=[]:=List.drop_of_length_le (by omega);have hd2:rows.drop k≠[]:=by
   intro e;have:=congrArg List.length e;rw [List.length_drop,hN]at this;simp at this
  simp [d1,d2,hg,hv,k1,k2,k3,k4,k5,k6,k7,k8,k9,hN,z0,z1,z2,hd,aI];rw [ae (by simp)];simp [d2,Ch]
 ·obtain⟨M,rfl⟩: ∃M,N=k+1+M:=⟨N-(k+1),by omega⟩;have hM:rows.drop (k+1)≠[]:=fun e=>by
   have:=congrArg List.length e;rw [List.length_drop,hN]at this;simp at this;omega
  have M0: ¬M=0:=(by omega);have eM:k+1+M-(k+1)=M:=(by omega);have tkd:List.take M (rows.drop (k+1))=rows.drop (k+1):=List.take_of_length_le (by omega);have nk: ¬k=k+1+M:=(by omega);have nk2: ¬k+M=k+1+M:=(by omega);have le1:k+M≤k+1+M:=(by omega);have le2: ¬k+1+M≤k+M:=(by omega);have le3: ¬k+1+M≤k+1:=(by omega);have e1:k+1+M-(k+M)=1:=(by omega);have z0: ¬(k:Int)+(M:Int)<0:=(by omega);have z1:Int.toNat ((k:Int)+(M:Int))=k+M:=(by omega);have z2:Int.toNat ((k:Int)+1+(M:Int))=k+1+M:=(by omega);have z3: ¬(k:Int)+1+(M:Int)<0:=(by omega);have z4:k+M+1=k+1+M:=(by omega);have z5:k+1+M-1=k+M:=(by omega);have tk2:List.take (k+M) (rows.take k++(rows.drop (k+1)++rows.drop (k+M)))=rows.take k++rows.drop (k+1):=by
   rw [←List.append_assoc];exact List.take_left' (by rw [List.length_append,List.length_take,List.length_drop,hN];omega)
  have dr2:List.drop (k+1+M) (rows.take k++(rows.drop (k+1)++rows.drop (k+M)))=[]:=List.drop_of_length_le (by
   simp only [List.length_append,List.length_take,List.length_drop,hN];omega)
  have ml:min k (k+1+M)+(M+(k+1+M-(k+M)))=k+1+M:=(by omega);have nle: ¬k+1+M≤k:=(by omega);have z6:(k:Int)+1≤(k:Int)+1+(M:Int):=(by omega);have nl2: ¬k+1=k+1+M:=(by omega);have gs: ∀x,(H.set nm x).get nm=some x:=fun x=>aj.eF x l1;have z7:k+1+M=k+(M+1):=(by omega);have hdP:(∀x,x∈rows.drop (k+1)→x.length=9)=True:=eq_true hdw;simp [d1,d2,hg,hv,k1,k2,k3,k4,k5,k6,k7,k8,k9,hN,hl,hdl,eM,hdP,gs,aj.set_set,tkd,nk,nk2,le1,le2,le3,e1,z0,z1,z2,z3,z4,z5,z6,M0,hM,aI,tk2,dr2,nle,nl2,ml];rw [if_pos z7,gS,ae (by simp)];simp [d2,Ch]
end
section
variable {c:Nat} {H:aj}
def D8 (a b:Int):Int:=if a<b then-1 else if b<a then 1 else 0
theorem Yb {x:Int}(hH:0<H.length):aL KC (aG KC) 129 [.pure (.int .i64 x)] c H=some (.pure (.bool false),H):=by
 refine aM (aW KC au Tryz.func129 rfl rfl Od rfl rfl rfl (by simp) hH ?_);simp [ae]
theorem D9 {x y:Int}(hH:0<H.length):aL KC (aG KC) 108 [.pure (.int .i64 x), .pure (.int .i64 y)] c H=some (.pure (.int .i64 (D8 x y)),H):=by
 refine aM (aW KC au Tryz.func108 rfl rfl NR rfl rfl rfl (by simp) hH ?_);have N:=fun c x (H:aj) (hH:0<H.length)=>Yb (c:=c) (x:=x) (H:=H) hH;unfold D8;by_cases h1:x<y
 ·simp [N,h1,ae]
 ·by_cases h2:y<x
  ·simp [N,h1,h2,ae]
  ·simp [N,h1,h2,ae]
theorem PI {x y:ak}(hH:0<H.length):aL KC (aG KC) 107 [.pure (.agg x.row), .pure (.agg y.row)] c H=some (.pure (.int .i64 (D8 x.bc y.bc)),H):=by
 refine aM (aW KC au Tryz.func107 rfl rfl NQ rfl rfl rfl (by simp) hH ?_);have N:=fun c (H:aj) (hH:0<H.length)=>D9 (c:=c) (x:=x.bc) (y:=y.bc) (H:=H) hH;simp [N,ak.row,ae]
def kV (P:List (List PV))(A:List ak)(x:ak)(B:List ak)(Q:List (List PV)):List (List PV):=P++A.map ak.row++x.row::(B.map ak.row++Q)
theorem sK {P:List (List PV)}{A:List ak}{x:ak}{B:List ak}{Q:List (List PV)}:(kV P A x B Q).length=P.length+A.length+1+B.length+Q.length:=by
 unfold kV;simp;omega
theorem J6 {P:List (List PV)}{A:List ak}{x:ak}{B:List ak}{Q:List (List PV)}:(kV P A x B Q)[P.length+A.length]? =some x.row:=by
 unfold kV;rw [List.getElem?_append_right (by simp)];simp
theorem Hv {P:List (List PV)}{A:List ak}{y x:ak}{B:List ak}{Q:List (List PV)}:(kV P (A++[y]) x B Q)[P.length+A.length]? =some y.row:=by
 unfold kV;rw [List.getElem?_append_left (by simp),List.getElem?_append_right (by simp)];simp
theorem Hw {P:List (List PV)}{A:List ak}{y x:ak}{B:List ak}{Q:List (List PV)}:((kV P (A++[y]) x B Q).set (P.length+A.length+1) y.row).set (P.length+A.length) x.row=kV P A x (y::B) Q:=by
 unfold kV;have e1:P++(A++[y]).map ak.row++x.row::(B.map ak.row++Q)=(P++A.map ak.row)++y.row::x.row::(B.map ak.row++Q):=(by simp);have l1:(P++A.map ak.row).length=P.length+A.length:=(by simp);rw [e1,←l1];rw [List.set_append_right _ _ (by omega),List.set_append_right _ _ (by omega)];simp
theorem Hz {nm:Nm}{P Q:List (List PV)}{N a':Nat}(x:ak)(i:Nat)(hn:N≤1000000)(hnm:nm.1<H.length)(b:Int)(Q':GX→bN→Prop): ∀(k:Nat) (A B:List ak) (v:Nat),A.length=k→P.length=a'→(kV P A x B Q).length=N→v≤N→(∀y∈B,x.bc<y.bc)→
  (∀v',v'≤N→Q' (.exit 2) ⟨[(0, .aZ nm 9 N 0 N),(1, .pure (.int .i64 a')),(2, .pure (.int .i64 b)),(3, .pure (.fn 107)),(8, .pure (.int .i64 i))],[]::[]::H.set nm (.arr 9 (P++(nT (A++B) x).map ak.row++Q) v' false),53⟩)→
  fM KC au 151 (lp Tryz.f151 1) [0,1,2,3,8,9] [0,1,2,3,8] Q' [(0, .aZ nm 9 N 0 N),(1, .pure (.int .i64 a')),(2, .pure (.int .i64 b)),(3, .pure (.fn 107)),(8, .pure (.int .i64 i)),(9, .pure (.int .i64 ((P.length+A.length:Nat):Int)))] ([]::[]::H.set nm (.arr 9 (kV P A x B Q) v false)) 53:=by
 intro k;have l0: ∀x,(H.set nm x).length=H.length:=fun x=>aj.length_set _ _ _;have d1: ¬nm.1=H.length:=(by omega);have d2: ¬nm.1=H.length+1:=(by omega);have d3: ¬nm.1=H.length+1+1:=(by omega);have gs: ∀x,(H.set nm x).get nm=some x:=fun x=>aj.eF x hnm;have C:=fun c (x y:ak) (H:aj) (hH:0<H.length)=>PI (c:=c) (x:=x) (y:=y) (H:=H) hH
 induction k with
 |zero=>
  intro A B v hA hP hl hv hB h1;obtain rfl:A=[]:=List.length_eq_zero_iff.1 hA;have e:nT ([]++B) x=[]++x::B:=lJ hB (fun a h=>by simp at h);have h1':=h1 v hv;rw [e]at h1';apply ax;conv=>arg 4;whnf
  have d4:nm.1≤H.length+1:=(by omega);simp [hP,d4];simpa [kV]using h1'
 |succ k ih=>
  intro A B v hA hP hl hv hB h1;obtain⟨A',y,rfl⟩: ∃A' y,A=A'++[y]:=by
   have hne:A≠[]:=fun e=>(by rw [e]at hA;simp at hA);exact⟨A.dropLast,A.getLast hne,(List.dropLast_concat_getLast hne).symm⟩
  have hA':A'.length=k:=(by simpa using hA);have d4:nm.1≤H.length+1:=(by omega);obtain⟨j,hj⟩: ∃j,P.length+A'.length=j:=⟨_,rfl⟩;have hj1:P.length+(A'++[y]).length=j+1:=(by simp;omega);have hjN:j+1<N:=(by rw [←hl,sK];simp;omega);have g1:(kV P (A'++[y]) x B Q)[j+1]? =some x.row:=(by rw [←hj1];exact J6);have g0:(kV P (A'++[y]) x B Q)[j]? =some y.row:=(by rw [←hj];exact Hv);have gsw:((kV P (A'++[y]) x B Q).set (j+1) y.row).set j x.row=kV P A' x (y::B) Q:=(by rw [←hj];exact Hw);have hl2:(kV P A' x (y::B) Q).length=N:=(by rw [←hl,sK,sK];simp;omega);have gt1:(a':Int)<(j:Int)+1:=(by omega);have w1:=cU (x:=(j:Int)) (by omega) (by omega);have w2:IntKind.i64.wrap ((j:Int)+1-1)=j:=by rw [show (j:Int)+1-1=j by omega];exact w1
  have jn0: ¬(j:Int)+1<0:=(by omega);have jt:Int.toNat ((j:Int)+1)=j+1:=(by omega);have jl:(j:Int)+1<N:=(by omega);have jl0:(j:Int)<N:=(by omega);have jN0:j<N:=(by omega);have l9: ∀z:ak,z.row.length=9:=fun _=>rfl;have t9: ∀z:ak,List.take 9 z.row=z.row:=fun _=>rfl;have dr9: ∀z:ak,List.drop 9 z.row=[]:=fun _=>rfl;have lp9: ∀z:ak,∀H:aj,bL H (z.row.map .pure)=(z.row,H):=fun z H=>rfl;rw [hj1];by_cases hlt:x.bc<y.bc
  ·have ih':=ih A' (y::B) N hA' hP hl2 (Nat.le_refl _) (fun b hb=>by
    rcases List.mem_cons.1 hb with rfl|hb
    ·exact hlt
    ·exact hB b hb) (fun v' hv'=>by
    have:=h1 v' hv';rw [show A'++[y]++B=A'++y::B by simp]at this
    exact this)
   rw [hj]at ih';generalize kV P (A'++[y]) x B Q=R at g1 g0 gsw hl⊢;have G1: ∀h,R[j+1]'h=x.row:=fun h=>(by rw [List.getElem?_eq_getElem h]at g1;simpa using g1);have G0: ∀h,R[j]'h=y.row:=fun h=>(by rw [List.getElem?_eq_getElem h]at g0;simpa using g0);have hc:D8 x.bc y.bc<0:=(by unfold D8;rw [if_pos hlt];omega);apply ax;conv=>arg 4;whnf
   simp [hP,d1,d2,d3,d4,gs,l0,hl,hv,gt1,jn0,jt,jl,jl0,jN0,hjN,w1,w2,G1,G0,l9,t9,C,hc,aI,aj.set_set,lp9,dr9,gsw];exact ih'
  ·have h1':=h1 v hv;rw [lJ hB (fun a ha=>by
    have:a=y:=(by simpa using ha.symm);rw [this];exact hlt)]at h1'
   have hc: ¬D8 x.bc y.bc<0:=by
    unfold D8;rw [if_neg hlt];split<;>omega
   have e:P++((A'++[y])++x::B).map ak.row++Q=kV P (A'++[y]) x B Q:=(by simp [kV]);rw [e]at h1';generalize kV P (A'++[y]) x B Q=R at g1 g0 gsw hl h1'⊢;have G1: ∀h,R[j+1]'h=x.row:=fun h=>(by rw [List.getElem?_eq_getElem h]at g1;simpa using g1);have G0: ∀h,R[j]'h=y.row:=fun h=>(by rw [List.getElem?_eq_getElem h]at g0;simpa using g0);apply ax;conv=>arg 4;whnf
   simp [hP,d1,d2,d3,d4,gs,l0,hl,hv,gt1,jn0,jt,jl,jl0,jN0,hjN,w1,w2,G1,G0,l9,t9,C,hc];exact h1'
theorem wY (l:List ak)(x:ak):cS (l++[x])=nT (cS l) x:=by
 unfold cS;rw [List.foldl_append];rfl
theorem HA {nm:Nm} {P Q:List (List PV)} {N a':Nat} (X:List ak) (hn:N≤1000000) (hnm:nm.1<H.length) (hP:P.length=a') (hl:P.length+X.length+Q.length=N) (Q':GX→bN→Prop)
  (h1: ∀v',v'≤N→Q' (.exit 0) ⟨[],[]::H.set nm (.arr 9 (P++(cS X).map ak.row++Q) v' false),53⟩): ∀(k i v:Nat),i+k=X.length→v≤N→
  fM KC au 151 (lp Tryz.f151 0) [0,1,2,3,8] [] Q' [(0, .aZ nm 9 N 0 N),(1, .pure (.int .i64 a')),(2, .pure (.int .i64 ((a'+X.length:Nat):Int))),(3, .pure (.fn 107)),(8, .pure (.int .i64 ((a'+i:Nat):Int)))] ([]::H.set nm (.arr 9 (P++(cS (X.take i)).map ak.row++((X.drop i).map ak.row++Q)) v false)) 53:=by
 intro k
 induction k with
 |zero=>
  intro i v hi hv;have hx:X.take i=X:=List.take_of_length_le (by omega);have hd:X.drop i=[]:=List.drop_of_length_le (by omega);have h1':=h1 v hv;have e:i=X.length:=(by omega);rw [hx,hd,e];apply ax;conv=>arg 4;whnf
  simp;simpa using h1'
 |succ k ih=>
  intro i v hi hv;have hia:i<X.length:=(by omega);have hlt:((a'+i:Nat):Int)<((a'+X.length:Nat):Int):=(by omega);have aZ:X.drop i=X[i]::X.drop (i+1):=List.drop_eq_getElem_cons hia;have htk:X.take (i+1)=X.take i++[X[i]]:=(by rw [List.take_add_one,List.getElem?_eq_getElem hia];rfl);have e:P++(cS (X.take i)).map ak.row++((X.drop i).map ak.row++Q)=kV P (cS (X.take i)) X[i] [] ((X.drop (i+1)).map ak.row++Q):=by
   rw [aZ];simp only [kV,List.map_cons,List.map_nil,List.nil_append,List.cons_append,List.append_assoc]
  have hsl:(cS (X.take i)).length=i:=(by rw [iJ,List.length_take];omega);have hw:=cU (x:=((a'+i+1:Nat):Int)) (by omega) (by omega);have ih':=fun v' hv'=>ih (i+1) v' (by omega) hv';have L:=fun Q'=>Hz (H:=H) (nm:=nm) (P:=P) (Q:=(X.drop (i+1)).map ak.row++Q) (N:=N) (a':=a') X[i] (a'+i) hn hnm ((a'+X.length:Nat):Int) Q' i (cS (X.take i)) [] v hsl hP (by rw [sK,hsl];simp;omega) hv (by simp);rw [e];apply ax;conv=>arg 4;whnf
  obtain⟨R,hR⟩: ∃R,kV P (cS (X.take i)) X[i] [] ((X.drop (i+1)).map ak.row++Q)=R:=⟨_,rfl⟩;rw [hR]at L⊢;have e2: ∀v',aj.set H nm (.arr 9 (P++(nT (cS (X.take i)++[]) X[i]).map ak.row++((X.drop (i+1)).map ak.row++Q)) v' false)=H.set nm (.arr 9 (P++(cS (X.take (i+1))).map ak.row++((X.drop (i+1)).map ak.row++Q)) v' false):=fun v'=>by
   rw [htk,wY,List.append_nil]
  have d4:nm.1≤H.length:=(by omega);have hsl2:((P.length+(cS (X.take i)).length:Nat):Int)=(a':Int)+i:=(by rw [hP,hsl];simp);simp only [e2,hsl2]at L;obtain⟨T,hT⟩: ∃T:List (List PV),P++(cS (X.take (i+1))).map ak.row++((X.drop (i+1)).map ak.row++Q)=T:=⟨_,rfl⟩;rw [hT]at L ih';have hw':IntKind.i64.wrap ((a':Int)+i+1)=(a':Int)+i+1:=(by simpa using hw);simp at L;simp [hia];refine L _ fun v' hv'=> ?_;have i1:=ih' v' hv';have ec:((a'+(i+1):Nat):Int)=(a':Int)+i+1:=(by omega);rw [ec]at i1;simp [hw',d4];simpa using i1
end
section
variable {c:Nat} {H:aj}
theorem nX {nm:Nm}{P Q:List (List PV)}{N a' v:Nat}(X:List ak)(hn:N≤1000000)(hnm:nm.1<H.length)(hP:P.length=a')(hl:P.length+X.length+Q.length=N)(hv:v≤N):
  ∃v',v'≤N∧aL KC (aG KC) 151 [.aZ nm 9 N 0 N, .pure (.int .i64 a'), .pure (.int .i64 ((a'+X.length:Nat):Int)), .pure (.fn 107)] c (H.set nm (.arr 9 (P++X.map ak.row++Q) v false))=
   some (.pure (.tuple []),H.set nm (.arr 9 (P++(cS X).map ak.row++Q) v' false)):=by
 suffices hs:kW (aL KC (aG KC) 151 [.aZ nm 9 N 0 N, .pure (.int .i64 a'), .pure (.int .i64 ((a'+X.length:Nat):Int)), .pure (.fn 107)] c (H.set nm (.arr 9 (P++X.map ak.row++Q) v false))) (fun x=> ∃v',v'≤N∧x=(.pure (.tuple []),H.set nm (.arr 9 (P++(cS X).map ak.row++Q) v' false)))by
  obtain⟨x,hx,v',h1,h2⟩:=hs;exact⟨v',h1,by rw [hx,h2]⟩
 have hH:0<(H.set nm (.arr 9 (P++X.map ak.row++Q) v false)).length:=(by rw [aj.length_set];omega);refine br KC au Tryz.func151 rfl rfl OB rfl rfl rfl (by simp) hH ?_;by_cases hX:X=[]
 ·subst hX;have hw:=cU (x:=(a':Int)+1) (by omega) (by omega);have hlt: ¬(a':Int)+1<a':=(by omega);simp [hw];apply ax;conv=>arg 4;whnf
  simp [hlt,ae,aj.length_set];exact⟨v,hv,by simp [cS]⟩
 ·have hx1:1≤X.length:=List.length_pos_iff.2 hX;have hw:=cU (x:=(a':Int)+1) (by omega) (by omega);obtain⟨m,hm⟩: ∃m,1+m=X.length:=⟨X.length-1,by omega⟩;have e1:P++(cS (X.take 1)).map ak.row++((X.drop 1).map ak.row++Q)=P++X.map ak.row++Q:=by
   cases X with
   |nil=>exact absurd rfl hX
   |cons x X=>simp [cS,nT]
  have L:=fun Q' h1=>HA (H:=H) (nm:=nm) (P:=P) (Q:=Q) (N:=N) (a':=a') X hn hnm hP hl Q' h1 m 1 v hm hv;rw [e1]at L;have ec:((a'+1:Nat):Int)=(a':Int)+1:=(by omega);have ec2:((a'+X.length:Nat):Int)=(a':Int)+X.length:=(by omega);rw [ec,ec2]at L;rw [ec2];simp [hw];simp at L;refine L _ fun v' hv'=> ?_;simp [ae,aj.length_set];exact⟨v',hv',rfl⟩
theorem Ea {nm:Nm}{N v:Nat}(X:List ak)(hN:X.length=N)(hn:N≤20)(hnm:nm.1<H.length)(hv:v≤N):
  ∃v',v'≤N∧aL KC (aG KC) 128 [.aZ nm 9 N 0 N, .pure (.int .i64 N), .pure (.fn 107)] c (H.set nm (.arr 9 (X.map ak.row) v false))=
   some (.pure (.tuple []),H.set nm (.arr 9 ((cS X).map ak.row) v' false)):=by
 have hl: ∀b,(H.set nm b).length=H.length:=fun b=>aj.length_set _ _ _;have hH:0<(H.set nm (.arr 9 (X.map ak.row) v false)).length:=by rw [hl];omega
 suffices hs:kW (aL KC (aG KC) 128 [.aZ nm 9 N 0 N, .pure (.int .i64 N), .pure (.fn 107)] c (H.set nm (.arr 9 (X.map ak.row) v false))) (fun x=> ∃v',v'≤N∧x=(.pure (.tuple []),H.set nm (.arr 9 ((cS X).map ak.row) v' false)))by
  obtain⟨x,hx,v',h1,h2⟩:=hs;exact⟨v',h1,by rw [hx,h2]⟩
 have d1: ¬nm.1=H.length:=(by omega);have up: ∀f b,aj.set (f::H) nm b=f::H.set nm b:=fun f b=>by
  show (if nm.1=H.length then _ else _)=_
  rw [if_neg d1]
 have hlt: ¬(20:Int)<N:=(by omega);refine br KC au Tryz.func128 rfl rfl Oc rfl rfl rfl (by simp) hH ?_;have d2: ¬nm.1=H.length+1:=(by omega);have d4:nm.1≤H.length:=(by omega);have d5:nm.1≤H.length+1:=(by omega);by_cases h20:N=20
 ·obtain⟨v1,a1,b1⟩:=nX (c:=18) (H:=[]::[]::H) (nm:=nm) (P:=[]) (Q:=[]) (N:=N) (a':=0) (v:=v) X (by omega) (by simp;omega) rfl (by simpa using hN) hv;obtain⟨v2,a2,b2⟩:=nX (c:=27) (H:=[]::H) (nm:=nm) (P:=(cS X).map ak.row) (Q:=[]) (N:=N) (a':=N) (v:=v1) [] (by omega) (by simp;omega) (by rw [List.length_map,iJ,hN]) (by rw [List.length_map,iJ,hN];simp) a1;subst h20;simp [d1,d2,hN]at b1 b2;have es:cS ([]:List ak)=[]:=rfl;rw [es]at b2;simp at b2;have w40:IntKind.i64.wrap 40=40:=(by decide);simp;apply ax;conv=>arg 4;whnf
  simp [d1,d2,d4,d5,b1,w40];apply ax;conv=>arg 4;whnf
  simp [d1,d2,d4,d5,b2];apply ax;conv=>arg 4;whnf
  simp [ae,hl];exact⟨v2,a2,rfl⟩
 ·obtain⟨v2,a2,b2⟩:=nX (c:=27) (H:=[]::H) (nm:=nm) (P:=[]) (Q:=[]) (N:=N) (a':=0) (v:=v) X (by omega) (by simp;omega) rfl (by simpa using hN) hv;have hle: ¬(20:Int)≤N:=(by omega);simp [d1,hN]at b2;simp;apply ax;conv=>arg 4;whnf
  simp [hle,b2,d1,d4];apply ax;conv=>arg 4;whnf
  simp [hlt,ae,hl];exact⟨v2,a2,rfl⟩
theorem HB {nm:Nm}{N v:Nat}(X:List ak)(hN:X.length=N)(hn:N≤20)(hnm:nm.1<H.length)(hv:v≤N):
  ∃v',v'≤N∧aL KC (aG KC) 106 [.aZ nm 9 N 0 N, .pure (.fn 107)] c (H.set nm (.arr 9 (X.map ak.row) v false))=
   some (.pure (.tuple []),H.set nm (.arr 9 ((cS X).map ak.row) v' false)):=by
 have hl: ∀b,(H.set nm b).length=H.length:=fun b=>aj.length_set _ _ _;have hH:0<(H.set nm (.arr 9 (X.map ak.row) v false)).length:=(by rw [hl];omega);have d1: ¬nm.1=H.length:=(by omega);have d4:nm.1≤H.length:=(by omega);obtain⟨v2,a2,b2⟩:=Ea (c:=8) (H:=[]::H) (nm:=nm) (v:=v) X hN hn (by simp;omega) hv;refine⟨v2,a2,aM (br KC au Tryz.func106 rfl rfl NP rfl rfl rfl (by simp) hH ?_)⟩;simp [d1]at b2;simp [b2,d1,d4,ae,hl]
end
section
variable {c:Nat} {H:aj}
theorem J7 (r:aC) {act:Nat} (h:act<r.ai.length) (hp:r.ai.Pairwise fun a b=>a.bc≤b.bc) (hn:r.ai.length≤1000000) (Q:GX→bN→Prop)
  (h1:Q (.exit 0) ⟨[(2, .aA (H.length,2) 0),(4, .aA (H.length,4) 0),(5, .pure (.int .i64 ((kr r.ai r.ai[act]).length:Nat)))],[(2,aD r),(4,pF)]::H,42⟩): ∀(k n:Nat),n=(kr r.ai r.ai[act]).length+k→n≤act→
  fM KC au 104 (lp Tryz.f104 0) [1,2,4,5] [2,4,5] Q [(1, .pure (.int .i64 act)),(2, .aA (H.length,2) 0),(4, .aA (H.length,4) 0),(5, .pure (.int .i64 n))] ([(2,aD r),(4,pF)]::H) 42:=by
 obtain⟨f1,f2,f3⟩:=wV h hp;intro k
 induction k with
 |zero=>
  intro n hk hna;rw [Nat.add_zero]at hk;rw [←hk]at h1 f2
  cases n with
  |zero=>
   apply ax;conv=>arg 4;whnf
   simp [aD,pF];simpa [aD,pF]using h1
  |succ n=>
   have hlt:n<r.ai.length:=(by omega);have:=f2 n hlt (by omega);have hne:(r.ai[n].bc==r.ai[act].bc)=false:=by
    have: ¬r.ai[n].bc=r.ai[act].bc:=(by omega);simpa using this
   have gt:(0:Int)<(n:Int)+1:=(by omega);have w2:=cU (x:=(n:Int)) (by omega) (by omega);apply ax;conv=>arg 4;whnf
   simp [aD,pF,gt,w2,hlt,h,ak.row,hne];simpa [aD,pF]using h1
 |succ k ih=>
  intro n hk hna;obtain⟨n',rfl⟩: ∃n',n=n'+1:=⟨n-1,by omega⟩;have hlt:n'<r.ai.length:=(by omega);have:=f3 n' hlt (by omega) (by omega);have heq:(r.ai[n'].bc==r.ai[act].bc)=true:=(by simpa using this);have gt:(0:Int)<(n':Int)+1:=(by omega);have w2:=cU (x:=(n':Int)) (by omega) (by omega);have ih':=ih n' (by omega) (by omega);apply ax;conv=>arg 4;whnf
  simp [aD,pF,gt,w2,hlt,h,ak.row,heq];simpa [aD,pF]using ih'
theorem HC {r:aC}(hr:D7 r){act:Nat}(h:act<r.ai.length)(hp:r.ai.Pairwise fun a b=>a.bc≤b.bc)(hH:0<H.length):
  aL KC (aG KC) 104 [.pure (.agg r.row), .pure (.int .i64 act)] c H=some (.pure (.agg (aU r (yg r r.ai[act]))),H):=by
 refine aM (aW KC au Tryz.func104 rfl rfl NN rfl rfl rfl (by simp) hH ?_);obtain⟨f1,f2,f3⟩:=wV h hp;have C:=fun c (H:aj) (hH:0<H.length)=>tW (c:=c) (H:=H) r hr.w.pl hr.w.tl hH;have hF:Full (ay r):=⟨by simpa [ay]using hr.p0,by simpa [ay]using hr.p0,by simp [ay];exact hr.w.pl,by simp [ay];exact hr.w.pl,by simp [ay];exact hr.w.tl⟩;obtain⟨m,hm⟩: ∃m,(kr r.ai r.ai[act]).length=m:=⟨_,rfl⟩;have hbt:kr r.ai r.ai[act]=r.ai.take m:=(by rw [←hm];exact wU _ _);have hal:=hr.al;have R:=fun(F:Fr)=>An (c:=37) hr.w (ub r (F::H) (by simp)) (r.ai.take m) (by rw [List.length_take];omega) (fun a ha=>hr.ab a (List.mem_of_mem_take ha)) hr.snd hF;have hml:(r.ai.take m).length=m:=by rw [List.length_take];omega
 have R2: ∀F:Fr,∃y z,aL KC (aG KC) 93 [.pure (.agg (aU r (ay r))), .pure (.slice (List.take m (r.ai.map ak.row))), .pure (.fn 59)] 37 (F::H)=
   some (.pure (.tuple [.agg (aU r (yg r r.ai[act])), .int .i64 y, .int .i64 z]),F::H):=fun F=>by
  refine⟨(bM r (r.ai.take m).length (ay r) (r.ai.take m) 0).2.2.1,(bM r (r.ai.take m).length (ay r) (r.ai.take m) 0).2.2.2, ?_⟩;rw [gZ rfl rfl rfl];have e:=R F;rw [List.map_take]at e;have eb:yg r r.ai[act]=(bM r (r.ai.take m).length (ay r) (r.ai.take m) 0).2.1:=(by unfold yg;rw [hbt]);rw [eb];exact e
 have L:=fun Q h1=>J7 (H:=H) r h hp hr.al Q h1 (act-m) act (by omega) (Nat.le_refl _);rw [cI]at C⊢;rw [hm]at L;simp [aD,pF]at L;simp;refine L _ ?_;obtain⟨y,z,e⟩:=R2 [(2,aD r),(4,pF)];simp only [aU,aD,pF]at C e;have hmn:m≤r.ai.length:=(by omega);have hmi: ¬(m:Int)<0:=(by omega);have hall: ∀x:ak,x.row.length=9:=fun _=>rfl;simp [C,e,hmn,hmi,aI,hall];rw [ae (by simp)];simp [aU]
end
section
variable {c:Nat} {H:aj}
theorem J8 (r:aC) (ai:List ak) (m:Int) (hn:ai.length≤1000000) (Q:GX→bN→Prop)
  (h1:Q (.exit 0) ⟨[(8, .pure (.int .i64 m)),(9, .pure (.int .i64 (cf m ai).length))],[(4,aD r)]::H,37⟩): ∀(k n:Nat),n+k=(cf m ai).length→
  fM KC au 74 (lp Tryz.f74 0) [3,8,9] [8,9] Q [(3, .pure (.slice (ai.map ak.row))),(8, .pure (.int .i64 m)),(9, .pure (.int .i64 n))] ([(4,aD r)]::H) 37:=by
 have hle:(cf m ai).length≤ai.length:=(List.takeWhile_sublist _).length_le;intro k
 induction k with
 |zero=>
  intro n hk;have e:n=(cf m ai).length:=(by omega);rw [←e]at h1;by_cases hl:n<ai.length
  ·have hout:=mW (fun a:ak=>decide (a.bc≤m)) ai (by rw [show (ai.takeWhile fun a:ak=>decide (a.bc≤m)).length=n from e.symm];exact hl)
   have hout': ¬ai[n].bc≤m:=by
    have e2:(ai.takeWhile fun a:ak=>decide (a.bc≤m)).length=n:=e.symm;simp only [e2]at hout;simpa using hout
   apply ax;conv=>arg 4;whnf
   simp [hl,ak.row,hout'];exact h1
  ·apply ax;conv=>arg 4;whnf
   simp [hl];exact h1
 |succ k ih=>
  intro n hk;have hl:n<ai.length:=(by omega);have hin:=pH (fun a:ak=>decide (a.bc≤m)) ai n hl (by show n<(cf m ai).length;omega)
  have hin':ai[n].bc≤m:=(by simpa using hin);have hw:=cU (x:=(n:Int)+1) (by omega) (by omega);have ih':=ih (n+1) (by omega);apply ax;conv=>arg 4;whnf
  simp [hl,ak.row,hin',hw];simpa using ih'
theorem HD {r:aC}{act:Nat}(h:act<r.ai.length)(hn:r.ai.length≤1000000)(ht:0≤r.ai[act].bc∧r.ai[act].bc≤1000000)(kind:Int)(ai:List ak)(hal:ai.length≤1000000)(hH:0<H.length):
  bF KC (aG KC) 74 [.pure (.agg r.row), .pure (.int .i64 act), .pure (.int .i64 kind), .pure (.slice (ai.map ak.row))] c H=
   some (.pure (.tuple [.int .i64 (fa r act kind), .int .i64 (cf (fa r act kind) ai).length]),H):=by
 refine aM (aH KC au Tryz.func74 rfl rfl Wy (by simp) hH ?_);have hl:=bf (d:=cA) h;have L:=fun m Q h1=>J8 (H:=H) r ai m hal Q h1 (cf m ai).length 0 (by omega);rw [cI];unfold fa;rw [hl];by_cases hk:kind=3
 ·have hw:=cU (x:=r.ai[act].bc+1) (by omega) (by omega);have L1:=L (r.ai[act].bc+1);subst hk;simp [aD]at L1;simp [h,ak.row,hw];refine L1 _ ?_;simp;rw [ae (by simp)];simp
 ·have L1:=L r.ai[act].bc;have hk':(kind==3)=false:=(by simpa using hk);simp [aD]at L1;simp [h,ak.row,hk,hk'];refine L1 _ ?_;simp;rw [ae (by simp)];simp
theorem HE {g:GV}{q:PV}(hg:FC H g q)(ps:List PV):(bu H (ps.map .pure++[g])).1.map canon=ps.map (fun p=>canon (.pure p))++[.pure q]:=by
 have h1: ∀ps:List PV,bu H (ps.map .pure++[g])=(ps.map .pure++[(dr H g).1],(dr H g).2):=fun ps=>by
  induction ps with
  |nil=>rfl
  |cons p ps ih=>
   rw [List.map_cons,List.cons_append];simp only [bu];have e:dr H (.pure p)=(.pure p,H):=rfl;rw [e];simp only [ih,List.cons_append]
 have h2:canon (dr H g).1= .pure q:=by
  have h3:=(rm hg).1
  cases g with
  |aZ nm es top lo len=>
   show canon (dH H (.aZ nm es top lo len)).1=_
   have e: ∃p,(dH H (.aZ nm es top lo len)).1= .pure p:=⟨_,rfl⟩;obtain⟨p,hp⟩:=e;rw [hp]at h3⊢;have:p=q:=by
    have h4:cJ (.pure p)=GV.pure p:=rfl;rw [h4]at h3;cases h3;rfl
   rw [this];obtain⟨rows,v,ro,a1,a2,a3,a4,a5,a6⟩:=hg;rw [a6];rfl
  |pure p=>cases hg;rfl
  |aR=>cases hg;rfl
  |_=>exact hg.elim
 rw [h1];simp [h2,Function.comp_def]
theorem J9 {r:aC}{act:Nat}(h:act<r.ai.length)(hn:r.ai.length≤1000000)(ht:0≤r.ai[act].bc∧r.ai[act].bc≤1000000)(kind:Int)(ai:List ak)(hal:ai.length≤1000000){g:GV}(hg:FC H g (.slice (ai.map ak.row)))(hH:0<H.length):
  aL KC (aG KC) 74 [.pure (.agg r.row), .pure (.int .i64 act), .pure (.int .i64 kind),g] c H=
   some (.pure (.tuple [.int .i64 (fa r act kind), .int .i64 (cf (fa r act kind) ai).length]),H):=
 gQ KC rfl rfl (HE hg [.agg r.row, .int .i64 act, .int .i64 kind]) rfl hH (fun H hH=>HD (c:=c) h hn ht kind ai hal hH) rfl
end
section
variable {c:Nat} {H:aj}
def kN (l:List ak)(act:Nat)(aQ:Int):List ak:=l.take act++(l.drop act).map (late aQ)
theorem lj (l:List ak)(act:Nat)(aQ:Int)(h:act≤l.length):(kN l act aQ).length=l.length:=by
 unfold kN;simp;omega
def gF (l:List ak)(act:Nat)(aQ:Int)(i:Nat):List ak:=(kN l act aQ).take i++l.drop i
theorem yX (l:List ak)(act:Nat)(aQ:Int)(h:act≤l.length)(i:Nat)(hi:i≤l.length):(gF l act aQ i).length=l.length:=by
 unfold gF;rw [List.length_append,List.length_take,List.length_drop,lj l act aQ h];omega
theorem FK (l:List ak)(act:Nat)(aQ:Int)(h:act≤l.length):gF l act aQ act=l:=by
 unfold gF kN;rw [List.take_left' (by rw [List.length_take];omega),List.take_append_drop]
theorem FL (l:List ak)(act:Nat)(aQ:Int)(h:act≤l.length):gF l act aQ l.length=kN l act aQ:=by
 unfold gF;rw [List.take_of_length_le (by rw [lj l act aQ h];exact Nat.le_refl _),List.drop_length,List.append_nil]
theorem HF (l:List ak)(act:Nat)(aQ:Int)(h:act≤l.length){i:Nat}(h1:act≤i)(h2:i<l.length):(kN l act aQ)[i]? =some (late aQ l[i]):=by
 unfold kN;rw [List.getElem?_append_right (by rw [List.length_take];omega),List.length_take,List.getElem?_map,List.getElem?_drop];rw [show act+(i-min act l.length)=i by omega,List.getElem?_eq_getElem h2]
 rfl
theorem yY (l:List ak)(act:Nat)(aQ:Int)(h:act≤l.length){i:Nat}(h2:i<l.length):(gF l act aQ i)[i]? =some l[i]:=by
 unfold gF;rw [List.getElem?_append_right (by rw [List.length_take,lj l act aQ h];omega),List.length_take,lj l act aQ h,List.getElem?_drop,show i+(i-min i l.length)=i by omega,List.getElem?_eq_getElem h2]
theorem wZ (l:List ak)(act:Nat)(aQ:Int)(h:act≤l.length){i:Nat}(h1:act≤i)(h2:i<l.length):(gF l act aQ i).set i (late aQ l[i])=gF l act aQ (i+1):=by
 have hl:=lj l act aQ h;have e:l.drop i=l[i]::l.drop (i+1):=List.drop_eq_getElem_cons h2;unfold gF;rw [List.set_append_right _ _ (by rw [List.length_take,hl];omega),List.length_take,hl,show i-min i l.length=0 by omega,e,List.set_cons_zero,List.take_add_one,HF l act aQ h h1 h2]
 simp
theorem Ka (r:aC) {act:Nat} (aQ:Int) (h:act<r.ai.length) (hn:r.ai.length≤1000000) (tm: ∀a∈r.ai,0≤a.bc∧a.bc≤1000000) (Q:GX→bN→Prop)
  (h1: ∀v,v≤r.ai.length→Q (.exit 1) ⟨[(7, .aZ (H.length,28685) 9 r.ai.length 0 r.ai.length)],[(3,aD r),(28685, .arr 9 ((kN r.ai act aQ).map ak.row) v false)]::H,72⟩): ∀(k i v:Nat),i+k=r.ai.length→act≤i→v≤r.ai.length→
  fM KC au 70 (lp Tryz.f70 0) [7,8,9] [7] Q [(7, .aZ (H.length,28685) 9 r.ai.length 0 r.ai.length),(8, .pure (.int .i64 aQ)),(9, .pure (.int .i64 i))] ([(3,aD r),(28685, .arr 9 ((gF r.ai act aQ i).map ak.row) v false)]::H) 72:=by
 intro k
 induction k with
 |zero=>
  intro i v hi ha hv;have e:i=r.ai.length:=(by omega);subst e;rw [FL _ _ _ (by omega)];have h1':=h1 v hv;apply ax;conv=>arg 4;whnf
  simp;exact h1'
 |succ k ih=>
  intro i v hi ha hv;have hia:i<r.ai.length:=(by omega);have hw:=cU (x:=(i:Int)+1) (by omega) (by omega);have hml:=yX r.ai act aQ (by omega) i (by omega);have g:=yY r.ai act aQ (by omega) hia;have gs:=wZ r.ai act aQ (by omega) ha hia;have tmi:=tm _ (List.getElem_mem hia);have hwt:=cU (x:=r.ai[i].bc+1) (by omega) (by omega);have G: ∀h,(gF r.ai act aQ i)[i]'h=r.ai[i]:=fun h=>(by rw [List.getElem?_eq_getElem h]at g;simpa using g);by_cases hwho:r.ai[i].aQ=aQ
  ·have ih':=ih (i+1) r.ai.length (by omega) (by omega) (Nat.le_refl _);rw [←gs]at ih';have el:late aQ r.ai[i]={r.ai[i]with bc:=r.ai[i].bc+1}:=(by unfold late;rw [if_pos hwho]);rw [el]at ih';generalize gF r.ai act aQ i=R at G hml ih'⊢;have hwb:(r.ai[i].aQ==aQ)=true:=(by simpa using hwho);apply ax;conv=>arg 4;whnf
   simp [hia,hml,hv,G,hw,hwt,hwb,hwho,ak.row,aI];simpa [ak.row,hwho,List.map_set]using ih'
  ·have ih':=ih (i+1) v (by omega) (by omega) hv;rw [←gs]at ih';have el:late aQ r.ai[i]=r.ai[i]:=(by unfold late;rw [if_neg hwho]);rw [el]at ih';have es:(gF r.ai act aQ i).set i r.ai[i]=gF r.ai act aQ i:=by
    have hil:i<(gF r.ai act aQ i).length:=(by omega);conv=>lhs;rw [←G hil]
    exact List.set_getElem_self hil
   rw [es]at ih';generalize gF r.ai act aQ i=R at G hml ih'⊢;have hwb:(r.ai[i].aQ==aQ)=false:=(by simpa using hwho);apply ax;conv=>arg 4;whnf
   simp [hia,hml,hv,G,hw,hwb,ak.row];simpa using ih'
theorem Eb {a:ak}(h:a.kind≠1)(x:Int):mU {a with hand:=x}=mU a:=by
 unfold mU;simp [h]
theorem AB.flip {r:aC}{w:Nat}{a:ak}(h:AB r w a)(hk:a.kind≠1):AB r w {a with hand:=1-a.hand} where
 aQ:=h.aQ
 wl:=h.wl
 hand:=by rcases h.hand with e|e<;>simp [e]
 kind:=h.kind
 take:=h.take
 sA:=h.sA
 step:=h.step
 form:=by rw [Eb hk];exact h.form
theorem Ci {r:aC}(hr:D7 r)(a:ak):gz r (yg r a):=
 (jD _ _ _ _ hr.snd (fun x hx=>hr.ab x ((List.takeWhile_sublist _).subset hx))).1
theorem HG {r:aC}(hr:D7 r){act:Nat}(h:act<r.ai.length)(hp:r.ai.Pairwise fun a b=>a.bc≤b.bc)(tm: ∀a∈r.ai,0≤a.bc∧a.bc≤1000000)(h20:r.ai.length≤20){kind:Int}(hk2:kind=2→r.ai[act].kind≠1)(hH:0<H.length):
  aL KC (aG KC) 70 [.pure (.agg r.row), .pure (.int .i64 act), .pure (.int .i64 kind)] c H=some (.pure (.slice ((fQ r act kind).map ak.row)),H):=by
 have hne:r.ai≠[]:=fun e=>(by rw [e]at h;simp at h);have k1:ao 12 7=28685:=(by decide);have C:=uK (c:=12) (H:=[(3,aD r)]::H) r.ai hne (by omega) (by simp) (by simp [k1]);simp only [List.length_cons,Nat.add_sub_cancel,k1]at C;have hset:aj.set ([(3,aD r)]::H) (H.length,28685) (.arr 9 (r.ai.map ak.row) 0 false)=[(3,aD r),(28685, .arr 9 (r.ai.map ak.row) 0 false)]::H:=(by simp);rw [hset]at C;have hg:r.ai.getD act cA=r.ai[act]:=bf h
 have D: ∀(rows:List (List PV)) (v:Nat),rows.length=r.ai.length→v≤r.ai.length→(∀x∈rows,x.length=9)→aL KC (aG KC) 109 [.aZ (H.length,28685) 9 r.ai.length 0 r.ai.length, .pure (.int .i64 act), .pure (.int .i64 (act+1))] 71 ([(3,aD r),(28685, .arr 9 rows v false)]::H)=
   some (.aZ (H.length,28685) 9 r.ai.length 0 (r.ai.length-1),[(3,aD r),(28685, .arr 9 (rows.take act++rows.drop (act+1)++[Ch]) r.ai.length false)]::H):=fun rows v hl hv hw=>by
  have:=Hu (c:=71) (H:=[(3,aD r),(28685, .arr 9 rows v false)]::H) (nm:=(H.length,28685)) (rows:=rows) (v:=v) (k:=act) hl (by simp) hv h hw (by omega) (by simp);simpa using this
 have w9: ∀l:List ak,∀x∈l.map ak.row,x.length=9:=fun l x hx=>by
  obtain⟨a,_,rfl⟩:=List.mem_map.1 hx;rfl
 refine aM (aW KC au Tryz.func70 rfl rfl Wu rfl rfl rfl (by simp) hH ?_);have hw:=cU (x:=(act:Int)+1) (by omega) (by omega);have hnl: ¬H.length≤H.length-1:=(by omega);rw [cI];simp only [aD]at C D;unfold fQ;rw [hg];by_cases e2:kind=2
 ·subst e2;have hab:=hr.ab _ (List.getElem_mem h);have hfl:=hab.flip (hk2 rfl);have hhand:r.ai[act].hand=0∨r.ai[act].hand=1:=hab.hand;have hwh:IntKind.i64.wrap (1-r.ai[act].hand)=1-r.ai[act].hand:=cU (by omega) (by omega);have B:=HC (c:=28) (H:=[(3,aD r),(28685, .arr 9 ((r.ai.map ak.row).set act ({r.ai[act]with hand:=1-r.ai[act].hand}:ak).row) r.ai.length false)]::H) hr h hp (by simp);have M:=fun c (H:aj) (hH:0<H.length)=>Al (c:=c) (H:=H) (Ci hr r.ai[act]) hr.w hfl hH;rw [if_pos rfl];simp only [aD,ak.row]at B;rw [cI]at B;obtain⟨a',ha'⟩: ∃a':ak,{r.ai[act]with hand:=1-r.ai[act].hand}=a':=⟨_,rfl⟩;have hrow:(r.ai.map ak.row).set act [.int .i64 r.ai[act].bc, .int .i64 r.ai[act].aQ, .int .i64 r.ai[act].kind, .int .i64 (1-r.ai[act].hand), .int .i64 r.ai[act].bh, .int .i64 r.ai[act].cell, .int .i64 r.ai[act].other, .int .i64 r.ai[act].cY, .int .i64 r.ai[act].jV]=(r.ai.set act a').map ak.row:=by
   rw [List.map_set,←ha'];rfl
  obtain⟨T,hT⟩: ∃T,(r.ai.set act a').map ak.row=T:=⟨_,rfl⟩;have hTl:T.length=r.ai.length:=(by rw [←hT];simp);have hTg: ∀h,T[act]'h=a'.row:=fun h=>(by simp only [←hT,List.getElem_map,List.getElem_set_self]);have hT9:=w9 (r.ai.set act a');rw [hT]at hrow hT9;rw [hrow]at B;have D2:=D T r.ai.length hTl (Nat.le_refl _) hT9;have ee:r.ai.eraseIdx act=r.ai.take act++r.ai.drop (act+1):=List.eraseIdx_eq_take_drop_succ ..;have tkd:List.take act T=(r.ai.take act).map ak.row:=by
   rw [←hT,←List.map_take,List.take_set_of_le (Nat.le_refl _)]
  have drd:List.drop (act+1) T=(r.ai.drop (act+1)).map ak.row:=by
   rw [←hT,←List.map_drop,List.drop_set_of_lt (by omega)]
  rw [ha']at M⊢;simp only [ak.row]at M hTg
  cases hpos:bW r (yg r r.ai[act]) r.ai[act].aQ.toNat a' with
  |true=>
   rw [hpos]at M;simp [C,ak.row,h,hwh,aI,hrow,B,M,hTl,hTg];rw [ae (by simp)];have tl:List.take r.ai.length T=(r.ai.set act a').map ak.row:=(by rw [hT];exact List.take_of_length_le (by omega));simp [hnl,hTl,tl];rfl
  |false=>
   rw [hpos]at M;simp [C,ak.row,h,hwh,aI,hrow,B,M,hTl,hTg,D2,hw];rw [ae (by simp)];have tl:List.take (r.ai.length-1) (List.take act T++(List.drop (act+1) T++[Ch]))=(r.ai.eraseIdx act).map ak.row:=by
    rw [tkd,drd,ee,List.map_append,←List.append_assoc];exact List.take_left' (by simp only [List.length_append,List.length_map,List.length_take,List.length_drop];omega)
   have ml:min act r.ai.length+(r.ai.length-(act+1)+1)=r.ai.length:=(by omega);simp [hnl,tl,ml,hTl]
 ·have e2':(kind==2)=false:=(by simpa using e2);rw [if_neg e2];by_cases e3:kind=3
  ·subst e3;rw [if_pos rfl,show r.ai.take act++(r.ai.drop act).map (late r.ai[act].aQ)=kN r.ai act r.ai[act].aQ from rfl]
   have hn6:r.ai.length≤1000000:=(by omega);have hk6:act+(r.ai.length-act)=r.ai.length:=(by omega);have L:=fun Q h1=>Ka (H:=H) r (r.ai[act]'h).aQ h hn6 tm Q h1 (r.ai.length-act) act 0 hk6 (Nat.le_refl _) (Nat.zero_le _);rw [FK _ _ _ (by omega)]at L;simp only [aD]at L;have hll:=lj r.ai act r.ai[act].aQ (by omega);simp [C,h,ak.row];refine L _ fun v hv=> ?_;obtain⟨v',hv',S⟩:=HB (c:=65) (H:=[(3,aD r),(28685, .arr 9 ((kN r.ai act r.ai[act].aQ).map ak.row) v false)]::H) (nm:=(H.length,28685)) (v:=v) (kN r.ai act r.ai[act].aQ) hll h20 (by simp) hv;simp [aD]at S;simp [S];rw [ae (by simp)];have tl:List.take r.ai.length ((cS (kN r.ai act r.ai[act].aQ)).map ak.row)=(cS (kN r.ai act r.ai[act].aQ)).map ak.row:=List.take_of_length_le (by rw [List.length_map,iJ,hll];exact Nat.le_refl _);have sl:(cS (kN r.ai act r.ai[act].aQ)).length=r.ai.length:=(by rw [iJ,hll]);simp [hnl,tl,sl,hv']
  ·have e3':(kind==3)=false:=(by simpa using e3);rw [if_neg e3];have D1:=D (r.ai.map ak.row) 0 (by simp) (Nat.zero_le _) (w9 _);have ee:r.ai.eraseIdx act=r.ai.take act++r.ai.drop (act+1):=List.eraseIdx_eq_take_drop_succ ..;simp [C,D1,e2',e3',hw];rw [ae (by simp)];have tl:List.take (r.ai.length-1) (List.take act (r.ai.map ak.row)++(List.drop (act+1) (r.ai.map ak.row)++[Ch]))=(r.ai.eraseIdx act).map ak.row:=by
    rw [ee,List.map_append,List.map_take,List.map_drop,←List.append_assoc];exact List.take_left' (by rw [List.length_append,List.length_take,List.length_drop,List.length_map];omega)
   have ml:min act r.ai.length+(r.ai.length-(act+1)+1)=r.ai.length:=(by omega);simp [hnl,tl,ml]
end
section
variable {c:Nat} {H:aj}
theorem Kb {ai:List ak} {i:Nat} (hi:i<ai.length) (hn:ai.length≤1000000) {out:List ak} {v:Nat} (ho:out.length≤1000000) (hv:v≤out.length) (Q:GX→bN→Prop)
  (h1: ∀A B,out=A++B→nT out ai[i]=A++ai[i]::B→Q (.exit 2) ⟨[(0, .pure (.slice (ai.map ak.row))),(3, .aZ (H.length,36) 9 out.length 0 out.length),(4, .pure (.int .i64 i)),(5, .pure (.int .i64 A.length))],[]::[(36, .arr 9 (out.map ak.row) v false)]::H,61⟩): ∀(k:Nat) (A B:List ak),A.length=k→out=A++B→(∀b∈B,ai[i].bc<b.bc)→
  fM KC au 111 (lp Tryz.f111 1) [0,3,4,5] [0,3,4,5] Q [(0, .pure (.slice (ai.map ak.row))),(3, .aZ (H.length,36) 9 out.length 0 out.length),(4, .pure (.int .i64 i)),(5, .pure (.int .i64 A.length))] ([]::[(36, .arr 9 (out.map ak.row) v false)]::H) 61:=by
 intro k
 induction k with
 |zero=>
  intro A B hA hAB hB;obtain rfl:A=[]:=List.length_eq_zero_iff.1 hA;have e:nT out ai[i]=[]++ai[i]::B:=(by rw [hAB];exact lJ hB (fun a h=>by simp at h));have h1':=h1 [] B hAB e;apply ax;conv=>arg 4;whnf
  simp;simpa using h1'
 |succ k ih=>
  intro A B hA hAB hB;obtain⟨A',y,rfl⟩: ∃A' y,A=A'++[y]:=by
   have hne:A≠[]:=fun e=>(by rw [e]at hA;simp at hA);exact⟨A.dropLast,A.getLast hne,(List.dropLast_concat_getLast hne).symm⟩
  have hA':A'.length=k:=(by simpa using hA);have hol:k+1≤out.length:=(by rw [hAB];simp;omega);have hyo: ∀h,out[k]'h=y:=fun h=>by
   have e:out=A'++(y::B):=(by rw [hAB];simp);simp only [e];rw [List.getElem_append_right (by omega)];simp [hA']
  have hkl:k<out.length:=(by omega);have gt:(0:Int)<(k:Int)+1:=(by omega);have w1:=cU (x:=(k:Int)) (by omega) (by omega);by_cases hlt:ai[i].bc<y.bc
  ·have ih':=ih A' (y::B) hA' (by rw [hAB];simp) (fun b hb=>by
    rcases List.mem_cons.1 hb with rfl|hb
    ·exact hlt
    ·exact hB b hb)
   rw [hA']at ih';apply ax;conv=>arg 4;whnf
   simp [hA',gt,w1,hkl,hyo,hi,hlt,hv,ak.row];simpa using ih'
  ·have e:nT out ai[i]=(A'++[y])++ai[i]::B:=by
    rw [hAB];exact lJ hB (fun a ha=>by
     have:a=y:=(by simpa using ha.symm);rw [this];exact hlt)
   have h1':=h1 (A'++[y]) B hAB e;apply ax;conv=>arg 4;whnf
   simp [hA',gt,w1,hkl,hyo,hi,hlt,hv,ak.row];simpa [hA']using h1'
theorem HH {args:PV} {i:Nat} {out:List ak} {N bc:Nat} (hN:out.length=N) (ho:N≤1000000) (ha:bc≤N) (Q:GX→bN→Prop)
  (h1: ∀y v,y.length=9→v≤N+1→Q (.exit 4) ⟨[(0, .pure args),(3, .aZ (H.length,36) 9 (N+1) 0 (N+1)),(4, .pure (.int .i64 i)),(5, .pure (.int .i64 bc))],[]::[(36, .arr 9 ((out.take bc).map ak.row++y::(out.drop bc).map ak.row) v false)]::H,61⟩): ∀(k j:Nat) (y:List PV) (v:Nat),j=bc+k→j≤N→y.length=9→v≤N+1→
  fM KC au 111 (lp Tryz.f111 2) [0,3,4,5,6] [0,3,4,5] Q [(0, .pure args),(3, .aZ (H.length,36) 9 (N+1) 0 (N+1)),(4, .pure (.int .i64 i)),(5, .pure (.int .i64 bc)),(6, .pure (.int .i64 j))] ([]::[(36, .arr 9 ((out.take j).map ak.row++y::(out.drop j).map ak.row) v false)]::H) 61:=by
 intro k
 induction k with
 |zero=>
  intro j y v hj hjN hy hv;obtain rfl:j=bc:=(by omega);have h1':=h1 y v hy hv;apply ax;conv=>arg 4;whnf
  simp;simpa using h1'
 |succ k ih=>
  intro j y v hj hjN hy hv;obtain⟨m,rfl⟩: ∃m,j=m+1:=⟨j-1,by omega⟩;have hmo:m<out.length:=(by omega);have gt:(bc:Int)<(m:Int)+1:=(by omega);have w1:=cU (x:=(m:Int)) (by omega) (by omega);have ih':=ih m (out[m].row) (N+1) (by omega) (by omega) rfl (Nat.le_refl _);have et:out.take (m+1)=out.take m++[out[m]]:=(by rw [List.take_add_one,List.getElem?_eq_getElem hmo];rfl);obtain⟨R,hR⟩: ∃R,(out.take (m+1)).map ak.row++y::(out.drop (m+1)).map ak.row=R:=⟨_,rfl⟩;have hRl:R.length=N+1:=(by rw [←hR];simp;omega);have hRg: ∀h,R[m]'h=out[m].row:=fun h=>by
   simp only [←hR];rw [List.getElem_append_left (by simp;omega)];simp
  have ed:out.drop m=out[m]::out.drop (m+1):=List.drop_eq_getElem_cons hmo;have hRs:R.set (m+1) out[m].row=(out.take m).map ak.row++out[m].row::(out.drop m).map ak.row:=by
   have e1:R.set (m+1) out[m].row=(out.take (m+1)).map ak.row++out[m].row::(out.drop (m+1)).map ak.row:=by
    rw [←hR,List.set_append_right _ _ (by simp;omega)];have e0:m+1-(List.map ak.row (out.take (m+1))).length=0:=(by simp;omega);rw [e0];rfl
   rw [e1,ed,et,List.map_append,List.append_assoc];rfl
  rw [←hRs]at ih';have hR9: ∀h,R[m+1]'h=y:=fun h=>by
   simp only [←hR];rw [List.getElem_append_right (by simp;omega)];have e0:m+1-(List.map ak.row (out.take (m+1))).length=0:=(by simp;omega);simp only [e0,List.getElem_cons_zero]
  rw [hR];have d9:y.drop 9=[]:=List.drop_eq_nil_iff.2 (by omega);have l9:out[m].row.length=9:=rfl;have t9:List.take 9 out[m].row=out[m].row:=rfl;have hml:m<N+1:=(by omega);have hml2:m+1<N+1:=(by omega);have jt:Int.toNat ((m:Int)+1)=m+1:=(by omega);have jn: ¬(m:Int)+1<0:=(by omega);have jl:(m:Int)+1<(N:Int)+1:=(by omega);have jl0:(m:Int)<(N:Int)+1:=(by omega);apply ax;conv=>arg 4;whnf
  simp [gt,w1,hRl,hv,hRg,hR9,l9,t9,hml,hml2,jt,jn,jl,jl0,aI,hy,d9];simpa using ih'
theorem HI {ai:List ak} (hn:ai.length≤1000000) (Q:GX→bN→Prop)
  (h1: ∀v,v≤ai.length→Q (.exit 0) ⟨[(3, .aZ (H.length,36) 9 ai.length 0 ai.length)],[(36, .arr 9 ((cS ai).map ak.row) v false)]::H,61⟩): ∀(k i v:Nat),0<i→i+k=ai.length→v≤i→
  fM KC au 111 (lp Tryz.f111 0) [0,3,4] [3] Q [(0, .pure (.slice (ai.map ak.row))),(3, .aZ (H.length,36) 9 i 0 i),(4, .pure (.int .i64 i))] ([(36, .arr 9 ((cS (ai.take i)).map ak.row) v false)]::H) 61:=by
 intro k
 induction k with
 |zero=>
  intro i v h0 hi hv;have hx:ai.take i=ai:=List.take_of_length_le (by omega);have e:i=ai.length:=(by omega);have h1':=h1 v (by omega);rw [hx];subst e;apply ax;conv=>arg 4;whnf
  simp;simpa using h1'
 |succ k ih=>
  intro i v h0 hi hv;have hia:i<ai.length:=(by omega);have htk:ai.take (i+1)=ai.take i++[ai[i]]:=(by rw [List.take_add_one,List.getElem?_eq_getElem hia];rfl);have ih':=fun v' hv'=>ih (i+1) v' (by omega) (by omega) hv';rw [htk,wY]at ih';obtain⟨out,ho⟩: ∃out,cS (ai.take i)=out:=⟨_,rfl⟩;have hol:out.length=i:=(by rw [←ho,iJ,List.length_take];omega);rw [ho]at ih'⊢;have hw:=cU (x:=(i:Int)+1) (by omega) (by omega);have L:=fun Q h1=>Kb (H:=H) hia hn (out:=out) (v:=v) (by omega) (by omega) Q h1 i out [] hol (by simp) (by simp);simp only [hol]at L;have L2:=fun bc ha Q h1 j y v=>HH (H:=H) (args:= .slice (ai.map ak.row)) (i:=i) (out:=out) (N:=i) (bc:=bc) hol (by omega) ha Q h1 (i-bc) j y v;apply ax;conv=>arg 4;whnf
  simp [hia];refine L _ fun A B hAB hins=> ?_;have hAl:A.length≤i:=(by rw [←hol,hAB];simp);have L2':=L2 A.length hAl;have m72:(i+1)*72≤1099511627776:=(by omega);have w1:=cU (x:=(i:Int)) (by omega) (by omega);have ti:out.take i=out:=List.take_of_length_le (by omega);have di:out.drop i=[]:=List.drop_of_length_le (by omega);have L3:=fun Q h1=>L2' Q h1 i cA.row v (by omega) (Nat.le_refl _) rfl (by omega);simp [ti,di,cA,ak.row]at L3;simp [hol,hv,m72,w1];refine L3 _ fun y v' hy hv'=> ?_;have tA:(out.map ak.row).take A.length=A.map ak.row:=(by rw [←List.map_take,hAB];simp);have dA:(out.map ak.row).drop A.length=B.map ak.row:=(by rw [←List.map_drop,hAB];simp);rw [tA,dA];have i1:=ih' (i+1) (Nat.le_refl _);rw [hins]at i1;clear L L2 L2' L3 ih ih';have hR: ∃R,A.map ak.row++y::B.map ak.row=R:=⟨_,rfl⟩;obtain⟨R,hR⟩:=hR;have hRl:R.length=i+1:=(by rw [←hR];rw [hAB]at hol;simp at hol⊢;omega);have hRg: ∀h,R[A.length]'h=y:=fun h=>by
   simp only [←hR];rw [List.getElem_append_right (by simp)];simp
  have hRs:R.set A.length ai[i].row=(A++ai[i]::B).map ak.row:=by
   rw [←hR,List.set_append_right _ _ (by simp)];simp
  rw [←hRs]at i1;rw [hR];have d9:y.drop 9=[]:=List.drop_eq_nil_iff.2 (by omega);have l9:ai[i].row.length=9:=rfl;have t9:List.take 9 ai[i].row=ai[i].row:=rfl;have hA1:A.length<i+1:=(by omega);have hA2:(A.length:Int)<(i:Int)+1:=(by omega);simp [hRl,hRg,hv',hy,d9,l9,t9,hA1,hA2,hia,aI,hw];simpa using i1
theorem uL (ai:List ak)(hn:ai.length≤1000000)(hH:0<H.length):
  bF KC (aG KC) 111 [.pure (.slice (ai.map ak.row))] c H=some (.pure (.slice ((cS ai).map ak.row)),H):=by
 refine aM (aH KC au Tryz.func111 rfl rfl NU (by simp) hH ?_);have hnl: ¬H.length≤H.length-1:=by omega
 cases ai with
 |nil=>
  simp;apply ax;conv=>arg 4;whnf
  simp [cS];rw [ae (by simp)];simp
 |cons a l=>
  have L:=fun v hv Q h1=>HI (H:=H) (ai:=a::l) hn Q h1 l.length 1 v (by omega) (by simp;omega) hv;have e1:cS (List.take 1 (a::l))=[a]:=rfl;rw [e1]at L;simp at L;simp;apply ax;conv=>arg 4;whnf
  simp;apply ax;conv=>arg 4;whnf
  simp;apply ax;conv=>arg 4;whnf
  have l9:a.row.length=9:=rfl;have t9:List.take 9 a.row=a.row:=rfl;simp [l9,t9,aI];refine L _ (by omega) _ fun v hv=> ?_;have ml:min (l.length+1) (cS (a::l)).length=l.length+1:=(by rw [iJ];simp);have sl:(cS (a::l)).length=l.length+1:=(by rw [iJ];simp);have tl:List.take (l.length+1) ((cS (a::l)).map ak.row)=(cS (a::l)).map ak.row:=List.take_of_length_le (by rw [List.length_map,sl];exact Nat.le_refl _);simp;rw [ae (by simp)];simp [hnl,tl,sl,hv]
end
section
variable {c:Nat} {H:aj}
def Ar (L k1 k2 k3:Nat)(s:az):GV:= .agg [.aZ (L,k1) 1 s.ah.length 0 s.ah.length, .aZ (L,k2) 2 s.aq.length 0 s.aq.length,cH (L,k3) 2 (s.aa.map bm.row)]
theorem FN {L k1 k2 k3:Nat}{s:az}(h:s.aa≠[]):Ar L k1 k2 k3 s=kK (L,k1) (L,k2) (L,k3) s:=by
 unfold Ar kK cH;rw [if_neg (by simpa using h)];simp
theorem FO {L k1 k2 k3:Nat}{s:az}(h:s.aa=[]):Ar L k1 k2 k3 s= .agg [.aZ (L,k1) 1 s.ah.length 0 s.ah.length, .aZ (L,k2) 2 s.aq.length 0 s.aq.length, .aR]:=by
 unfold Ar cH;rw [if_pos (by simp [h])]
theorem FQ {s:az}(h:Full s)(hH:0<H.length)(hf1:H.get (H.length-1,ao c 6)=none)(hf2:H.get (H.length-1,ao c 10)=none)(hf3:H.get (H.length-1,ao c 14)=none):
  aL KC (aG KC) 50 [.pure (.agg s.row)] c H=some (Ar (H.length-1) (ao c 6) (ao c 10) (ao c 14) s,
   gT ((H.set (H.length-1,ao c 6) (.arr 1 (s.ah.map aE) 0 false)).set (H.length-1,ao c 10) (.arr 2 (s.aq.map aF.row) 0 false)) (H.length-1,ao c 14) 2 (s.aa.map bm.row)):=by
 refine aM (aW KC au Tryz.func50 rfl rfl I4 rfl rfl rfl (by simp) hH ?_);have pl:=h.pl;have hl:=h.hl;have tl:=h.tl;have p0:=h.p0;have h0:=h.h0;have b1:s.ah.length*8≤1099511627776:=(by omega);have b2:s.aq.length*16≤1099511627776:=(by omega);have b3:s.aa.length*16≤1099511627776:=(by omega);have jP:ao c 6≠ao c 10:=(by unfold ao;omega);have kL:ao c 6≠ao c 14:=(by unfold ao;omega);have jZ:ao c 10≠ao c 14:=(by unfold ao;omega);have k1:(H.length-1,ao c 10)≠((H.length-1,ao c 6):Nm):=fun e=>jP (Prod.mk.inj e).2.symm;have k2:(H.length-1,ao c 14)≠((H.length-1,ao c 6):Nm):=fun e=>kL (Prod.mk.inj e).2.symm;have k3:(H.length-1,ao c 14)≠((H.length-1,ao c 10):Nm):=fun e=>jZ (Prod.mk.inj e).2.symm;have g2: ∀b,(H.set (H.length-1,ao c 6) b).get (H.length-1,ao c 10)=none:=fun b=>(aj.aK b k1).trans hf2;have g3: ∀b b',((H.set (H.length-1,ao c 6) b).set (H.length-1,ao c 10) b').get (H.length-1,ao c 14)=none:=fun b b'=>(aj.aK b' k3).trans ((aj.aK b k2).trans hf3);have hn: ¬H.length+1≤H.length:=(by omega);unfold az.row;by_cases t0:s.aa=[]
 ·rw [FO t0];simp [hn,p0,h0,t0,b1,b2];simp [bS,refs,dM,dn,cr,dC,dD,dedup,cL,cd,tD,hf1,g2,vn,jW,im,gT]
 ·rw [FN t0];simp [hn,p0,h0,t0,b1,b2,b3];simp [bS,refs,dM,dn,cr,dC,dD,dedup,cL,cd,tD,hf1,g2,g3,vn,jW,im,gT,kK,t0]
theorem ad1 {s:az}{w:Nat}{a:ak}{n1 n2:Nm}{v1 v2:Nat}(g1:H.get n1=some (.arr 1 (s.ah.map aE) v1 false))(e1:v1≤s.ah.length)(g2:H.get n2=some (.arr 2 (s.aq.map aF.row) v2 false))(e2:v2≤s.aq.length)(hp:w<s.ah.length)(hh:w<s.aq.length)(hwho:a.aQ=w)(hhand:a.hand=0∨a.hand=1)(k:a.kind=1)(hH:0<H.length):
  aL KC (aG KC) 51 [.agg [.aZ n1 1 s.ah.length 0 s.ah.length, .aZ n2 2 s.aq.length 0 s.aq.length, .aR], .pure (.agg a.row)] c H=some (.pure (.tuple []),H.set n1 (.arr 1 ((cX s w a).ah.map aE) s.ah.length false)):=by
 have l1:=aj.bP g1;have l2:=aj.bP g2;have d1: ¬n1.1=H.length:=(by omega);have d2: ¬n2.1=H.length:=(by omega);have hd:=kq (s:=s) (w:=w) k;have wr:IntKind.i64.wrap (1-0)=1:=rfl;have wr1:IntKind.i64.wrap (1-1)=0:=rfl;refine aM (br KC au Tryz.func51 rfl rfl gH rfl rfl rfl (by simp) hH ?_);rw [bp];rcases hhand with z|z
 ·simp [d1,d2,g1,g2,e1,e2,hp,hh,hwho,z,k,wr,aE,aF.row,aI,ae,hd]
 ·simp [d1,d2,g1,g2,e1,e2,hp,hh,hwho,z,k,wr1,aE,aF.row,aI,ae,hd]
theorem Kc {nm:Nm}{es:Nat}{rows:List (List PV)}(h:rows≠[]→ ∃v ro,v≤rows.length∧H.get nm=some (.arr es rows v ro)):FC H (cH nm es rows) (.slice rows):=by
 unfold cH;by_cases hr:rows=[]
 ·subst hr;rw [if_pos rfl];simp
 ·rw [if_neg hr];obtain⟨v,ro,a,b⟩:=h hr;exact⟨rows,v,ro,b,a,rfl,rfl,rfl,rfl⟩
structure SA (F:Fr)(k1 k2 k3:Nat)(s:az):Prop where
 h1: ∃v,v≤s.ah.length∧F.get k1=some (.arr 1 (s.ah.map aE) v false)
 h2: ∃v,v≤s.aq.length∧F.get k2=some (.arr 2 (s.aq.map aF.row) v false)
 h3:s.aa≠[]→ ∃v,v≤s.aa.length∧F.get k3=some (.arr 2 (s.aa.map bm.row) v false)
theorem Kd {L:Nat}(hl:H.length=L){F f0:Fr}{k1 k2 k3:Nat}{s:az}(hF:F.gU)(hs:SA F k1 k2 k3 s)(jP:k1≠k2)(kL:k1≠k3)(jZ:k2≠k3){w:Nat}{a:ak}(hb:DS s w a)(hhl:s.aq.length≤1000000):
  ∃F',F'.gU∧SA F' k1 k2 k3 (cX s w a)∧(∀k,k≠k1→k≠k2→k≠k3→F'.get k=F.get k)∧
  aL KC (aG KC) 51 [Ar L k1 k2 k3 s, .pure (.agg a.row)] c (f0::F::H)=some (.pure (.tuple []),f0::F'::H):=by
 subst hl;have LD:=ig (s:=s) (w:=w) hb.kind;have ne: ¬H.length=H.length+1:=(by omega);by_cases t0:s.aa=[]
 ·rw [FO t0];have k:=D4 hb t0;obtain⟨v1,a1,b1⟩:=hs.h1;obtain⟨v2,a2,b2⟩:=hs.h2;have D:=ad1 (c:=c) (H:=f0::F::H) (n1:=(H.length,k1)) (n2:=(H.length,k2)) (v1:=v1) (v2:=v2) (s:=s) (w:=w) (a:=a) (by simp [ne,b1]) a1 (by simp [ne,b2]) a2 hb.hp hb.hh hb.aQ hb.hand k (by simp);refine⟨F.ins k1 (.arr 1 ((cX s w a).ah.map aE) s.ah.length false),Fr.cB hF,⟨⟨s.ah.length,by omega,Fr.a7 ..⟩,⟨v2,by omega, ?_⟩,fun h=>absurd (List.eq_nil_of_length_eq_zero (by rw [LD.2.2,t0];rfl)) h⟩,fun k h1 _ _=>Fr.aw _ h1 _,D.trans ?_⟩
  ·rw [Fr.aw _ jP.symm,b2,kq k]
  ·simp [ne]
 ·rw [FN t0];obtain⟨u3,a3,b3⟩:=hs.h3 t0;obtain⟨v1,v2,v3,a1,a2,a3,e⟩:=T4 (H:=H) (H0:=H) (c:=c) (f0:=f0) rfl hF ⟨hs.h1,hs.h2,⟨u3,a3,b3⟩⟩ jP kL jZ hb hhl;refine⟨_,Fr.cB (Fr.cB (Fr.cB hF)),⟨⟨v1,by omega,by rw [Fr.aw _ kL,Fr.aw _ jP,Fr.a7]⟩,⟨v2,by omega,by rw [Fr.aw _ jZ,Fr.a7]⟩,fun _=>⟨v3,by omega,by rw [Fr.a7]⟩⟩,fun k h1 h2 h3=>by rw [Fr.aw _ h3,Fr.aw _ h2,Fr.aw _ h1],e⟩
theorem SA.other {F F':Fr}{k1 k2 k3:Nat}{s:az}(h:SA F k1 k2 k3 s)(e1:F'.get k1=F.get k1)(e2:F'.get k2=F.get k2)(e3:F'.get k3=F.get k3):SA F' k1 k2 k3 s:=by
 refine⟨?_, ?_,fun h0=> ?_⟩
 ·rw [e1];exact h.h1
 ·rw [e2];exact h.h2
 ·rw [e3];exact h.h3 h0
end
end Go.Gh
