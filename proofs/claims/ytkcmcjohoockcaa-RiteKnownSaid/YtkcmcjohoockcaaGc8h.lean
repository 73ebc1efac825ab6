/- Texts joined: the evaluator over ghost values, its soundness, the walks. Spaces struck and names made short by a program, for the size. -/
import Derived.Test.YtkcmcjohoockcaaGc8g
import Derived.Test.YtkcmcjohoockcaaGc8f
namespace Go.Gh
open Go.Proofs
set_option linter.unusedVariables false
set_option linter.unusedSimpArgs false
set_option linter.unnecessarySimpa false
set_option maxRecDepth 100000
set_option maxHeartbeats 8000000
section
variable {c:Nat} {H:ae}
noncomputable def da (r:aI)(s:az):List ai→List (Int×Int)→az→Nat→az×Int×Int
 | [],_,nx,_=>(nx,0,0)
 |a::g,tk,nx,i=>if cd r s a.aY.toNat a=false then (s,i,10)else if∀x∈eG s a.aY.toNat a,x∉tk then da r s g (dN tk (eG s a.aY.toNat a)) (dt nx a.aY.toNat a) (i+1)else (s,i,12)
theorem pj.after {r:aI}: ∀{p:List ai} {s:az} {a:ai},e9 r s→pj r s (p++[a])→e9 r (kY s p)∧cd r (kY s p) a.aY.toNat a=true
 | [],s,a,hS,h=>⟨hS,(h.ab a (by simp)).2⟩
 |b::p,s,a,hS,h=>by
  obtain⟨h1,h2⟩:=h.tail hS;show e9 r (kY (dt s b.aY.toNat b) p)∧cd r (kY (dt s b.aY.toNat b) p) a.aY.toNat a=true
  exact pj.after h1 h2
def vr (s:az)(p:List ai)(tk:List (Int×Int)):Prop:= ∀x,x∈tk↔ ∃b∈p,x∈eG s b.aY.toNat b
theorem vr.snoc {s:az}{p:List ai}{tk:List (Int×Int)}{a:ai}(h:vr s p tk):vr s (p++[a]) (dN tk (eG s a.aY.toNat a)):=fun x=>by
 rw [tf,h x];simp only [List.mem_append,List.mem_singleton];constructor
 ·rintro(⟨b,hb,hx⟩|hx)
  ·exact⟨b, .inl hb,hx⟩
  ·exact⟨a, .inr rfl,hx⟩
 ·rintro⟨b,hb|rfl,hx⟩
  ·exact .inl ⟨b,hb,hx⟩
  ·exact .inr hx
theorem pj.snoc {r:aI}{s:az}{p:List ai}{tk:List (Int×Int)}{a:ai}(h:pj r s p)(ht:vr s p tk)(hA:AB r a.aY.toNat a)(pa:cd r s a.aY.toNat a=true)(hd: ∀x∈eG s a.aY.toNat a,x∉tk):pj r s (p++[a]) where
 ab:=fun b hb=>by
  rcases List.mem_append.1 hb with hb|hb
  ·exact h.ab b hb
  ·simp only [List.mem_singleton]at hb;subst hb;exact⟨hA,pa⟩
 ap:=by
  rw [List.pairwise_append];refine⟨h.ap,List.pairwise_singleton ..,fun b hb x hx=> ?_⟩;simp only [List.mem_singleton]at hx;subst hx;exact(xZ.2 fun y h1 h2=>hd y h2 ((ht y).2 ⟨b,hb,h1⟩))
def DY (k:Nat):Nat:=109+2*(k-1)
theorem M9 {r:aI}{s:az}{w:Nat}{a:ai}{n1 n2 n3:Nm}{v1 v2 v3:Nat}(h:xN H n1 n2 n3 v1 v2 v3 s)(hb:LC s w a)(hst: ∀t:Nat,t<s.aa.length→0≤(s.aa.getD t aJ).state∧(s.aa.getD t aJ).state<16)(hH:0<H.length):Gs H (DY a.kind.toNat) r n1 n2 n3 s w a c:=by
 obtain⟨d1,d2,d3,d4,d5,d6,d7,d8⟩:=LO (r:=r) (c:=c) h hb hst hH;rcases ka hb.kind with k|k|k|k|k|k|k|k
 ·rw [show DY a.kind.toNat=109 by rw [k];rfl];exact d1 k
 ·rw [show DY a.kind.toNat=111 by rw [k];rfl];exact d2 k
 ·rw [show DY a.kind.toNat=113 by rw [k];rfl];exact d3 k
 ·rw [show DY a.kind.toNat=115 by rw [k];rfl];exact d4 k
 ·rw [show DY a.kind.toNat=117 by rw [k];rfl];exact d5 k
 ·rw [show DY a.kind.toNat=119 by rw [k];rfl];exact d6 k
 ·rw [show DY a.kind.toNat=121 by rw [k];rfl];exact d7 k
 ·rw [show DY a.kind.toNat=123 by rw [k];rfl];exact d8 k
def jK:Nat:=117469202
def j6:Nat:=117485586
def sX:Nat:=117501970
def HI (L:Nat)(r:aI)(s:az):dW:= .box [.pure (.int .i64 r.wide), .pure (.int .i64 r.deep), .pure (.slice (r.ak.map bA.row)), .pure (.slice (r.aa.map bU.row)), .pure (.slice (r.seen.map ba)), .pure (.slice (r.bg.map ba)), .pure (.slice (r.aj.map ai.row)), .ay (L,jK) 1 s.ak.length 0 s.ak.length, .ay (L,j6) 2 s.ao.length 0 s.ao.length, .ay (L,sX) 2 s.aa.length 0 s.aa.length]
structure MX (L:Nat)(F:Fr)(r:aI)(s:az)(tk:List (Int×Int))(nx:az):Prop extends MF F r s tk where
 ow:F.ow
 g7:F.get 7=some (HI L r nx)
 sc:SF F jK j6 sX nx
theorem DZ {r:aI}{s:az}(hS:e9 r s)(hW:WB r)(aj:List ai)(hal:aj.length≤1000000)(hA: ∀a∈aj,AB r a.aY.toNat a)(Q:GX→bE→Prop):
  ∀(k i:Nat) (F:Fr) (tk:List (Int×Int)) (nx:az),i+k=aj.length→MX H.length F r s tk nx→vr s (aj.take i) tk→pj r s (aj.take i)→nx=kY s (aj.take i)→
  ((da r s (aj.drop i) tk nx i).2.2=0→ ∀F',(∃tk',MX H.length F' r s tk' (da r s (aj.drop i) tk nx i).1)→pj r s aj→(da r s (aj.drop i) tk nx i).1=kY s aj→Q (.exit 0) ⟨[(4, .aA (H.length,4) 0),(5,aG),(6,aG),(7, .aA (H.length,7) 0)],F'::H,65⟩)→
  ((da r s (aj.drop i) tk nx i).2.2≠0→(da r s (aj.drop i) tk nx i).1=s→ ∀F',F'.get 4=some (bx r s)→Q .ret ⟨[(4, .aA (H.length,4) 0),(5, .pure (.int .i64 (da r s (aj.drop i) tk nx i).2.1)),(6, .pure (.int .i64 (da r s (aj.drop i) tk nx i).2.2)),(7, .aA (H.length,7) 0)],F'::H,65⟩)→
  jf KC au 88 (lp Try.f88 0) [2,4,7,8,19,20,21] [4,5,6,7] Q
   [(2, .aA (H.length,2) 0),(4, .aA (H.length,4) 0),(7, .aA (H.length,7) 0),(8, .map (H.length,18)),(19, .pure (.slice (aj.map ai.row))),(20, .pure (.int .i64 aj.length)),(21, .pure (.int .i64 i))] (F::H) 65:=by
 intro k
 induction k with
 |zero=>
  intro i F tk nx hi hF hT hG hnx h1 h2;apply aw;conv=>arg 4;whnf
  have hnl: ¬i<aj.length:=(by omega);have e:aj.drop i=[]:=List.drop_of_length_le (by omega);have et:aj.take i=aj:=List.take_of_length_le (by omega);rw [e]at h1;simp [hnl];exact h1 rfl F ⟨tk,hF⟩ (et▸hG) (by show nx=_;rw [hnx,et])
 |succ k ih=>
  intro i F tk nx hi hF hT hG hnx h1 h2;have hia:i<aj.length:=(by omega);have hw:=dM (x:=(i:Int)+1) (by omega) (by omega);have ed:aj.drop i=aj[i]::aj.drop (i+1):=List.drop_eq_getElem_cons hia;have et:aj.take (i+1)=aj.take i++[aj[i]]:=List.take_succ_eq_append_getElem hia;have ne: ¬H.length=H.length+1:=(by omega);obtain⟨a,ha⟩: ∃a,aj[i]=a:=⟨_,rfl⟩;have hAa:AB r a.aY.toNat a:=hA a (ha▸List.getElem_mem hia);obtain⟨w,hwq⟩: ∃w,a.aY.toNat=w:=⟨_,rfl⟩;rw [ha]at ed et;rw [ed]at h1 h2;unfold da at h1 h2;have g2:=hF.g2;have g4:=hF.g4;have g7:=hF.g7;have M:=fun c (H:ae) (hH:0<H.length)=>uy (c:=c) (H:=H) hS hW hAa hH;have T:=fun c (H:ae) (hH:0<H.length)=>pk (c:=c) (H:=H) hS hAa hH;have hAk:=hAa.kind;have kk:((a.kind.toNat:Nat):Int)=a.kind:=(by omega);have W:=fun c (H:ae) (hH:0<H.length)=>xY (c:=c) (H:=H) (k:=a.kind.toNat) (by omega) hH;rw [kk]at W;apply aw;conv=>arg 4;whnf
  cases hp:cd r s a.aY.toNat a with
  |false=>
   rw [hp]at M;simp only [hp,if_true]at h2;have h2':=h2 (by decide) trivial (F.ins 4 (bx r s)) (Fr.bO ..);rw [bh]at M;simp only [bx]at g2 h2';simp only [lE]at g4;simp only [aH]at M;simp [hia,ha,bh,ne,g2,g4,M,aD];exact h2'
  |true=>
   rw [hp]at M;obtain⟨l,hl⟩: ∃l,eG s a.aY.toNat a=l:=⟨_,rfl⟩;have hll:l.length≤1000:=by
    rw [←hl];unfold eG
    repeat' split
    all_goals simp
   rw [hl]at T h1 h2;simp only [hp,Bool.true_eq_false,if_false]at h1 h2;have L1:=fun Q=>tg (H:=H) hF.toMF a aj aj.length i l hll Q l.length 0 (by omega);simp only [List.drop_zero,fD]at L1;have hF1s:(F.ins 18 (.map (ik (dN tk l)))).ow:=Fr.fm hF.ow;rw [bh]at M T;simp only [bx]at g2;simp only [lE]at g4;simp only [aH]at M T;simp [hia,ha,bh,ne,g2,g4,M,T];refine L1 _ (fun hfr=> ?_) (fun hfr=> ?_)
   ·clear L1;rw [if_pos hfr]at h1 h2;have hGs:pj r s (aj.take (i+1)):=(by rw [et];exact hG.snoc hT hAa hp (by rw [hl];exact hfr));have hTs:vr s (aj.take (i+1)) (dN tk l):=(by rw [et,←hl];exact hT.snoc);have aft:=(pj.after hS (et▸hGs):e9 r (kY s (aj.take i))∧_);rw [←hnx]at aft;have hD:=qS aft.1 hAa aft.2;have L2:=fun Q=>wg (H:=H) (a:=a) aj aj.length i l hll Q l.length 0 F tk (by omega) hF.ow hF.gm;simp only [List.drop_zero,fD]at L2;simp [ne];refine L2 _ ?_;clear L2;have q12:jK≠j6:=(by decide);have q13:jK≠sX:=(by decide);have q23:j6≠sX:=(by decide);have e1: ∀k,k≠18→(F.ins 18 (.map (ik (dN tk l)))).get k=F.get k:=fun k hk=>Fr.aF _ hk _;have sc1:SF (F.ins 18 (.map (ik (dN tk l)))) jK j6 sX nx:=hF.sc.other (e1 _ (by decide)) (e1 _ (by decide)) (e1 _ (by decide));have g71:=(e1 7 (by decide)).trans g7;have gm1:(F.ins 18 (.map (ik (dN tk l)))).get 18=some (.map (ik (dN tk l))):=Fr.bO ..;have g21:=(e1 2 (by decide)).trans hF.g2;have g41:=(e1 4 (by decide)).trans hF.g4;generalize F.ins 18 (.map (ik (dN tk l)))=F1 at hF1s sc1 g71 gm1 g21 g41⊢;obtain⟨u1,u2,u3,SS⟩:=sc1.self (f0:=[(10,fD a)]) (H:=H) hF1s q12 q13 q23;obtain⟨v1,v2,v3,b1,b2,b3,ed'⟩:=M9 (r:=r) (c:=62) SS hD aft.1.st (by simp);have LD:=nC (s:=nx) (w:=a.aY.toNat) hAk;obtain⟨F2,hF2⟩: ∃F2,((F1.ins jK (.arr 1 ((dt nx a.aY.toNat a).ak.map ba) v1 false)).ins j6 (.arr 2 ((dt nx a.aY.toNat a).ao.map bt.row) v2 false)).ins sX (.arr 2 ((dt nx a.aY.toNat a).aa.map cg.row) v3 false)=F2:=⟨_,rfl⟩;have hsc:fS ([(10,fD a)]::F1::H) (H.length,jK) (H.length,j6) (H.length,sX) v1 v2 v3 (dt nx a.aY.toNat a)=[(10,fD a)]::F2::H:=by
     rw [←hF2];simp [fS,ne]
    rw [hsc]at ed';have o2: ∀k,k≠jK→k≠j6→k≠sX→F2.get k=F1.get k:=fun k h1 h2 h3=>(by rw [←hF2,Fr.aF _ h3,Fr.aF _ h2,Fr.aF _ h1]);have enx:HI H.length r (dt nx a.aY.toNat a)=HI H.length r nx:=by simp only [HI,LD]
    have MX2:MX H.length F2 r s (dN tk l) (dt nx a.aY.toNat a):={
     g2:=(o2 2 (by decide) (by decide) (by decide)).trans g21
     g4:=(o2 4 (by decide) (by decide) (by decide)).trans g41
     gm:=(o2 18 (by decide) (by decide) (by decide)).trans gm1
     ow:=by rw [←hF2];exact Fr.fm (Fr.fm (Fr.fm hF1s))
     g7:=by rw [enx];exact(o2 7 (by decide) (by decide) (by decide)).trans g71
     sc:=⟨⟨v1,by omega,by rw [←hF2,Fr.aF _ q13,Fr.aF _ q12,Fr.bO]⟩,⟨v2,by omega,by rw [←hF2,Fr.aF _ q23,Fr.bO]⟩,⟨v3,by omega,by rw [←hF2,Fr.bO]⟩⟩}
    have ih':=ih (i+1) F2 (dN tk l) (dt nx a.aY.toNat a) (by omega) MX2 hTs hGs (by rw [hnx,et,iT];rfl) h1 h2;rw [bh]at ed';simp only [HI]at g71;simp only [qf,fD,DY]at ed';simp [ne,g71,W,ed',hw,DY];simpa using ih'
   ·clear L1;rw [if_neg hfr]at h2;have h2':=h2 (show (12:Int)≠0 by decide) rfl (F.ins 4 (bx r s)) (Fr.bO ..)
    simp only [bx]at h2'⊢;simp;exact h2'
end
section
variable {c:Nat} {H:ae}
theorem zX {r:aI}{s:az}{g:List ai}(hS:e9 r s)(hG:pj r s g):(kY s g).ak.length=s.ak.length∧(kY s g).ao.length=s.ao.length∧(kY s g).aa.length=s.aa.length:=by
 have a:=hG.snd hS;exact⟨a.pl.trans hS.pl.symm,a.hl.trans hS.hl.symm,a.tl.trans hS.tl.symm⟩
theorem vt {r:aI}{s:az}: ∀{g:List ai} {tk:List (Int×Int)} {nx:az} {i:Nat},(da r s g tk nx i).2.2=0→(da r s g tk nx i).2.1=0
 | [],_,_,_,_=>rfl
 |a::g,tk,nx,i,h=>by
  unfold da at h⊢;split at h
  ·simp at h
  ·rename_i h1;split at h
   ·rename_i h2;rw [if_neg h1,if_pos h2];exact vt h
   ·simp at h
theorem yV {r:aI}{s:az}(hS:e9 r s)(hW:WB r)(hFu:Full s)(ht0:s.aa≠[])(aj:List ai)(hal:aj.length≤1000000)(hA: ∀a∈aj,AB r a.aY.toNat a)(hH:0<H.length):
  aK KC (aE KC) 88 [.pure (.agg (aH r s)), .pure (.slice (aj.map ai.row))] c H=
   some (.pure (.tuple [.agg (aH r (da r s aj [] s 0).1), .int .i64 (da r s aj [] s 0).2.1, .int .i64 (da r s aj [] s 0).2.2]),H):=by
 refine aU (bw KC au Try.func88 rfl rfl B5 rfl rfl rfl (by simp) hH ?_);have k1:aq 17 28679=jK:=(by decide);have k2:aq 17 28683=j6:=(by decide);have k3:aq 17 28687=sX:=(by decide);have C:=Aq (c:=17) (H:=[(2,bx r s),(4,lE)]::H) r hFu ht0 (by simp) (by simp [k1,jK]) (by simp [k2,j6]) (by simp [k3,sX]);simp only [List.length_cons,Nat.add_sub_cancel,k1,k2,k3]at C;obtain⟨F0,hF0⟩: ∃F0:Fr,[(2,bx r s),(4,lE),(jK, .arr 1 (s.ak.map ba) 0 false),(j6, .arr 2 (s.ao.map bt.row) 0 false),(sX, .arr 2 (s.aa.map cg.row) 0 false)]=F0:=⟨_,rfl⟩;have hC:fS ([(2,bx r s),(4,lE)]::H) (H.length,jK) (H.length,j6) (H.length,sX) 0 0 0 s=F0::H:=by
  rw [←hF0];simp [fS,jK,j6,sX]
 rw [hC]at C;obtain⟨F1,hF1⟩: ∃F1,(F0.ins 7 (HI H.length r s)).ins 18 (.map [])=F1:=⟨_,rfl⟩;have f07:F0.get 7=none:=(by rw [←hF0];simp [jK,j6,sX]);have f018:F0.get 18=none:=(by rw [←hF0];simp [jK,j6,sX]);have o1: ∀k,k≠7→k≠18→F1.get k=F0.get k:=fun k h1 h2=>by rw [←hF1,Fr.aF _ h2,Fr.aF _ h1]
 have MX1:MX H.length F1 r s [] s:={
  g2:=(o1 2 (by decide) (by decide)).trans (by rw [←hF0];simp)
  g4:=(o1 4 (by decide) (by decide)).trans (by rw [←hF0];simp)
  gm:=by rw [←hF1,Fr.bO];rfl
  ow:=by
   rw [←hF1];refine Fr.fm (Fr.fm ?_);rw [←hF0];simp [Fr.ow,jK,j6,sX]
  g7:=by rw [←hF1,Fr.aF _ (by decide),Fr.bO]
  sc:=⟨⟨0,Nat.zero_le _,(o1 _ (by decide) (by decide)).trans (by rw [←hF0];simp [jK,j6,sX])⟩,⟨0,Nat.zero_le _,(o1 _ (by decide) (by decide)).trans (by rw [←hF0];simp [jK,j6,sX])⟩,⟨0,Nat.zero_le _,(o1 _ (by decide) (by decide)).trans (by rw [←hF0];simp [jK,j6,sX])⟩⟩}
 have L1:=fun Q=>DZ (H:=H) hS hW aj hal hA Q aj.length 0 F1 [] s (by omega) MX1 (fun x=>by simp) ⟨fun a ha=>by simp at ha,by simp⟩ rfl;simp only [List.drop_zero]at L1;simp only [aH,qf,bx,lE]at C;have f018':(F0.ins 7 (HI H.length r s)).get 18=none:=(Fr.aF _ (by decide) _).trans f018;simp only [HI]at hF1 f018';unfold aH;simp [C,f07,f018',Fr.bO,Fr.jj,hF1];refine L1 _ (fun he F' hF' hG hm=> ?_) (fun he hm F' h4=> ?_)
 ·obtain⟨tk',hF'⟩:=hF';have g7:=hF'.g7;have g4:=hF'.g4;have LL:=zX hS hG;rw [hm]at hF' g7;obtain⟨v1,a1,b1⟩:=hF'.sc.h1;obtain⟨v2,a2,b2⟩:=hF'.sc.h2;obtain⟨v3,a3,b3⟩:=hF'.sc.h3;have o4: ∀(x:dW) (k:Nat),k≠4→(F'.ins 4 x).get k=F'.get k:=fun x k hk=>Fr.aF _ hk _;have c1:=fun x=>(o4 x jK (by decide)).trans b1;have c2:=fun x=>(o4 x j6 (by decide)).trans b2;have c3:=fun x=>(o4 x sX (by decide)).trans b3;have hat:=vt he;rw [hm];simp only [HI]at g7;simp only [lE]at g4;simp [g7,g4,aD,Fr.bO]
  have fin: ∀x,fB KC 88 c (.tuple [.agg [.pure (.int .i64 r.wide), .pure (.int .i64 r.deep), .pure (.slice (r.ak.map bA.row)), .pure (.slice (r.aa.map bU.row)), .pure (.slice (r.seen.map ba)), .pure (.slice (r.bg.map ba)), .pure (.slice (r.aj.map ai.row)), .ay (H.length,jK) 1 (kY s aj).ak.length 0 (kY s aj).ak.length, .ay (H.length,j6) 2 (kY s aj).ao.length 0 (kY s aj).ao.length, .ay (H.length,sX) 2 (kY s aj).aa.length 0 (kY s aj).aa.length], .pure (.int .i64 0), .pure (.int .i64 0)]) (F'.ins 4 x::H)=
    some (.pure (.tuple [.agg (aH r (kY s aj)), .int .i64 0, .int .i64 0]),H):=fun x=>by
   have d1:=c1 x;have d2:=c2 x;have d3:=c3 x;generalize F'.ins 4 x=F5 at d1 d2 d3;have hnl: ¬H.length≤H.length-1:=(by omega);rw [ah (by simp)];simp [hnl,d1,d2,d3,a1,a2,a3,aH];exact⟨List.take_of_length_le (by simp),List.take_of_length_le (by simp),List.take_of_length_le (by simp)⟩
  rw [fin,nF,hat,he];simp only [aH]
 ·rw [hm];simp only [bx]at h4;simp [h4,ah]
end
section
variable {c:Nat} {H:ae}
theorem Na {s:az}{w:Nat}{a:ai}(hb:LC s w a)(h:s.aa=[]):a.kind=1:=by
 have hk:=hb.kind;have e:s.aa.length=0:=(by rw [h];rfl);by_cases k1:a.kind=1
 ·exact k1
 ·by_cases k2:a.kind=2
  ·obtain⟨t,_,ht⟩:=hb.take k2;omega
  ·obtain⟨t,_,ht⟩:=hb.held (by omega);omega
theorem HJ {r:aI}{s:az}{w:Nat}{a:ai}{n1 n2:Nm}{v1:Nat}(g1:H.get n1=some (.arr 1 (s.ak.map ba) v1 false))(e1:v1≤s.ak.length)(g2:n2.1<H.length)(hp:w<s.ak.length)(hwho:a.aY=w)(k:a.kind=1)(hH:0<H.length):
  aK KC (aE KC) 109 [OW r n1 n2 s, .pure (.agg a.row)] c H=some (.pure (.tuple []),H.set n1 (.arr 1 ((dt s w a).ak.map ba) s.ak.length false)):=by
 have l1:=ae.cj g1;have d1: ¬n1.1=H.length:=(by omega);have d2: ¬n2.1=H.length:=(by omega);have hd:=jo (s:=s) (w:=w) k;refine aU (bJ KC au Try.func109 rfl rfl y8 rfl rfl rfl (by simp) hH ?_);rw [bh];unfold OW;simp [d1,d2,g1,e1,hp,hwho,ba,aD,ah,hd]
def HK (L:Nat)(r:aI)(s:az):dW:= .box [.pure (.int .i64 r.wide), .pure (.int .i64 r.deep), .pure (.slice (r.ak.map bA.row)), .pure (.slice (r.aa.map bU.row)), .pure (.slice (r.seen.map ba)), .pure (.slice (r.bg.map ba)), .pure (.slice (r.aj.map ai.row)), .ay (L,jK) 1 s.ak.length 0 s.ak.length, .ay (L,j6) 2 s.ao.length 0 s.ao.length, .aO]
structure ME (L:Nat)(F:Fr)(r:aI)(s:az)(tk:List (Int×Int))(nx:az):Prop extends MF F r s tk where
 ow:F.ow
 g7:F.get 7=some (HK L r nx)
 h1: ∃v,v≤nx.ak.length∧F.get jK=some (.arr 1 (nx.ak.map ba) v false)
 h2:F.get j6=some (.arr 2 (nx.ao.map bt.row) 0 false)
theorem BA {r:aI}{s:az}(ht0:r.aa=[])(hS:e9 r s)(hW:WB r)(aj:List ai)(hal:aj.length≤1000000)(hA: ∀a∈aj,AB r a.aY.toNat a)(Q:GX→bE→Prop):
  ∀(k i:Nat) (F:Fr) (tk:List (Int×Int)) (nx:az),i+k=aj.length→ME H.length F r s tk nx→vr s (aj.take i) tk→pj r s (aj.take i)→nx=kY s (aj.take i)→
  ((da r s (aj.drop i) tk nx i).2.2=0→ ∀F',(∃tk',ME H.length F' r s tk' (da r s (aj.drop i) tk nx i).1)→pj r s aj→(da r s (aj.drop i) tk nx i).1=kY s aj→Q (.exit 0) ⟨[(4, .aA (H.length,4) 0),(5,aG),(6,aG),(7, .aA (H.length,7) 0)],F'::H,65⟩)→
  ((da r s (aj.drop i) tk nx i).2.2≠0→(da r s (aj.drop i) tk nx i).1=s→ ∀F',F'.get 4=some (bx r s)→Q .ret ⟨[(4, .aA (H.length,4) 0),(5, .pure (.int .i64 (da r s (aj.drop i) tk nx i).2.1)),(6, .pure (.int .i64 (da r s (aj.drop i) tk nx i).2.2)),(7, .aA (H.length,7) 0)],F'::H,65⟩)→
  jf KC au 88 (lp Try.f88 0) [2,4,7,8,19,20,21] [4,5,6,7] Q
   [(2, .aA (H.length,2) 0),(4, .aA (H.length,4) 0),(7, .aA (H.length,7) 0),(8, .map (H.length,18)),(19, .pure (.slice (aj.map ai.row))),(20, .pure (.int .i64 aj.length)),(21, .pure (.int .i64 i))] (F::H) 65:=by
 intro k
 induction k with
 |zero=>
  intro i F tk nx hi hF hT hG hnx h1 h2;apply aw;conv=>arg 4;whnf
  have hnl: ¬i<aj.length:=(by omega);have e:aj.drop i=[]:=List.drop_of_length_le (by omega);have et:aj.take i=aj:=List.take_of_length_le (by omega);rw [e]at h1;simp [hnl];exact h1 rfl F ⟨tk,hF⟩ (et▸hG) (by show nx=_;rw [hnx,et])
 |succ k ih=>
  intro i F tk nx hi hF hT hG hnx h1 h2;have hia:i<aj.length:=(by omega);have hw:=dM (x:=(i:Int)+1) (by omega) (by omega);have ed:aj.drop i=aj[i]::aj.drop (i+1):=List.drop_eq_getElem_cons hia;have et:aj.take (i+1)=aj.take i++[aj[i]]:=List.take_succ_eq_append_getElem hia;have ne: ¬H.length=H.length+1:=(by omega);obtain⟨a,ha⟩: ∃a,aj[i]=a:=⟨_,rfl⟩;have hAa:AB r a.aY.toNat a:=hA a (ha▸List.getElem_mem hia);obtain⟨w,hwq⟩: ∃w,a.aY.toNat=w:=⟨_,rfl⟩;rw [ha]at ed et;rw [ed]at h1 h2;unfold da at h1 h2;have g2:=hF.g2;have g4:=hF.g4;have g7:=hF.g7;have M:=fun c (H:ae) (hH:0<H.length)=>uy (c:=c) (H:=H) hS hW hAa hH;have T:=fun c (H:ae) (hH:0<H.length)=>pk (c:=c) (H:=H) hS hAa hH;have hAk:=hAa.kind;have kk:((a.kind.toNat:Nat):Int)=a.kind:=(by omega);have W:=fun c (H:ae) (hH:0<H.length)=>xY (c:=c) (H:=H) (k:=a.kind.toNat) (by omega) hH;rw [kk]at W;apply aw;conv=>arg 4;whnf
  cases hp:cd r s a.aY.toNat a with
  |false=>
   rw [hp]at M;simp only [hp,if_true]at h2;have h2':=h2 (by decide) trivial (F.ins 4 (bx r s)) (Fr.bO ..);rw [bh]at M;simp only [bx]at g2 h2';simp only [lE]at g4;simp only [aH]at M;simp [hia,ha,bh,ne,g2,g4,M,aD];exact h2'
  |true=>
   rw [hp]at M;obtain⟨l,hl⟩: ∃l,eG s a.aY.toNat a=l:=⟨_,rfl⟩;have hll:l.length≤1000:=by
    rw [←hl];unfold eG
    repeat' split
    all_goals simp
   rw [hl]at T h1 h2;simp only [hp,Bool.true_eq_false,if_false]at h1 h2;have L1:=fun Q=>tg (H:=H) hF.toMF a aj aj.length i l hll Q l.length 0 (by omega);simp only [List.drop_zero,fD]at L1;have hF1s:(F.ins 18 (.map (ik (dN tk l)))).ow:=Fr.fm hF.ow;rw [bh]at M T;simp only [bx]at g2;simp only [lE]at g4;simp only [aH]at M T;simp [hia,ha,bh,ne,g2,g4,M,T];refine L1 _ (fun hfr=> ?_) (fun hfr=> ?_)
   ·clear L1;rw [if_pos hfr]at h1 h2;have hGs:pj r s (aj.take (i+1)):=(by rw [et];exact hG.snoc hT hAa hp (by rw [hl];exact hfr));have hTs:vr s (aj.take (i+1)) (dN tk l):=(by rw [et,←hl];exact hT.snoc);have aft:=(pj.after hS (et▸hGs):e9 r (kY s (aj.take i))∧_);rw [←hnx]at aft;have hD:=qS aft.1 hAa aft.2;have L2:=fun Q=>wg (H:=H) (a:=a) aj aj.length i l hll Q l.length 0 F tk (by omega) hF.ow hF.gm;simp only [List.drop_zero,fD]at L2;simp [ne];refine L2 _ ?_;clear L2;have q12:jK≠j6:=(by decide);have q21:j6≠jK:=(by decide);have e1: ∀k,k≠18→(F.ins 18 (.map (ik (dN tk l)))).get k=F.get k:=fun k hk=>Fr.aF _ hk _;obtain⟨u1,w1,hh1⟩:=hF.h1;have hh1':=(e1 jK (by decide)).trans hh1;have hh2':=(e1 j6 (by decide)).trans hF.h2;have g71:=(e1 7 (by decide)).trans g7;have gm1:(F.ins 18 (.map (ik (dN tk l)))).get 18=some (.map (ik (dN tk l))):=Fr.bO ..;have g21:=(e1 2 (by decide)).trans hF.g2;have g41:=(e1 4 (by decide)).trans hF.g4;generalize F.ins 18 (.map (ik (dN tk l)))=F1 at hF1s hh1' hh2' g71 gm1 g21 g41⊢;have hnt:nx.aa=[]:=List.eq_nil_of_length_eq_zero (by rw [aft.1.tl,ht0];rfl);have hk1:=Na hD hnt;have ed':=HJ (H:=[(10,fD a)]::F1::H) (c:=62) (r:=r) (s:=nx) (w:=a.aY.toNat) (a:=a) (n1:=(H.length,jK)) (n2:=(H.length,j6)) (v1:=u1) (by simp [ne,hh1']) w1 (by simp;omega) hD.hp hD.aY hk1 (by simp);have LD:=nC (s:=nx) (w:=a.aY.toNat) hAk;have LH:(dt nx a.aY.toNat a).ao=nx.ao:=(by rw [jo hk1]);obtain⟨F2,hF2⟩: ∃F2,F1.ins jK (.arr 1 ((dt nx a.aY.toNat a).ak.map ba) nx.ak.length false)=F2:=⟨_,rfl⟩;have hsc:ae.set ([(10,fD a)]::F1::H) (H.length,jK) (.arr 1 ((dt nx a.aY.toNat a).ak.map ba) nx.ak.length false)=[(10,fD a)]::F2::H:=by
     rw [←hF2];simp [ne]
    rw [hsc]at ed';have o2: ∀k,k≠jK→F2.get k=F1.get k:=fun k h1=>(by rw [←hF2,Fr.aF _ h1]);have enx:HK H.length r (dt nx a.aY.toNat a)=HK H.length r nx:=by simp only [HK,LD]
    have MX2:ME H.length F2 r s (dN tk l) (dt nx a.aY.toNat a):={
     g2:=(o2 2 (by decide)).trans g21
     g4:=(o2 4 (by decide)).trans g41
     gm:=(o2 18 (by decide)).trans gm1
     ow:=by rw [←hF2];exact Fr.fm hF1s
     g7:=by rw [enx];exact(o2 7 (by decide)).trans g71
     h1:=⟨nx.ak.length,by omega,by rw [←hF2,Fr.bO]⟩
     h2:=by rw [LH];exact(o2 j6 q21).trans hh2'}
    have ih':=ih (i+1) F2 (dN tk l) (dt nx a.aY.toNat a) (by omega) MX2 hTs hGs (by rw [hnx,et,iT];rfl) h1 h2;rw [bh]at ed';simp only [HK]at g71;simp only [OW,fD]at ed';rw [hk1]at ed';rw [hk1]at W;simp at W;simp [hk1,ne,g71,W,ed',hw];simpa using ih'
   ·clear L1;rw [if_neg hfr]at h2;have h2':=h2 (show (12:Int)≠0 by decide) rfl (F.ins 4 (bx r s)) (Fr.bO ..)
    simp only [bx]at h2'⊢;simp;exact h2'
theorem yW {r:aI}{s:az}(hS:e9 r s)(hW:WB r)(hFu:Full s)(ht0:r.aa=[])(aj:List ai)(hal:aj.length≤1000000)(hA: ∀a∈aj,AB r a.aY.toNat a)(hH:0<H.length):
  aK KC (aE KC) 88 [.pure (.agg (aH r s)), .pure (.slice (aj.map ai.row))] c H=
   some (.pure (.tuple [.agg (aH r (da r s aj [] s 0).1), .int .i64 (da r s aj [] s 0).2.1, .int .i64 (da r s aj [] s 0).2.2]),H):=by
 refine aU (bw KC au Try.func88 rfl rfl B5 rfl rfl rfl (by simp) hH ?_);have k1:aq 17 28679=jK:=(by decide);have k2:aq 17 28683=j6:=(by decide);have hst:s.aa=[]:=List.eq_nil_of_length_eq_zero (by rw [hS.tl,ht0];rfl);have C:=x7 (c:=17) (H:=[(2,bx r s),(4,lE)]::H) r hFu hst (by simp) (by simp [k1,jK]) (by simp [k2,j6]);simp only [List.length_cons,Nat.add_sub_cancel,k1,k2]at C;obtain⟨F0,hF0⟩: ∃F0:Fr,[(2,bx r s),(4,lE),(jK, .arr 1 (s.ak.map ba) 0 false),(j6, .arr 2 (s.ao.map bt.row) 0 false)]=F0:=⟨_,rfl⟩;have hC:ae.set (ae.set ([(2,bx r s),(4,lE)]::H) (H.length,jK) (.arr 1 (s.ak.map ba) 0 false)) (H.length,j6) (.arr 2 (s.ao.map bt.row) 0 false)=F0::H:=by
  rw [←hF0];simp [jK,j6]
 rw [hC]at C;obtain⟨F1,hF1⟩: ∃F1,(F0.ins 7 (HK H.length r s)).ins 18 (.map [])=F1:=⟨_,rfl⟩;have f07:F0.get 7=none:=(by rw [←hF0];simp [jK,j6]);have f018:F0.get 18=none:=(by rw [←hF0];simp [jK,j6]);have o1: ∀k,k≠7→k≠18→F1.get k=F0.get k:=fun k h1 h2=>by rw [←hF1,Fr.aF _ h2,Fr.aF _ h1]
 have MX1:ME H.length F1 r s [] s:={
  g2:=(o1 2 (by decide) (by decide)).trans (by rw [←hF0];simp)
  g4:=(o1 4 (by decide) (by decide)).trans (by rw [←hF0];simp)
  gm:=by rw [←hF1,Fr.bO];rfl
  ow:=by
   rw [←hF1];refine Fr.fm (Fr.fm ?_);rw [←hF0];simp [Fr.ow,jK,j6]
  g7:=by rw [←hF1,Fr.aF _ (by decide),Fr.bO]
  h1:=⟨0,Nat.zero_le _,(o1 _ (by decide) (by decide)).trans (by rw [←hF0];simp [jK,j6])⟩
  h2:=(o1 _ (by decide) (by decide)).trans (by rw [←hF0];simp [jK,j6])}
 have L1:=fun Q=>BA (H:=H) ht0 hS hW aj hal hA Q aj.length 0 F1 [] s (by omega) MX1 (fun x=>by simp) ⟨fun a ha=>by simp at ha,by simp⟩ rfl;simp only [List.drop_zero]at L1;simp only [aH,OW,bx,lE]at C;have f018':(F0.ins 7 (HK H.length r s)).get 18=none:=(Fr.aF _ (by decide) _).trans f018;simp only [HK]at hF1 f018';unfold aH;simp [C,f07,f018',Fr.bO,Fr.jj,hF1];refine L1 _ (fun he F' hF' hG hm=> ?_) (fun he hm F' h4=> ?_)
 ·obtain⟨tk',hF'⟩:=hF';have g7:=hF'.g7;have g4:=hF'.g4;have LL:=zX hS hG;rw [hm]at hF' g7;obtain⟨v1,a1,b1⟩:=hF'.h1;have b2:=hF'.h2;have hft:(kY s aj).aa=[]:=List.eq_nil_of_length_eq_zero (by rw [LL.2.2,hst];rfl);have o4: ∀(x:dW) (k:Nat),k≠4→(F'.ins 4 x).get k=F'.get k:=fun x k hk=>Fr.aF _ hk _;have c1:=fun x=>(o4 x jK (by decide)).trans b1;have c2:=fun x=>(o4 x j6 (by decide)).trans b2;have hat:=vt he;rw [hm];simp only [HK]at g7;simp only [lE]at g4;simp [g7,g4,aD,Fr.bO]
  have fin: ∀x,fB KC 88 c (.tuple [.agg [.pure (.int .i64 r.wide), .pure (.int .i64 r.deep), .pure (.slice (r.ak.map bA.row)), .pure (.slice (r.aa.map bU.row)), .pure (.slice (r.seen.map ba)), .pure (.slice (r.bg.map ba)), .pure (.slice (r.aj.map ai.row)), .ay (H.length,jK) 1 (kY s aj).ak.length 0 (kY s aj).ak.length, .ay (H.length,j6) 2 (kY s aj).ao.length 0 (kY s aj).ao.length, .aO], .pure (.int .i64 0), .pure (.int .i64 0)]) (F'.ins 4 x::H)=
    some (.pure (.tuple [.agg (aH r (kY s aj)), .int .i64 0, .int .i64 0]),H):=fun x=>by
   have d1:=c1 x;have d2:=c2 x;generalize F'.ins 4 x=F5 at d1 d2;have hnl: ¬H.length≤H.length-1:=(by omega);rw [ah (by simp)];simp [hnl,d1,d2,a1,aH,hft];exact⟨List.take_of_length_le (by simp),List.take_of_length_le (by simp)⟩
  rw [fin,nF,hat,he];simp only [aH]
 ·rw [hm];simp only [bx]at h4;simp [h4,ah]
theorem uf {r:aI}{s:az}(hS:e9 r s)(hW:WB r)(hFu:Full s)(aj:List ai)(hal:aj.length≤1000000)(hA: ∀a∈aj,AB r a.aY.toNat a)(hH:0<H.length):
  aK KC (aE KC) 88 [.pure (.agg (aH r s)), .pure (.slice (aj.map ai.row))] c H=
   some (.pure (.tuple [.agg (aH r (da r s aj [] s 0).1), .int .i64 (da r s aj [] s 0).2.1, .int .i64 (da r s aj [] s 0).2.2]),H):=by
 by_cases h:s.aa=[]
 ·exact yW hS hW hFu (List.eq_nil_of_length_eq_zero (by rw [←hS.tl,h];rfl)) aj hal hA hH
 ·exact yV hS hW hFu h aj hal hA hH
end
section
variable {c:Nat} {H:ae}
def ep (a:ai):ai→Bool:=fun b=>b.aQ==a.aQ
noncomputable def dn (r:aI):Nat→az→List ai→Nat→List az×az×Int×Int
 |0,s,_,_=>([],s,-1,0)
 |_+1,s,[],_=>([],s,-1,0)
 |k+1,s,a::rest,i=>
  let g:=(a::rest).takeWhile (ep a)
  let m:=da r s g [] s 0
  if m.2.2≠0 then ([],s,i+m.2.1,m.2.2)
  else let q:=dn r k m.1 ((a::rest).drop g.length) (i+g.length);(m.1::q.1,q.2)
def sY (r:aI)(s:az):Fr:=[(3,bx r s),(6,lE)]
theorem HL {r:aI}{s:az}(g:GV)(aj:List ai)(hal:aj.length≤1000000)(i:Nat)(hi:i<aj.length)(V:ae)(hcl: ∀f2,clean (f2::[]::sY r s::V) (V.length+1) g=g)(Q:GX→bE→Prop): ∀k j:Nat,j+k=aj.length→
  Q (.exit 2) ⟨[(1, .pure (.slice (aj.map ai.row))),(2,g),(3, .aA (V.length,3) 0),(6, .aA (V.length,6) 0),(9, .pure (.int .i64 i)),(10, .pure (.int .i64 ((j+((aj.drop j).takeWhile (ep aj[i])).length:Nat):Int)))],[]::sY r s::V,64⟩→
  jf KC au 73 (lp Try.f73 1) [1,2,3,6,9,10] [1,2,3,6,9,10] Q
   [(1, .pure (.slice (aj.map ai.row))),(2,g),(3, .aA (V.length,3) 0),(6, .aA (V.length,6) 0),(9, .pure (.int .i64 i)),(10, .pure (.int .i64 j))] ([]::sY r s::V) 64:=by
 intro k
 induction k with
 |zero=>
  intro j hj h1;have e:aj.drop j=[]:=List.drop_of_length_le (by omega);rw [e]at h1;have hnl: ¬j<aj.length:=(by omega);apply aw;conv=>arg 4;whnf
  simp [sY]at hcl;simp [hnl,sY,hcl];simpa [sY]using h1
 |succ k ih=>
  intro j hj h1;have hja:j<aj.length:=(by omega);have hw:=dM (x:=(j:Int)+1) (by omega) (by omega);have ed:aj.drop j=aj[j]::aj.drop (j+1):=List.drop_eq_getElem_cons hja;rw [ed,List.takeWhile_cons]at h1;simp [sY]at hcl;apply aw;conv=>arg 4;whnf
  cases he:(aj[j].aQ==aj[i].aQ)with
  |true=>
   rw [show ep aj[i] aj[j]=true from he]at h1
   simp only [if_true,List.length_cons]at h1;have ih':=ih (j+1) (by omega) (by rw [show j+1+((aj.drop (j+1)).takeWhile (ep aj[i])).length=j+(((aj.drop (j+1)).takeWhile (ep aj[i])).length+1)by omega];exact h1)
   simp [hja,hi,bh,he,hw,sY,hcl];simpa [sY]using ih'
  |false=>
   rw [show ep aj[i] aj[j]=false from he]at h1
   simp [hja,hi,bh,he,sY,hcl];simpa [sY]using h1
theorem oZ {r:aI}{s:az}: ∀{g p:List ai} {tk:List (Int×Int)} {nx:az} {i:Nat},vr s p tk→pj r s p→nx=kY s p→(∀a∈g,AB r a.aY.toNat a)→(da r s g tk nx i).2.2=0→pj r s (p++g)∧(da r s g tk nx i).1=kY s (p++g)
 | [],p,tk,nx,i,_,hG,hn,_,_=>by rw [List.append_nil];exact⟨hG,hn⟩
 |a::g,p,tk,nx,i,hT,hG,hn,hA,h=>by
  unfold da at h⊢;split at h
  ·simp at h
  ·rename_i h1;split at h
   ·rename_i h2;have h1':cd r s a.aY.toNat a=true:=(by simpa using h1);have:=oZ (hT.snoc (a:=a)) (hG.snoc hT (hA a (List.mem_cons_self ..)) h1' h2) (by rw [hn,iT];rfl) (fun b hb=>hA b (List.mem_cons_of_mem _ hb)) h;rw [if_neg h1,if_pos h2]
    rwa [List.append_assoc,List.singleton_append]at this
   ·simp at h
theorem xz {r:aI}{s:az}: ∀{g:List ai} {tk:List (Int×Int)} {nx:az} {i:Nat},(da r s g tk nx i).2.2≠0→(da r s g tk nx i).1=s
 | [],_,_,_,h=>absurd rfl h
 |a::g,tk,nx,i,h=>by
  unfold da at h⊢;split
  ·rfl
  ·rename_i h1;rw [if_neg h1]at h;split
   ·rename_i h2;rw [if_pos h2]at h;exact xz h
   ·rfl
theorem xA {r:aI}{s:az}: ∀{g:List ai} {tk:List (Int×Int)} {nx:az} {i:Nat},0≤(da r s g tk nx i).2.1∧(da r s g tk nx i).2.1≤i+g.length
 | [],_,_,i=>by simp [da]
 |a::g,tk,nx,i=>by
  unfold da;split
  ·simp only [List.length_cons];omega
  ·split
   ·have:=xA (r:=r) (s:=s) (g:=g) (tk:=dN tk (eG s a.aY.toNat a)) (nx:=dt nx a.aY.toNat a) (i:=i+1);simp only [List.length_cons];omega
   ·simp only [List.length_cons];omega
theorem vc {r:aI}{s s':az}(h:e9 r s)(h':e9 r s')(hF:Full s):Full s':=by
 have e1:=h'.pl.trans h.pl.symm;have e2:=h'.hl.trans h.hl.symm;have e3:=h'.tl.trans h.tl.symm;have a1:=List.length_pos_iff.2 hF.p0;have a2:=List.length_pos_iff.2 hF.h0;have:=hF.pl;have:=hF.hl;have:=hF.tl;exact⟨List.length_pos_iff.1 (by omega),List.length_pos_iff.1 (by omega),by omega,by omega,by omega⟩
theorem D0 {r:aI} (hW:WB r) (g:GV) (aj:List ai) (hal:aj.length≤1000000) (hA: ∀a∈aj,AB r a.aY.toNat a) (V:List az→ae) (LV:Nat) (hV: ∀l,(V l).length=LV) (hV0:0<LV)
  (hcl0: ∀f1 f0 l,clean (f1::f0::V l) LV g=g) (hcl1: ∀f2 f1 f0 l,clean (f2::f1::f0::V l) (LV+1) g=g)
  (hsee: ∀l s' c f1 f0,l.length≤1000001→e9 r s'→Full s'→cV KC (aE KC) g [.pure (.agg (aH r s'))] c (f1::f0::V l)=some (.pure (.tuple []),f1::f0::V (l++[s'])))
  (Q:GX→bE→Prop): ∀(k i:Nat) (s:az) (l:List az),aj.length-i≤k→i≤aj.length→l.length≤i+1→e9 r s→Full s→
  ((dn r k s (aj.drop i) i).2.2.2=0→Q (.exit 0) ⟨[(3, .aA (LV,3) 0),(6, .aA (LV,6) 0),(7,aG),(8,aG)],sY r (dn r k s (aj.drop i) i).2.1::V (l++(dn r k s (aj.drop i) i).1),64⟩)→
  ((dn r k s (aj.drop i) i).2.2.2≠0→ ∀s',Q .ret ⟨[(3, .aA (LV,3) 0),(6, .aA (LV,6) 0),(7, .pure (.int .i64 (dn r k s (aj.drop i) i).2.2.1)),(8, .pure (.int .i64 (dn r k s (aj.drop i) i).2.2.2))],[(3,bx r s'),(6,bx r (dn r k s (aj.drop i) i).2.1)]::V (l++(dn r k s (aj.drop i) i).1),64⟩)→
  jf KC au 73 (lp Try.f73 0) [1,2,3,6,9] [3,6,7,8] Q
   [(1, .pure (.slice (aj.map ai.row))),(2,g),(3, .aA (LV,3) 0),(6, .aA (LV,6) 0),(9, .pure (.int .i64 i))] (sY r s::V l) 64:=by
 intro k
 induction k with
 |zero=>
  intro i s l hk hi hll hS hF h1 h2;have hnl: ¬i<aj.length:=(by omega);have e:i=aj.length:=(by omega);apply aw;conv=>arg 4;whnf
  simp [dn]at h1;simp [hnl,hV,sY];simpa [sY]using h1
 |succ k ih=>
  intro i s l hk hi hll hS hF h1 h2;by_cases hia:i<aj.length
  ·have ed:aj.drop i=aj[i]::aj.drop (i+1):=List.drop_eq_getElem_cons hia;obtain⟨a,ha⟩: ∃a,aj[i]=a:=⟨_,rfl⟩;rw [ha]at ed;obtain⟨gr,hgr⟩: ∃gr,(a::aj.drop (i+1)).takeWhile (ep a)=gr:=⟨_,rfl⟩;have hg1:1≤gr.length:=by
    rw [←hgr,List.takeWhile_cons,show ep a a=true from by simp [ep]]
    simp
   have hgp:gr<+:aj.drop i:=(by rw [ed,←hgr];exact List.takeWhile_prefix _);have hgl:i+gr.length≤aj.length:=(by have:=hgp.length_le;simp at this;omega);have hgt:gr=(aj.drop i).take gr.length:=List.prefix_iff_eq_take.1 hgp;have hsl:List.drop i (List.take (i+gr.length) (aj.map ai.row))=gr.map ai.row:=by
    rw [←List.map_take,←List.map_drop];congr 1;rw [List.drop_take,Nat.add_sub_cancel_left];exact hgt.symm
   have hgA: ∀b∈gr,AB r b.aY.toNat b:=fun b hb=>hA b (List.mem_of_mem_drop (hgp.subset hb));have hgal:gr.length≤1000000:=(by omega);have M:=fun c (H:ae) (hH:0<H.length)=>uf (c:=c) (H:=H) hS hW hF gr hgal hgA hH;obtain⟨m,hm⟩: ∃m,da r s gr [] s 0=m:=⟨_,rfl⟩;have hbad:=xz (r:=r) (s:=s) (g:=gr) (tk:=[]) (nx:=s) (i:=0);have hgood:=oZ (r:=r) (s:=s) (g:=gr) (p:=[]) (tk:=[]) (nx:=s) (i:=0) (fun x=>by simp) ⟨fun a ha=>by simp at ha,by simp⟩ rfl hgA;have hrng:=xA (r:=r) (s:=s) (g:=gr) (tk:=[]) (nx:=s) (i:=0);rw [hm]at M hbad hgood hrng;rw [ed]at h1 h2;unfold dn at h1 h2;simp only [hgr,hm]at h1 h2;have L1:=fun Q=>HL (r:=r) (s:=s) g aj hal i hia (V l) (fun f2=>by rw [hV];exact hcl1 _ _ _ _) Q (aj.length-i) i (by omega);rw [ed,ha,hgr]at L1;simp only [hV,sY]at L1;have hc0:=hcl0;obtain⟨e,hee⟩: ∃e,i+gr.length=e:=⟨_,rfl⟩;rw [hee]at L1 hsl hgl;have hle: ¬(e:Int)<(i:Int):=(by omega);have hle2:i≤e:=(by omega);have hmin:min e aj.length=e:=(by omega);have hrl: ∀x:ai,x.row.length=9:=fun _=>rfl;obtain⟨x1,x2,x3⟩:=m;simp only at hbad hgood hrng h1 h2 M;have hw:=dM (x:=(i:Int)+x2) (by omega) (by omega);apply aw;conv=>arg 4;whnf
   simp [hia,hV,sY];refine L1 _ ?_;clear L1;simp only [bx,lE];simp only [aH]at M;by_cases he:x3=0
   ·subst he;obtain⟨hG,hx1⟩:=hgood rfl;have hS1:e9 r x1:=(by rw [hx1];exact hG.snd hS);have hF1:=vc hS hS1 hF;simp only [ne_eq,not_true_eq_false,if_false]at h1 h2;have edr:(a::aj.drop (i+1)).drop gr.length=aj.drop (i+gr.length):=(by rw [←ed,List.drop_drop]);rw [edr,hee]at h1 h2;have ih':=ih e x1 (l++[x1]) (by omega) hgl (by simp;omega) hS1 hF1 (fun h=>by rw [List.append_assoc];exact h1 h) (fun h s'=>by rw [List.append_assoc];exact h2 h s');have SE:=fun c f1 f0=>hsee l x1 c f1 f0 (by omega) hS1 hF1;simp only [aH]at SE;simp only [sY,bx,lE]at ih';simp [hV,hle,hle2,hgl,hmin,hsl,hrl,M,SE,aD,hcl0];exact ih'
   ·have hx1:=hbad he;have he':(x3 !=0)=true:=(by simpa using he);simp only [ne_eq,he,not_false_eq_true,if_true]at h2;have h2':=h2 trivial s;simp only [bx,List.append_nil]at h2';simp only [hx1]at M;simp [hV,hle,hle2,hgl,hmin,hsl,hrl,M,he',aD,hw];exact h2'
  ·have e:aj.drop i=[]:=List.drop_of_length_le (by omega);rw [e]at h1;apply aw;conv=>arg 4;whnf
   simp [dn]at h1;simp [hia,hV,sY];simpa [sY]using h1
end
section
variable {c:Nat} {H:ae}
structure PD (r:aI)(g:GV)(V:List az→ae)(LV:Nat):Prop where
 len: ∀l,(V l).length=LV
 pos:0<LV
 can:canon g=g
 BH: ∀H,cZ H g=(g,H)
 cl: ∀(fs:List Fr) l n,LV-1≤n→clean (fs++V l) n g=g
 Sq: ∀(fs:List Fr) l s' c,fs≠[]→l.length≤1000001→e9 r s'→Full s'→cV KC (aE KC) g [.pure (.agg (aH r s'))] c (fs++V l)=some (.pure (.tuple []),fs++V (l++[s']))
theorem vo {r:aI}(hW:WB r){g:GV}{V:List az→ae}{LV:Nat}(hg:PD r g V LV)(aj:List ai)(hal:aj.length≤1000000)(hA: ∀a∈aj,AB r a.aY.toNat a){s:az}(hS:e9 r s)(hF:Full s):
  bG KC (aE KC) 73 [.pure (.agg (aH r s)), .pure (.slice (aj.map ai.row)),g] c (V [])=
   some (.pure (.tuple [.agg (aH r (dn r aj.length s aj 0).2.1), .int .i64 (dn r aj.length s aj 0).2.2.1, .int .i64 (dn r aj.length s aj 0).2.2.2]),V (s::(dn r aj.length s aj 0).1)):=by
 have hV:=hg.len;refine aU (aM KC au Try.func73 rfl rfl Lg (by simp) (by rw [hV];exact hg.pos) ?_);have hc:=hg.can;have S1:=fun(f0:Fr) c=>hg.Sq [f0] [] s c (by simp) (by simp) hS hF;simp only [List.cons_append,List.nil_append]at S1;have L1:=fun Q=>D0 hW g aj hal hA V LV hV hg.pos (fun f1 f0 l=>hg.cl [f1,f0] l LV (by omega)) (fun f2 f1 f0 l=>hg.cl [f2,f1,f0] l (LV+1) (by omega)) (fun l s' c f1 f0 hl h1 h2=>hg.Sq [f1,f0] l s' c (by simp) hl h1 h2) Q aj.length 0 s [s] (by omega) (by omega) (by simp) hS hF;simp only [List.drop_zero]at L1;simp only [sY,bx,lE,aH]at L1 S1⊢;simp [hV,hc,S1];simp at L1;refine L1 _ (fun h=> ?_) (fun h s'=> ?_)
 ·have hat: ∀k i s aj,(dn r k s aj i).2.2.2=0→(dn r k s aj i).2.2.1= -1:=by
   intro k
   induction k with
   |zero=>intro i s aj h;rfl
   |succ k ih=>
    intro i s aj h
    cases aj with
    |nil=>rfl
    |cons a rest=>
     unfold dn at h⊢;simp only at h⊢;split at h
     ·rename_i h1;exact absurd h h1
     ·rename_i h1;rw [if_neg h1];exact ih _ _ _ h
  have e1:=hat _ _ _ _ h;simp [hV,aD];rw [ah (by simp)];simp [h,e1]
 ·simp [hV,aD];rw [ah (by simp)];simp
noncomputable def im (r:aI):List az×az×Int×Int:=
 let q:=dn r r.aj.length (aV r) r.aj 0
 (aV r::q.1,q.2.1,if q.2.2.2=0∧qi r q.2.1=false then ((r.aj.length:Int),11)else q.2.2)
theorem lW {r:aI}: ∀(k:Nat) (s:az) (aj:List ai) (i:Nat),e9 r s→(∀a∈aj,AB r a.aY.toNat a)→e9 r (dn r k s aj i).2.1∧ ∀s'∈(dn r k s aj i).1,e9 r s'
 |0,s,_,_,hS,_=>⟨hS,fun _ h=>by simp [dn]at h⟩
 |_+1,s,[],_,hS,_=>⟨hS,fun _ h=>by simp [dn]at h⟩
 |k+1,s,a::rest,i,hS,hA=>by
  unfold dn;simp only;split
  ·exact⟨hS,fun _ h=>by simp at h⟩
  ·rename_i h;have h':(da r s ((a::rest).takeWhile (ep a)) [] s 0).2.2=0:=(by simpa using h);have hgA: ∀b∈(a::rest).takeWhile (ep a),AB r b.aY.toNat b:=fun b hb=>hA b ((List.takeWhile_prefix _).subset hb);obtain⟨hG,e⟩:=oZ (r:=r) (s:=s) (p:=[]) (tk:=[]) (nx:=s) (i:=0) (fun x=>by simp) ⟨fun a ha=>by simp at ha,by simp⟩ rfl hgA h';have hS1:e9 r (da r s ((a::rest).takeWhile (ep a)) [] s 0).1:=(by rw [e];exact hG.snd hS);have:=lW k _ ((a::rest).drop ((a::rest).takeWhile (ep a)).length) (i+((a::rest).takeWhile (ep a)).length) hS1 (fun b hb=>hA b (List.mem_of_mem_drop hb));refine⟨this.1,fun s' hs'=> ?_⟩;rcases List.mem_cons.1 hs' with rfl|hs'
   ·exact hS1
   ·exact this.2 s' hs'
theorem PD.up {r:aI}{g:GV}{V:List az→ae}{LV:Nat}(h:PD r g V LV)(F:Fr):PD r g (fun l=>F::V l) (LV+1) where
 len:=fun l=>by simp [h.len]
 pos:=by omega
 can:=h.can
 BH:=h.BH
 cl:=fun fs l n hn=>by
  have:=h.cl (fs++[F]) l n (by omega);simpa using this
 Sq:=fun fs l s' c hf hl h1 h2=>by
  have:=h.Sq (fs++[F]) l s' c (by simp) hl h1 h2;simpa using this
theorem iE {K:Ctx}{rec:Rec}{f:FuncId}{args:List GV}(h1:K.vw f=false)(h2:K.vF f=false)(h3:K.BH f=true):aK K rec f args c H=bG K rec f (br H args).1 c (br H args).2:=by
 unfold aK;simp [h1,h2,h3]
theorem sW {K:Ctx}{rec:Rec}{f:FuncId}{a b:List GV}(h:a.map canon=b.map canon):bG K rec f a c H=bG K rec f b c H:=by
 have hl:a.length=b.length:=(by have:=congrArg List.length h;simpa using this);unfold bG;rw [h,hl]
theorem vu {r:aI}(hW:WB r)(hS:e9 r (aV r))(hp0:r.ak≠[])(hal:r.aj.length≤1000000)(hA: ∀a∈r.aj,AB r a.aY.toNat a){g:GV}{V:List az→ae}{LV:Nat}(hg:PD r g V LV):
  bG KC (aE KC) 50 [.pure (.agg r.row),g] c (V [])=
   some (.pure (.tuple [.agg (aH r (im r).2.1), .int .i64 (im r).2.2.1, .int .i64 (im r).2.2.2]),V (im r).1):=by
 have hV:=hg.len;have hF:Full (aV r):=⟨by simpa [aV]using hp0,by simpa [aV]using hp0,by simp [aV];exact hW.pl,by simp [aV];exact hW.pl,by simp [aV];exact hW.tl⟩;refine aU (aM KC au Try.func50 rfl rfl K6 (by simp) (by rw [hV];exact hg.pos) ?_);have C:=fun F=>oC (c:=12) (H:=F::V []) r hW.pl hW.tl (by simp);have fz: ∀H,br H [.pure (.agg (aH r (aV r))), .pure (.slice (r.aj.map ai.row)),g]=([.pure (.agg (aH r (aV r))), .pure (.slice (r.aj.map ai.row)),g],H):=fun H=>by simp [br,hg.BH]
 have R2: ∀F:Fr,aK KC (aE KC) 73 [.pure (.agg (aH r (aV r))), .pure (.slice (r.aj.map ai.row)),g] 16 (F::V [])=
   some (.pure (.tuple [.agg (aH r (dn r r.aj.length (aV r) r.aj 0).2.1), .int .i64 (dn r r.aj.length (aV r) r.aj 0).2.2.1, .int .i64 (dn r r.aj.length (aV r) r.aj 0).2.2.2]),F::V (aV r::(dn r r.aj.length (aV r) r.aj 0).1)):=fun F=>by
  rw [iE rfl rfl rfl,fz];exact vo (c:=16) hW (hg.up F) r.aj hal hA hS hF
 have hc:=hg.can;obtain⟨q,hq⟩: ∃q,dn r r.aj.length (aV r) r.aj 0=q:=⟨_,rfl⟩;have ha:im r=(aV r::q.1,q.2.1,if q.2.2.2=0∧qi r q.2.1=false then ((r.aj.length:Int),11)else q.2.2):=(by unfold im;simp only [hq]);rw [hq]at R2;rw [ha];have hSq:=lW r.aj.length (aV r) r.aj 0 hS hA;rw [hq]at hSq;obtain⟨l,s,aQ,e⟩:=q;simp only at hSq R2⊢;have OR:=fun c (H:ae) (hH:0<H.length)=>rj (c:=c) (H:=H) r s hW.tl (by rw [hSq.1.hl];exact hW.pl) hSq.1.tl hH;rw [iP]at C⊢;simp only [aH]at C R2 OR⊢;by_cases he:e=0
 ·subst he
  cases ho:qi r s with
  |true=>
   rw [ho]at OR;simp [C,R2,OR,hV,hc,aD];rw [ah (by simp)];simp
  |false=>
   rw [ho]at OR;simp [C,R2,OR,hV,hc,aD];rw [ah (by simp)];simp
 ·have he':(e==0)=false:=(by simpa using he);simp [C,R2,hV,hc,he,he',aD];rw [ah (by simp)];simp
end
def dX (l:List ai)(x:ai):List ai:=(l.reverse.dropWhile fun y=>decide (x.aQ<y.aQ)).reverse++x::(l.reverse.takeWhile fun y=>decide (x.aQ<y.aQ)).reverse
def aP (l:List ai):List ai:=l.foldl dX []
theorem fi {A B:List ai}{x:ai}(hB: ∀b∈B,x.aQ<b.aQ)(hA: ∀a,A.getLast? =some a→ ¬x.aQ<a.aQ):dX (A++B) x=A++x::B:=by
 unfold dX;rw [List.reverse_append];have hB': ∀b∈B.reverse,(fun y:ai=>decide (x.aQ<y.aQ)) b=true:=fun b hb=>(by simpa using hB b (List.mem_reverse.1 hb));rw [List.dropWhile_append_of_pos hB',List.takeWhile_append_of_pos hB'];have hd:A.reverse.dropWhile (fun y=>decide (x.aQ<y.aQ))=A.reverse∧A.reverse.takeWhile (fun y=>decide (x.aQ<y.aQ))=[]:=by
  cases h:A.reverse with
  |nil=>exact⟨rfl,rfl⟩
  |cons a r=>
   have:A.getLast? =some a:=(by rw [←List.head?_reverse,h];rfl);have:=hA a this;simp [List.dropWhile_cons,List.takeWhile_cons,this]
 rw [hd.1,hd.2];simp
theorem gG (l:List ai)(x:ai): ∃A B,l=A++B∧dX l x=A++x::B∧(∀b∈B,x.aQ<b.aQ)∧(∀a,A.getLast? =some a→ ¬x.aQ<a.aQ):=by
 refine⟨(l.reverse.dropWhile fun y=>decide (x.aQ<y.aQ)).reverse,(l.reverse.takeWhile fun y=>decide (x.aQ<y.aQ)).reverse, ?_,rfl,fun b hb=> ?_,fun a ha=> ?_⟩
 ·rw [←List.reverse_append,List.takeWhile_append_dropWhile,List.reverse_reverse]
 ·have h: ∀(l:List ai) (b:ai),b∈l.takeWhile (fun y=>decide (x.aQ<y.aQ))→x.aQ<b.aQ:=fun l b=>by
   induction l with
   |nil=>intro h;simp at h
   |cons y l ih=>
    intro h;rw [List.takeWhile_cons]at h;split at h
    ·rename_i hy;rcases List.mem_cons.1 h with rfl|h
     ·simpa using hy
     ·exact ih h
    ·cases h
  exact h _ _ (List.mem_reverse.1 hb)
 ·rw [List.getLast?_reverse]at ha;have:=List.head?_dropWhile_not (fun y:ai=>decide (x.aQ<y.aQ)) l.reverse;rw [ha]at this;simpa using this
theorem BB (l:List ai)(x:ai):List.Perm (dX l x) (x::l):=by
 obtain⟨A,B,e1,e2,_,_⟩:=gG l x;rw [e2,e1];exact List.perm_middle
theorem sB: ∀(l a:List ai),List.Perm (l.foldl dX a) (a++l)
 | [],a=>by simp
 |x::l,a=>by
  rw [List.foldl_cons];exact(sB l (dX a x)).trans (((BB a x).append_right l).trans (by simpa using(List.perm_middle (l₁:=a) (l₂:=l) (a:=x)).symm))
theorem ni (l:List ai):List.Perm (aP l) l:=by unfold aP;simpa using sB l []
theorem bf (l:List ai):(aP l).length=l.length:=(ni l).length_eq
theorem D3 {l:List ai}{x:ai}(h: ∀a∈l,a.aQ≤x.aQ):dX l x=l++[x]:=by
 have:=fi (A:=l) (B:=[]) (x:=x) (by simp) (fun a ha=>by have:=h a (List.mem_of_getLast? ha);omega);simpa using this
theorem HM {l:List ai}{x:ai}(h:l.Pairwise fun a b=>a.aQ≤b.aQ):(dX l x).Pairwise fun a b=>a.aQ≤b.aQ:=by
 obtain⟨A,B,e1,e2,hB,hA⟩:=gG l x;rw [e2];rw [e1,List.pairwise_append]at h;obtain⟨h1,h2,h3⟩:=h;rw [List.pairwise_append];have hx: ∀a∈A,a.aQ≤x.aQ:=fun a ha=>by
  cases hl:A.getLast? with
  |none=>rw [List.getLast?_eq_none_iff]at hl;subst hl;cases ha
  |some z=>
   have hz:=hA z hl;obtain⟨A',rfl⟩:=List.getLast?_eq_some_iff.1 hl;rw [List.mem_append,List.mem_singleton]at ha;rcases ha with ha|rfl
   ·have:=(List.pairwise_append.1 h1).2.2 a ha z (by simp);omega
   ·omega
 refine⟨h1,List.pairwise_cons.2 ⟨fun b hb=>by have:=hB b hb;omega,h2⟩,fun a ha b hb=> ?_⟩;rcases List.mem_cons.1 hb with rfl|hb
 ·exact hx a ha
 ·exact h3 a ha b hb
theorem xB: ∀(l a:List ai),(a.Pairwise fun a b=>a.aQ≤b.aQ)→((l.foldl dX a).Pairwise fun a b=>a.aQ≤b.aQ)
 | [],a,h=>h
 |x::l,a,h=>by rw [List.foldl_cons];exact xB l _ (HM h)
theorem lZ (l:List ai):(aP l).Pairwise fun a b=>a.aQ≤b.aQ:=xB l [] List.Pairwise.nil
theorem ou: ∀(l a:List ai),((a++l).Pairwise fun a b=>a.aQ≤b.aQ)→l.foldl dX a=a++l
 | [],a,h=>by simp
 |x::l,a,h=>by
  rw [List.foldl_cons,D3 (fun y hy=>(List.pairwise_append.1 h).2.2 y hy x (by simp)),ou l (a++[x]) (by simpa using h)];simp
theorem dH {l:List ai}(h:l.Pairwise fun a b=>a.aQ≤b.aQ):aP l=l:=by unfold aP;simpa using ou l [] (by simpa using h)
def mA (l:List ai)(a:ai):List ai:=l.takeWhile fun b=>decide (b.aQ<a.aQ)
theorem sv (f:ai→Bool): ∀l:List ai,l.takeWhile f=l.take (l.takeWhile f).length
 | []=>rfl
 |a::l=>by
  rw [List.takeWhile_cons];split
  ·rw [List.length_cons,List.take_succ_cons,←sv f l]
  ·rfl
theorem sw (f:ai→Bool): ∀(l:List ai) (j:Nat) (hj:j<l.length),j<(l.takeWhile f).length→f l[j]=true
 | [],j,hj,_=>by simp at hj
 |a::l,j,hj,h=>by
  rw [List.takeWhile_cons]at h;split at h
  ·rename_i ha
   cases j with
   |zero=>exact ha
   |succ j=>exact sw f l j (by simpa using hj) (by simpa using h)
  ·simp at h
theorem oV (f:ai→Bool): ∀(l:List ai) (hj:(l.takeWhile f).length<l.length),f (l[(l.takeWhile f).length]'hj)=false
 | [],hj=>by simp at hj
 |a::l,hj=>by
  by_cases ha:f a=true
  ·have e:((a::l).takeWhile f).length=(l.takeWhile f).length+1:=(by rw [List.takeWhile_cons,if_pos ha];rfl);have:=oV f l (by rw [e]at hj;simpa using hj);simp only [e,List.getElem_cons_succ];exact this
  ·have e:((a::l).takeWhile f).length=0:=(by rw [List.takeWhile_cons,if_neg ha];rfl);simp only [e,List.getElem_cons_zero];simpa using ha
theorem kV {l:List ai}(hp:l.Pairwise fun a b=>a.aQ≤b.aQ){i j:Nat}(hi:i<l.length)(hj:j<l.length)(h:i≤j):l[i].aQ≤l[j].aQ:=by
 rcases Nat.lt_or_eq_of_le h with h|h
 ·exact List.pairwise_iff_getElem.1 hp i j hi hj h
 ·subst h;exact Int.le_refl _
theorem su {l:List ai}{act:Nat}(h:act<l.length)(hp:l.Pairwise fun a b=>a.aQ≤b.aQ):
  (mA l l[act]).length≤act∧(∀j (hj:j<l.length),j<(mA l l[act]).length→l[j].aQ<l[act].aQ)∧ ∀j (hj:j<l.length),(mA l l[act]).length≤j→j≤act→l[j].aQ=l[act].aQ:=by
 have h1: ∀j (hj:j<l.length),j<(mA l l[act]).length→l[j].aQ<l[act].aQ:=fun j hj hm=>by
  have:=sw (fun b:ai=>decide (b.aQ<l[act].aQ)) l j hj hm;simpa using this
 have h2:(mA l l[act]).length≤act:=by
  rcases Nat.lt_or_ge act (mA l l[act]).length with hm|hm
  ·have:=h1 act h hm;omega
  ·exact hm
 refine⟨h2,h1,fun j hj hm hja=> ?_⟩;have hml:(mA l l[act]).length<l.length:=(by omega);have h3:=oV (fun b:ai=>decide (b.aQ<l[act].aQ)) l hml;have h3': ¬(l[(mA l l[act]).length]'hml).aQ<l[act].aQ:=of_decide_eq_false h3;have h4:=kV hp hml hj hm;have h5:=kV hp hj h hja;omega
noncomputable def vl (r:aI)(a:ai):az:=(dn r (mA r.aj a).length (aV r) (mA r.aj a) 0).2.1
def late (aY:Int)(a:ai):ai:=if a.aY=aY then {a with aQ:=a.aQ+1}else a
noncomputable def oS (r:aI)(act:Nat)(kind:Int):List ai:=
 if kind=2 then (if cd r (vl r (r.aj.getD act ct)) (r.aj.getD act ct).aY.toNat {(r.aj.getD act ct)with hand:=1-(r.aj.getD act ct).hand}=true
  then r.aj.set act {(r.aj.getD act ct)with hand:=1-(r.aj.getD act ct).hand}else r.aj.eraseIdx act)
 else if kind=3 then aP (r.aj.take act++(r.aj.drop act).map (late (r.aj.getD act ct).aY))
 else r.aj.eraseIdx act
def qm (r:aI)(act:Nat)(kind:Int):Int:=(r.aj.getD act ct).aQ+if kind=3 then 1 else 0
def fu (m:Int)(l:List ai):List ai:=l.takeWhile fun a=>decide (a.aQ≤m)
def behind (m:Int)(l:List ai):List ai:=l.dropWhile fun a=>decide (a.aQ≤m)
theorem pT (m:Int)(l:List ai):fu m l++behind m l=l:=List.takeWhile_append_dropWhile
noncomputable def sT:aI→az→Nat→ai→Bool:=o8 fun r s w a=>cd r s w a && !l7 r.seen [s.ak.getD w 0,if a.kind=1 then a.cell else s.ak.getD w 0]
theorem DV (r:aI)(s:az)(w:Nat)(a:ai):sT r s w a=(cd r s w a && !l7 r.seen [s.ak.getD w 0,if a.kind=1 then a.cell else s.ak.getD w 0]):=by rw [sT,bR]
noncomputable def xG (r:aI)(w:Nat)(all:List ai)(fin:az→List ai→Bool):Nat→az→List ai→Option (List ai)
 |0,s,l=>if fin s l=true then some l else none
 |n+1,s,l=>all.findSome? fun a=>if sT r s w a=true then xG r w all fin n (dt s w a) (l++[a])else none
theorem DX {r:aI}{s:az}{a:ai}(hp:cd r s a.aY.toNat a=true):da r s [a] [] s 0=(dt s a.aY.toNat a,0,0):=by
 unfold da;rw [if_neg (by simp [hp]),if_pos (by simp)];rfl
theorem oT {f:ai→Bool}: ∀{l:List ai} {x:ai},x∈l.takeWhile f→f x=true∧x∈l
 | [],_,h=>by simp at h
 |a::l,x,h=>by
  rw [List.takeWhile_cons]at h;split at h
  ·rename_i ha;rcases List.mem_cons.1 h with rfl|h
   ·exact⟨ha,by simp⟩
   ·exact⟨(oT h).1,by simp [(oT h).2]⟩
  ·cases h
noncomputable def mz (r:aI)(B:List ai)(s:az)(l:List ai):Bool:=decide ((dn r B.length s B 0).2.2.2=0) && qi r (dn r B.length s B 0).2.1
section
variable {c:Nat} {H:ae}
theorem oU (r:aI)(G:ae)(hG:0<G.length):PD r (.pure (.fn 54)) (fun _=>G) G.length where
 len:=fun _=>rfl
 pos:=hG
 can:=rfl
 BH:=fun _=>rfl
 cl:=fun fs l n _=>by simp
 Sq:=fun fs l s' c hf _ _ _=>by
  rw [qN];refine aU (bw KC au Try.func54 rfl rfl K7 rfl rfl rfl (by simp) (by simp;omega) ?_);unfold aH;simp;rw [ah (by simp)];simp
end
section
variable {c:Nat} {H:ae}
structure JW (r:aI):Prop where
 w:WB r
 snd:e9 r (aV r)
 p0:r.ak≠[]
 al:r.aj.length≤1000000
 ab: ∀a∈r.aj,AB r a.aY.toNat a
 sh:jM r
structure yO (r:aI):Prop extends JW r where
 ck:c7 r=0
theorem HG {r:aI}(h:yO r)(hH:0<H.length):
  bG KC (aE KC) 20 [.pure (.agg r.row)] c H=
   some (.pure (.tuple (if (im r).2.2.2=0 then [.agg (im r).2.1.row, .int .i64 (-1), .int .i64 0]else [.agg [.slice [], .slice [], .slice []], .int .i64 (im r).2.2.1, .int .i64 (im r).2.2.2])),H):=by
 refine aU (aM KC au Try.func20 rfl rfl B3 (by simp) hH ?_);have C:=fun c (H:ae) (hH:0<H.length)=>vO (c:=c) (H:=H) r h.sh.s h.sh.l h.sh.p h.sh.t h.sh.a hH;rw [h.ck]at C;have A:=fun(F:Fr)=>vu (c:=15) h.w h.snd h.p0 h.al h.ab (oU r (F::H) (by simp));have A2: ∀F:Fr,aK KC (aE KC) 50 [.pure (.agg r.row), .pure (.fn 54)] 15 (F::H)=some (.pure (.tuple [.agg (aH r (im r).2.1), .int .i64 (im r).2.2.1, .int .i64 (im r).2.2.2]),F::H):=fun F=>by
  rw [iE rfl rfl rfl];have:br (F::H) [.pure (.agg r.row), .pure (.fn 54)]=([.pure (.agg r.row), .pure (.fn 54)],F::H):=rfl;rw [this];exact A F
 generalize im r=q at A2⊢;obtain⟨l,s,aQ,e⟩:=q;simp only [aH]at A2;rw [iP]at C A2⊢;unfold az.row;by_cases he:e=0
 ·subst he;simp [C,A2,aD];rw [ah (by simp)];simp
 ·have he':(e !=0)=true:=(by simpa using he);simp [C,A2,he,he',aD];rw [ah (by simp)];simp
end
section
variable {c:Nat} {H:ae}
def xt:List PV:=[.int .i64 0, .int .i64 0, .int .i64 0, .int .i64 0, .int .i64 0, .int .i64 0, .int .i64 0, .int .i64 0, .int .i64 0]
theorem Bx {nm:Nm}{rows:List (List PV)}{v k N:Nat}(hN:rows.length=N)(hg:H.get nm=some (.arr 9 rows v false))(hv:v≤N)(hk:k<N)(hw: ∀r∈rows,r.length=9)(hn:N≤1000000)(hH:0<H.length):
  aK KC (aE KC) 102 [.ay nm 9 N 0 N, .pure (.int .i64 k), .pure (.int .i64 (k+1))] c H=
   some (.ay nm 9 N 0 (N-1),H.set nm (.arr 9 (rows.take k++rows.drop (k+1)++[xt]) N false)):=by
 have l1:=ae.cj hg;have d1: ¬nm.1=H.length:=(by omega);have d2:nm.1≤H.length-1:=(by omega);have k1: ¬(k:Int)<0:=(by omega);have k2:(k:Int)<(k:Int)+1:=(by omega);have k3:(k:Int)+1≤N:=(by omega);have k4: ¬(k:Int)+1=0:=(by omega);have k5:((k:Int)==(k:Int)+1)=false:=by
  have: ¬(k:Int)=(k:Int)+1:=(by omega);simpa using this
 have k6: ¬(k:Int)+1<0:=(by omega);have k7:Int.toNat ((k:Int)+1)=k+1:=(by omega);have k8:k≤N:=(by omega);have k9:k+1≤N:=(by omega);have hb:N*72≤1099511627776:=(by omega);refine aU (bJ KC au Try.func102 rfl rfl FJ rfl rfl rfl (by simp) hH ?_);have hdl:(rows.drop (k+1)).length=N-(k+1):=(by rw [List.length_drop,hN]);have hdw: ∀x∈rows.drop (k+1),x.length=9:=fun x hx=>hw x (List.mem_of_mem_drop hx);have hrl:List.replicate 1 xt=[xt]:=rfl;by_cases hl:N=k+1
 ·subst hl;have z0: ¬k+1≤k:=(by omega);have z1: ¬k+1=k:=(by omega);have z2:Int.toNat ((k:Int)+1)=k+1:=(by omega);have hd:rows.drop (k+1)=[]:=List.drop_of_length_le (by omega);have hd2:rows.drop k≠[]:=by
   intro e;have:=congrArg List.length e;rw [List.length_drop,hN]at this;simp at this
  simp [d1,d2,hg,hv,k1,k2,k3,k4,k5,k6,k7,k8,k9,hN,z0,z1,z2,hd,aD];rw [ah (by simp)];simp [d2,xt]
 ·obtain⟨M,rfl⟩: ∃M,N=k+1+M:=⟨N-(k+1),by omega⟩;have hM:rows.drop (k+1)≠[]:=fun e=>by
   have:=congrArg List.length e;rw [List.length_drop,hN]at this;simp at this;omega
  have M0: ¬M=0:=(by omega);have eM:k+1+M-(k+1)=M:=(by omega);have tkd:List.take M (rows.drop (k+1))=rows.drop (k+1):=List.take_of_length_le (by omega);have nk: ¬k=k+1+M:=(by omega);have nk2: ¬k+M=k+1+M:=(by omega);have le1:k+M≤k+1+M:=(by omega);have le2: ¬k+1+M≤k+M:=(by omega);have le3: ¬k+1+M≤k+1:=(by omega);have e1:k+1+M-(k+M)=1:=(by omega);have z0: ¬(k:Int)+(M:Int)<0:=(by omega);have z1:Int.toNat ((k:Int)+(M:Int))=k+M:=(by omega);have z2:Int.toNat ((k:Int)+1+(M:Int))=k+1+M:=(by omega);have z3: ¬(k:Int)+1+(M:Int)<0:=(by omega);have z4:k+M+1=k+1+M:=(by omega);have z5:k+1+M-1=k+M:=(by omega);have tk2:List.take (k+M) (rows.take k++(rows.drop (k+1)++rows.drop (k+M)))=rows.take k++rows.drop (k+1):=by
   rw [←List.append_assoc];exact List.take_left' (by rw [List.length_append,List.length_take,List.length_drop,hN];omega)
  have dr2:List.drop (k+1+M) (rows.take k++(rows.drop (k+1)++rows.drop (k+M)))=[]:=List.drop_of_length_le (by
   simp only [List.length_append,List.length_take,List.length_drop,hN];omega)
  have ml:min k (k+1+M)+(M+(k+1+M-(k+M)))=k+1+M:=(by omega);have nle: ¬k+1+M≤k:=(by omega);have z6:(k:Int)+1≤(k:Int)+1+(M:Int):=(by omega);have nl2: ¬k+1=k+1+M:=(by omega);have gs: ∀x,(H.set nm x).get nm=some x:=fun x=>ae.cw x l1;have z7:k+1+M=k+(M+1):=(by omega);have hdP:(∀x,x∈rows.drop (k+1)→x.length=9)=True:=eq_true hdw;simp [d1,d2,hg,hv,k1,k2,k3,k4,k5,k6,k7,k8,k9,hN,hl,hdl,eM,hdP,gs,ae.set_set,tkd,nk,nk2,le1,le2,le3,e1,z0,z1,z2,z3,z4,z5,z6,M0,hM,aD,tk2,dr2,nle,nl2,ml];rw [if_pos z7,nF,ah (by simp)];simp [d2,xt]
end
section
variable {c:Nat} {H:ae}
def kM (a b:Int):Int:=if a<b then-1 else if b<a then 1 else 0
theorem Nb {x:Int}(hH:0<H.length):aK KC (aE KC) 125 [.pure (.int .i64 x)] c H=some (.pure (.bool false),H):=by
 refine aU (bw KC au Try.func125 rfl rfl Gb rfl rfl rfl (by simp) hH ?_);simp [ah]
theorem yX {x y:Int}(hH:0<H.length):aK KC (aE KC) 101 [.pure (.int .i64 x), .pure (.int .i64 y)] c H=some (.pure (.int .i64 (kM x y)),H):=by
 refine aU (bw KC au Try.func101 rfl rfl FI rfl rfl rfl (by simp) hH ?_);have N:=fun c x (H:ae) (hH:0<H.length)=>Nb (c:=c) (x:=x) (H:=H) hH;unfold kM;by_cases h1:x<y
 ·simp [N,h1,ah]
 ·by_cases h2:y<x
  ·simp [N,h1,h2,ah]
  ·simp [N,h1,h2,ah]
theorem qI {x y:ai}(hH:0<H.length):aK KC (aE KC) 100 [.pure (.agg x.row), .pure (.agg y.row)] c H=some (.pure (.int .i64 (kM x.aQ y.aQ)),H):=by
 refine aU (bw KC au Try.func100 rfl rfl FH rfl rfl rfl (by simp) hH ?_);have N:=fun c (H:ae) (hH:0<H.length)=>yX (c:=c) (x:=x.aQ) (y:=y.aQ) (H:=H) hH;simp [N,ai.row,ah]
def iq (P:List (List PV))(A:List ai)(x:ai)(B:List ai)(Q:List (List PV)):List (List PV):=P++A.map ai.row++x.row::(B.map ai.row++Q)
theorem ov {P:List (List PV)}{A:List ai}{x:ai}{B:List ai}{Q:List (List PV)}:(iq P A x B Q).length=P.length+A.length+1+B.length+Q.length:=by
 unfold iq;simp;omega
theorem D4 {P:List (List PV)}{A:List ai}{x:ai}{B:List ai}{Q:List (List PV)}:(iq P A x B Q)[P.length+A.length]? =some x.row:=by
 unfold iq;rw [List.getElem?_append_right (by simp)];simp
theorem BC {P:List (List PV)}{A:List ai}{y x:ai}{B:List ai}{Q:List (List PV)}:(iq P (A++[y]) x B Q)[P.length+A.length]? =some y.row:=by
 unfold iq;rw [List.getElem?_append_left (by simp),List.getElem?_append_right (by simp)];simp
theorem BD {P:List (List PV)}{A:List ai}{y x:ai}{B:List ai}{Q:List (List PV)}:((iq P (A++[y]) x B Q).set (P.length+A.length+1) y.row).set (P.length+A.length) x.row=iq P A x (y::B) Q:=by
 unfold iq;have e1:P++(A++[y]).map ai.row++x.row::(B.map ai.row++Q)=(P++A.map ai.row)++y.row::x.row::(B.map ai.row++Q):=(by simp);have l1:(P++A.map ai.row).length=P.length+A.length:=(by simp);rw [e1,←l1];rw [List.set_append_right _ _ (by omega),List.set_append_right _ _ (by omega)];simp
theorem BE {nm:Nm}{P Q:List (List PV)}{N a':Nat}(x:ai)(i:Nat)(hn:N≤1000000)(hnm:nm.1<H.length)(b:Int)(Q':GX→bE→Prop): ∀(k:Nat) (A B:List ai) (v:Nat),A.length=k→P.length=a'→(iq P A x B Q).length=N→v≤N→(∀y∈B,x.aQ<y.aQ)→
  (∀v',v'≤N→Q' (.exit 2) ⟨[(0, .ay nm 9 N 0 N),(1, .pure (.int .i64 a')),(2, .pure (.int .i64 b)),(3, .pure (.fn 100)),(8, .pure (.int .i64 i))],[]::[]::H.set nm (.arr 9 (P++(dX (A++B) x).map ai.row++Q) v' false),53⟩)→
  jf KC au 129 (lp Try.f129 1) [0,1,2,3,8,9] [0,1,2,3,8] Q' [(0, .ay nm 9 N 0 N),(1, .pure (.int .i64 a')),(2, .pure (.int .i64 b)),(3, .pure (.fn 100)),(8, .pure (.int .i64 i)),(9, .pure (.int .i64 ((P.length+A.length:Nat):Int)))] ([]::[]::H.set nm (.arr 9 (iq P A x B Q) v false)) 53:=by
 intro k;have l0: ∀x,(H.set nm x).length=H.length:=fun x=>ae.length_set _ _ _;have d1: ¬nm.1=H.length:=(by omega);have d2: ¬nm.1=H.length+1:=(by omega);have d3: ¬nm.1=H.length+1+1:=(by omega);have gs: ∀x,(H.set nm x).get nm=some x:=fun x=>ae.cw x hnm;have C:=fun c (x y:ai) (H:ae) (hH:0<H.length)=>qI (c:=c) (x:=x) (y:=y) (H:=H) hH
 induction k with
 |zero=>
  intro A B v hA hP hl hv hB h1;obtain rfl:A=[]:=List.length_eq_zero_iff.1 hA;have e:dX ([]++B) x=[]++x::B:=fi hB (fun a h=>by simp at h);have h1':=h1 v hv;rw [e]at h1';apply aw;conv=>arg 4;whnf
  have d4:nm.1≤H.length+1:=(by omega);simp [hP,d4];simpa [iq]using h1'
 |succ k ih=>
  intro A B v hA hP hl hv hB h1;obtain⟨A',y,rfl⟩: ∃A' y,A=A'++[y]:=by
   have hne:A≠[]:=fun e=>(by rw [e]at hA;simp at hA);exact⟨A.dropLast,A.getLast hne,(List.dropLast_concat_getLast hne).symm⟩
  have hA':A'.length=k:=(by simpa using hA);have d4:nm.1≤H.length+1:=(by omega);obtain⟨j,hj⟩: ∃j,P.length+A'.length=j:=⟨_,rfl⟩;have hj1:P.length+(A'++[y]).length=j+1:=(by simp;omega);have hjN:j+1<N:=(by rw [←hl,ov];simp;omega);have g1:(iq P (A'++[y]) x B Q)[j+1]? =some x.row:=(by rw [←hj1];exact D4);have g0:(iq P (A'++[y]) x B Q)[j]? =some y.row:=(by rw [←hj];exact BC);have gsw:((iq P (A'++[y]) x B Q).set (j+1) y.row).set j x.row=iq P A' x (y::B) Q:=(by rw [←hj];exact BD);have hl2:(iq P A' x (y::B) Q).length=N:=(by rw [←hl,ov,ov];simp;omega);have gt1:(a':Int)<(j:Int)+1:=(by omega);have w1:=dM (x:=(j:Int)) (by omega) (by omega);have w2:IntKind.i64.wrap ((j:Int)+1-1)=j:=by rw [show (j:Int)+1-1=j by omega];exact w1
  have jn0: ¬(j:Int)+1<0:=(by omega);have jt:Int.toNat ((j:Int)+1)=j+1:=(by omega);have jl:(j:Int)+1<N:=(by omega);have jl0:(j:Int)<N:=(by omega);have jN0:j<N:=(by omega);have l9: ∀z:ai,z.row.length=9:=fun _=>rfl;have t9: ∀z:ai,List.take 9 z.row=z.row:=fun _=>rfl;have dr9: ∀z:ai,List.drop 9 z.row=[]:=fun _=>rfl;have lp9: ∀z:ai,∀H:ae,bp H (z.row.map .pure)=(z.row,H):=fun z H=>rfl;rw [hj1];by_cases hlt:x.aQ<y.aQ
  ·have ih':=ih A' (y::B) N hA' hP hl2 (Nat.le_refl _) (fun b hb=>by
    rcases List.mem_cons.1 hb with rfl|hb
    ·exact hlt
    ·exact hB b hb) (fun v' hv'=>by
    have:=h1 v' hv';rw [show A'++[y]++B=A'++y::B by simp]at this
    exact this)
   rw [hj]at ih';generalize iq P (A'++[y]) x B Q=R at g1 g0 gsw hl⊢;have G1: ∀h,R[j+1]'h=x.row:=fun h=>(by rw [List.getElem?_eq_getElem h]at g1;simpa using g1);have G0: ∀h,R[j]'h=y.row:=fun h=>(by rw [List.getElem?_eq_getElem h]at g0;simpa using g0);have hc:kM x.aQ y.aQ<0:=(by unfold kM;rw [if_pos hlt];omega);apply aw;conv=>arg 4;whnf
   simp [hP,d1,d2,d3,d4,gs,l0,hl,hv,gt1,jn0,jt,jl,jl0,jN0,hjN,w1,w2,G1,G0,l9,t9,C,hc,aD,ae.set_set,lp9,dr9,gsw];exact ih'
  ·have h1':=h1 v hv;rw [fi hB (fun a ha=>by
    have:a=y:=(by simpa using ha.symm);rw [this];exact hlt)]at h1'
   have hc: ¬kM x.aQ y.aQ<0:=by
    unfold kM;rw [if_neg hlt];split<;>omega
   have e:P++((A'++[y])++x::B).map ai.row++Q=iq P (A'++[y]) x B Q:=(by simp [iq]);rw [e]at h1';generalize iq P (A'++[y]) x B Q=R at g1 g0 gsw hl h1'⊢;have G1: ∀h,R[j+1]'h=x.row:=fun h=>(by rw [List.getElem?_eq_getElem h]at g1;simpa using g1);have G0: ∀h,R[j]'h=y.row:=fun h=>(by rw [List.getElem?_eq_getElem h]at g0;simpa using g0);apply aw;conv=>arg 4;whnf
   simp [hP,d1,d2,d3,d4,gs,l0,hl,hv,gt1,jn0,jt,jl,jl0,jN0,hjN,w1,w2,G1,G0,l9,t9,C,hc];exact h1'
theorem yY (l:List ai)(x:ai):aP (l++[x])=dX (aP l) x:=by
 unfold aP;rw [List.foldl_append];rfl
theorem Bo {nm:Nm} {P Q:List (List PV)} {N a':Nat} (X:List ai) (hn:N≤1000000) (hnm:nm.1<H.length) (hP:P.length=a') (hl:P.length+X.length+Q.length=N) (Q':GX→bE→Prop)
  (h1: ∀v',v'≤N→Q' (.exit 0) ⟨[],[]::H.set nm (.arr 9 (P++(aP X).map ai.row++Q) v' false),53⟩): ∀(k i v:Nat),i+k=X.length→v≤N→
  jf KC au 129 (lp Try.f129 0) [0,1,2,3,8] [] Q' [(0, .ay nm 9 N 0 N),(1, .pure (.int .i64 a')),(2, .pure (.int .i64 ((a'+X.length:Nat):Int))),(3, .pure (.fn 100)),(8, .pure (.int .i64 ((a'+i:Nat):Int)))] ([]::H.set nm (.arr 9 (P++(aP (X.take i)).map ai.row++((X.drop i).map ai.row++Q)) v false)) 53:=by
 intro k
 induction k with
 |zero=>
  intro i v hi hv;have hx:X.take i=X:=List.take_of_length_le (by omega);have hd:X.drop i=[]:=List.drop_of_length_le (by omega);have h1':=h1 v hv;have e:i=X.length:=(by omega);rw [hx,hd,e];apply aw;conv=>arg 4;whnf
  simp;simpa using h1'
 |succ k ih=>
  intro i v hi hv;have hia:i<X.length:=(by omega);have hlt:((a'+i:Nat):Int)<((a'+X.length:Nat):Int):=(by omega);have ay:X.drop i=X[i]::X.drop (i+1):=List.drop_eq_getElem_cons hia;have htk:X.take (i+1)=X.take i++[X[i]]:=(by rw [List.take_add_one,List.getElem?_eq_getElem hia];rfl);have e:P++(aP (X.take i)).map ai.row++((X.drop i).map ai.row++Q)=iq P (aP (X.take i)) X[i] [] ((X.drop (i+1)).map ai.row++Q):=by
   rw [ay];simp only [iq,List.map_cons,List.map_nil,List.nil_append,List.cons_append,List.append_assoc]
  have hsl:(aP (X.take i)).length=i:=(by rw [bf,List.length_take];omega);have hw:=dM (x:=((a'+i+1:Nat):Int)) (by omega) (by omega);have ih':=fun v' hv'=>ih (i+1) v' (by omega) hv';have L:=fun Q'=>BE (H:=H) (nm:=nm) (P:=P) (Q:=(X.drop (i+1)).map ai.row++Q) (N:=N) (a':=a') X[i] (a'+i) hn hnm ((a'+X.length:Nat):Int) Q' i (aP (X.take i)) [] v hsl hP (by rw [ov,hsl];simp;omega) hv (by simp);rw [e];apply aw;conv=>arg 4;whnf
  obtain⟨R,hR⟩: ∃R,iq P (aP (X.take i)) X[i] [] ((X.drop (i+1)).map ai.row++Q)=R:=⟨_,rfl⟩;rw [hR]at L⊢;have e2: ∀v',ae.set H nm (.arr 9 (P++(dX (aP (X.take i)++[]) X[i]).map ai.row++((X.drop (i+1)).map ai.row++Q)) v' false)=H.set nm (.arr 9 (P++(aP (X.take (i+1))).map ai.row++((X.drop (i+1)).map ai.row++Q)) v' false):=fun v'=>by
   rw [htk,yY,List.append_nil]
  have d4:nm.1≤H.length:=(by omega);have hsl2:((P.length+(aP (X.take i)).length:Nat):Int)=(a':Int)+i:=(by rw [hP,hsl];simp);simp only [e2,hsl2]at L;obtain⟨T,hT⟩: ∃T:List (List PV),P++(aP (X.take (i+1))).map ai.row++((X.drop (i+1)).map ai.row++Q)=T:=⟨_,rfl⟩;rw [hT]at L ih';have hw':IntKind.i64.wrap ((a':Int)+i+1)=(a':Int)+i+1:=(by simpa using hw);simp at L;simp [hia];refine L _ fun v' hv'=> ?_;have i1:=ih' v' hv';have ec:((a'+(i+1):Nat):Int)=(a':Int)+i+1:=(by omega);rw [ec]at i1;simp [hw',d4];simpa using i1
end
theorem BF (S:List ai){x y:ai}(h:y.aQ<x.aQ):dX (dX S x) y=dX (dX S y) x:=by
 obtain⟨A,D,e1,e2,hD,hA⟩:=gG S y;obtain⟨B,C,f1,_,hC,hB⟩:=gG D x;have i1:dX S x=(A++B)++x::C:=by
  rw [e1,f1,←List.append_assoc];refine fi hC fun a ha=> ?_
  cases hb:B.getLast? with
  |none=>
   rw [List.getLast?_eq_none_iff]at hb;subst hb;rw [List.append_nil]at ha;have:=hA a ha;omega
  |some z=>
   rw [List.getLast?_append,hb]at ha;obtain rfl:z=a:=(by simpa using ha);exact hB z hb
 have i2:dX ((A++B)++x::C) y=A++y::(B++x::C):=by
  rw [List.append_assoc];refine fi (fun b hb=> ?_) hA;rw [List.mem_append,List.mem_cons]at hb;rcases hb with hb|rfl|hb
  ·exact hD b (by rw [f1];simp [hb])
  ·exact h
  ·exact hD b (by rw [f1];simp [hb])
 have i3:dX (A++y::D) x=(A++y::B)++x::C:=by
  rw [f1,show A++y::(B++C)=(A++y::B)++C by simp]
  refine fi hC fun a ha=> ?_
  cases hb:B.getLast? with
  |none=>
   rw [List.getLast?_eq_none_iff]at hb;subst hb;rw [List.getLast?_append]at ha;obtain rfl:y=a:=(by simpa using ha);omega
  |some z=>
   rw [List.getLast?_append,List.getLast?_cons,hb]at ha;obtain rfl:z=a:=(by simpa using ha);exact hB z hb
 rw [i1,i2,e2,i3];simp
theorem o0: ∀(Z S:List ai) (y:ai),(∀z∈Z,y.aQ<z.aQ)→(Z++[y]).foldl dX S=Z.foldl dX (dX S y)
 | [],S,y,_=>rfl
 |z::Z,S,y,h=>by
  rw [List.cons_append,List.foldl_cons,List.foldl_cons,o0 Z (dX S z) y (fun a ha=>h a (by simp [ha])),BF S (h z (by simp))]
theorem sC (U:List ai): ∀(V S:List ai),(∀u∈U,∀v∈V,v.aQ<u.aQ)→(U++V).foldl dX S=(V++U).foldl dX S
 | [],S,_=>by simp
 |v::V,S,h=>by
  rw [show U++v::V=(U++[v])++V by simp,List.foldl_append,o0 U S v (fun u hu=>h u hu v (by simp)),←List.foldl_append,sC U V (dX S v) (fun u hu w hw=>h u hu w (by simp [hw])),List.cons_append,List.foldl_cons]
theorem iH (X Y:List ai):aP (X++Y)=Y.foldl dX (aP X):=by unfold aP;rw [List.foldl_append]
theorem sD (X:List ai)(y:ai):aP (X++[y])=dX (aP X) y:=by rw [iH];rfl
theorem qc: ∀(Y S:List ai),(aP Y.reverse).foldl dX S=Y.reverse.foldl dX S
 | [],S=>rfl
 |y::Y,S=>by
  rw [List.reverse_cons,sD];obtain⟨A,B,e1,e2,hB,_⟩:=gG (aP Y.reverse) y;have:=qc Y S;rw [e1]at this;rw [e2,List.foldl_append,List.foldl_cons,List.foldl_append,←this,List.foldl_append];rw [←o0 B _ y hB,List.foldl_append]
theorem yZ (Y S:List ai):(aP Y).foldl dX S=Y.foldl dX S:=by
 have:=qc Y.reverse S
 rwa [List.reverse_reverse]at this
theorem Bp (X Y:List ai):aP (aP X++aP Y)=aP (X++Y):=by
 rw [iH,dH (lZ X),yZ,←iH]
theorem y0 {P T:List ai}{b:ai}(h: ∀a∈P,a.aQ≤b.aQ):dX (P++T) b=P++dX T b:=by
 obtain⟨A,B,e1,e2,hB,hA⟩:=gG T b;rw [e2,e1,←List.append_assoc,fi hB fun a ha=> ?_]
 ·simp
 ·cases hl:A.getLast? with
  |none=>
   rw [List.getLast?_eq_none_iff]at hl;subst hl;rw [List.append_nil]at ha;have:=h a (List.mem_of_getLast? ha);omega
  |some z=>
   rw [List.getLast?_append,hl]at ha;obtain rfl:z=a:=(by simpa using ha);exact hA z hl
theorem qd: ∀(B P T:List ai),(∀a∈P,∀b∈B,a.aQ≤b.aQ)→B.foldl dX (P++T)=P++B.foldl dX T
 | [],_,_,_=>rfl
 |b::B,P,T,h=>by
  rw [List.foldl_cons,List.foldl_cons,y0 fun a ha=>h a ha b (by simp),qd B P _ fun a ha b hb=>h a ha b (by simp [hb])]
theorem xC {A B:List ai}(h: ∀a∈A,∀b∈B,a.aQ≤b.aQ):aP (A++B)=aP A++aP B:=by
 have:=qd B (aP A) [] (fun a ha=>h a ((ni A).mem_iff.1 ha));rw [List.append_nil]at this;rw [iH,this];rfl
theorem pX {L1 L2 R1 R2:List ai}(h1: ∀l∈L2,∀r∈R1,r.aQ<l.aQ)(h2: ∀a∈L1,∀b∈L2,a.aQ≤b.aQ)(h3: ∀a∈R1,∀b∈R2,a.aQ≤b.aQ)(h4: ∀a∈L1,∀b∈R2,a.aQ≤b.aQ):
  aP ((L1++L2)++(R1++R2))=aP (L1++R1)++aP (L2++R2):=by
 have e:aP ((L1++L2)++(R1++R2))=aP ((L1++R1)++(L2++R2)):=by
  rw [show (L1++L2)++(R1++R2)=L1++((L2++R1)++R2)by simp,show (L1++R1)++(L2++R2)=L1++((R1++L2)++R2)by simp,iH,iH,List.foldl_append (l:=L2++R1),sC L2 R1 _ h1,←List.foldl_append]
 rw [e];refine xC fun a ha b hb=> ?_;rw [List.mem_append]at ha hb;rcases ha with ha|ha<;>rcases hb with hb|hb
 ·exact h2 a ha b hb
 ·exact h4 a ha b hb
 ·have:=h1 b hb a ha;omega
 ·exact h3 a ha b hb
theorem y6 {x:ai}{R1 R2:List ai}(hp:(R1++R2).Pairwise fun a b=>a.aQ≤b.aQ)(h1: ∀r∈R1,r.aQ<x.aQ)(h2: ∀r∈R2,x.aQ≤r.aQ):aP ([x]++(R1++R2))=R1++x::R2:=by
 rw [List.pairwise_append]at hp;have:=pX (L1:=[]) (L2:=[x]) (R1:=R1) (R2:=R2) (fun l hl r hr=>by
  rw [List.mem_singleton]at hl;rw [hl];exact h1 r hr) (by simp) hp.2.2 (by simp)
 simp only [List.nil_append]at this;rw [this,dH hp.1,dH]
 ·simp
 ·exact List.pairwise_cons.2 ⟨h2,hp.2.1⟩
theorem merge_right {x:ai}{L1 L2:List ai}(hp:(L1++L2).Pairwise fun a b=>a.aQ≤b.aQ)(h1: ∀r∈L1,r.aQ≤x.aQ)(h2: ∀r∈L2,x.aQ<r.aQ):aP ((L1++L2)++[x])=L1++x::L2:=by
 rw [sD,dH hp];exact fi h2 fun a ha=>by have:=h1 a (List.mem_of_getLast? ha);omega
section
variable {c:Nat} {H:ae}
theorem gO {P Q:List ai}{x:ai}{X:List ai}{i:Nat}(e:X=P++x::Q)(hi:i=P.length):(X.map ai.row)[i]? =some x.row:=by
 subst e;subst hi;rw [List.getElem?_map,List.getElem?_append_right (Nat.le_refl _)];simp
theorem mr {P Q:List ai}{x y:ai}{X:List ai}{i:Nat}(e:X=P++x::Q)(hi:i=P.length):(X.map ai.row).set i y.row=(P++y::Q).map ai.row:=by
 subst e;subst hi;rw [←List.map_set,List.set_append_right _ _ (Nat.le_refl _)];simp
theorem D5 {nm:Nm}{N a b n:Nat}(hn:N≤1000000)(hnm:nm.1<H.length)(P M Q:List ai)(Q':GX→bE→Prop): ∀(k:Nat) (A1 A2 B1 B2:List ai) (v:Nat),A2.length=k→B2.length=k→A1.length=B1.length→P.length+(A1.length+k)+M.length+(A1.length+k)+Q.length=N→a=P.length→b=P.length+(A1.length+k)+M.length→n=A1.length+k→v≤N→
  (∀v',v'≤N→Q' (.exit 0) ⟨[],[]::H.set nm (.arr 9 ((P++(B1++B2)++M++(A1++A2)++Q).map ai.row) v' false),38⟩)→
  jf KC au 132 (lp Try.f132 0) [0,1,2,3,10] [] Q' [(0, .ay nm 9 N 0 N),(1, .pure (.int .i64 a)),(2, .pure (.int .i64 b)),(3, .pure (.int .i64 n)),(10, .pure (.int .i64 A1.length))] ([]::H.set nm (.arr 9 ((P++B1++A2++M++A1++B2++Q).map ai.row) v false)) 38:=by
 intro k;have l0: ∀x,(H.set nm x).length=H.length:=fun x=>ae.length_set _ _ _;have d1: ¬nm.1=H.length:=(by omega);have d2: ¬nm.1=H.length+1:=(by omega);have d4:nm.1≤H.length:=(by omega);have gs: ∀x,(H.set nm x).get nm=some x:=fun x=>ae.cw x hnm
 induction k with
 |zero=>
  intro A1 A2 B1 B2 v hA hB hAB hl ha hb hnn hv h1;obtain rfl:A2=[]:=List.length_eq_zero_iff.1 hA;obtain rfl:B2=[]:=List.length_eq_zero_iff.1 hB;have h1':=h1 v hv;have hlt: ¬(A1.length:Int)<n:=(by omega);apply aw;conv=>arg 4;whnf
  simp [hlt,d4];simpa using h1'
 |succ k ih=>
  intro A1 A2 B1 B2 v hA hB hAB hl ha hb hnn hv h1;obtain⟨x,A2,rfl⟩: ∃x A,A2=x::A:=(by cases A2 with|nil=>simp at hA|cons x A=>exact⟨x,A,rfl⟩);obtain⟨y,B2,rfl⟩: ∃x A,B2=x::A:=(by cases B2 with|nil=>simp at hB|cons x A=>exact⟨x,A,rfl⟩);simp only [List.length_cons]at hA hB;have ih':=ih (A1++[x]) A2 (B1++[y]) B2 N (by omega) (by omega) (by simp [hAB]) (by rw [List.length_append,List.length_singleton];omega) ha (by rw [List.length_append,List.length_singleton];omega) (by rw [List.length_append,List.length_singleton];omega) (Nat.le_refl _) (fun v' hv'=>by simpa using h1 v' hv');obtain⟨i,hi⟩: ∃i,A1.length=i:=⟨_,rfl⟩;obtain⟨R,hR⟩: ∃R,(P++B1++x::A2++M++A1++y::B2++Q).map ai.row=R:=⟨_,rfl⟩;have g1:R[a+i]? =some x.row:=hR▸gO (P:=P++B1) (Q:=A2++M++A1++y::B2++Q) (by simp) (by rw [List.length_append];omega);have g2:R[b+i]? =some y.row:=hR▸gO (P:=P++B1++x::A2++M++A1) (Q:=B2++Q) (by simp) (by simp only [List.length_append,List.length_cons];omega);have gsw:(R.set (a+i) y.row).set (b+i) x.row=(P++(B1++[y])++A2++M++(A1++[x])++B2++Q).map ai.row:=by
   rw [←hR,mr (P:=P++B1) (Q:=A2++M++A1++y::B2++Q) (x:=x) (by simp) (by rw [List.length_append];omega),mr (P:=P++B1++y::A2++M++A1) (Q:=B2++Q) (x:=y) (by simp) (by simp only [List.length_append,List.length_cons];omega)];simp
  have hRl:R.length=N:=(by rw [←hR];simp only [List.length_map,List.length_append,List.length_cons];omega);rw [←gsw]at ih';have w0:=dM (x:=(i:Int)+1) (by omega) (by omega);have w1:=dM (x:=(a:Int)+i) (by omega) (by omega);have w2:=dM (x:=(b:Int)+i) (by omega) (by omega);have n1: ¬(a:Int)+i<0:=(by omega);have n2: ¬(b:Int)+i<0:=(by omega);have t1:Int.toNat ((a:Int)+i)=a+i:=(by omega);have t2:Int.toNat ((b:Int)+i)=b+i:=(by omega);have m1:(a:Int)+i<N:=(by omega);have m2:(b:Int)+i<N:=(by omega);have m3:a+i<N:=(by omega);have m4:b+i<N:=(by omega);have hlt:(i:Int)<n:=(by omega);have hlt':i<n:=(by omega);have G1: ∀h,R[a+i]'h=x.row:=fun h=>(by rw [List.getElem?_eq_getElem h]at g1;simpa using g1);have G2: ∀h,R[b+i]'h=y.row:=fun h=>(by rw [List.getElem?_eq_getElem h]at g2;simpa using g2);have G3: ∀h,(R.set (a+i) y.row)[b+i]'h=y.row:=fun h=>(by rw [List.getElem_set_ne (by omega)];exact G2 _);have l9: ∀z:ai,z.row.length=9:=fun _=>rfl;have t9: ∀z:ai,List.take 9 z.row=z.row:=fun _=>rfl;have dr9: ∀z:ai,List.drop 9 z.row=[]:=fun _=>rfl;have lp9: ∀z:ai,∀H:ae,bp H (z.row.map .pure)=(z.row,H):=fun z H=>rfl;rw [List.length_append,List.length_singleton]at ih';rw [hR,hi]at*;clear h1 ih;apply aw;conv=>arg 4;whnf
  simp [hlt,hlt',d1,d2,d4,gs,l0,hRl,hv,w0,w1,w2,n1,n2,t1,t2,m1,m2,m3,m4,G1,G2,G3,l9,t9,aD,ae.set_set,lp9,dr9];simpa using ih'
theorem y7 {nm:Nm}{N v:Nat}(hn:N≤1000000)(hnm:nm.1<H.length)(P A M B Q:List ai)(hAB:A.length=B.length)(hl:P.length+A.length+M.length+B.length+Q.length=N)(hv:v≤N)(a b n:Int)(ha:a=P.length)(hb:b=(P.length+A.length+M.length:Nat))(hnn:n=A.length):
  ∃v',v'≤N∧aK KC (aE KC) 132 [.ay nm 9 N 0 N, .pure (.int .i64 a), .pure (.int .i64 b), .pure (.int .i64 n), .pure (.fn 100)] c (H.set nm (.arr 9 ((P++A++M++B++Q).map ai.row) v false))=
   some (.pure (.tuple []),H.set nm (.arr 9 ((P++B++M++A++Q).map ai.row) v' false)):=by
 suffices hs:j5 (aK KC (aE KC) 132 [.ay nm 9 N 0 N, .pure (.int .i64 a), .pure (.int .i64 b), .pure (.int .i64 n), .pure (.fn 100)] c (H.set nm (.arr 9 ((P++A++M++B++Q).map ai.row) v false))) (fun x=> ∃v',v'≤N∧x=(.pure (.tuple []),H.set nm (.arr 9 ((P++B++M++A++Q).map ai.row) v' false)))by
  obtain⟨x,hx,v',h1,h2⟩:=hs;exact⟨v',h1,by rw [hx,h2]⟩
 have hH:0<(H.set nm (.arr 9 ((P++A++M++B++Q).map ai.row) v false)).length:=(by rw [ae.length_set];omega);subst ha hb hnn;have L:=fun Q' h1=>D5 (H:=H) (nm:=nm) (N:=N) (a:=P.length) (b:=P.length+A.length+M.length) (n:=A.length) hn hnm P M Q Q' A.length [] A [] B v rfl hAB.symm rfl (by simp;omega) rfl (by simp) (by simp) hv h1;simp only [List.append_nil,List.nil_append,List.length_nil]at L;generalize (P++A++M++B++Q).map ai.row=R at L hH⊢;generalize (P++B++M++A++Q).map ai.row=R' at L⊢;refine bJ KC au Try.func132 rfl rfl Gi rfl rfl rfl (by simp) hH ?_;simp;simp at L;refine L _ fun v' hv'=> ?_;simp [ah,ae.length_set];exact⟨v',hv',rfl⟩
end
section
variable {c:Nat} {H:ae}
theorem D6 {nm:Nm} {N m:Nat} (hn:N≤1000000) (hnm:nm.1<H.length) (Y:List ai) (Q':GX→bE→Prop)
  (h1: ∀(P U V Q:List ai) (v:Nat),U.length=V.length→P.length+U.length=m→P.length+U.length+V.length+Q.length=N→P++V++U++Q=Y→v≤N→Q' (.exit 0) ⟨[(0, .ay nm 9 N 0 N),(2, .pure (.int .i64 m)),(4, .pure (.fn 100)),(10, .pure (.int .i64 U.length))],[]::H.set nm (.arr 9 ((P++U++V++Q).map ai.row) v false),58⟩): ∀(k:Nat) (P U V Q:List ai) (v:Nat),U.length+V.length≤k→0<U.length→0<V.length→P.length+U.length=m→P.length+U.length+V.length+Q.length=N→P++V++U++Q=Y→v≤N→
  jf KC au 131 (lp Try.f131 0) [0,2,4,10,11] [0,2,4,10] Q' [(0, .ay nm 9 N 0 N),(2, .pure (.int .i64 m)),(4, .pure (.fn 100)),(10, .pure (.int .i64 U.length)),(11, .pure (.int .i64 V.length))] ([]::H.set nm (.arr 9 ((P++U++V++Q).map ai.row) v false)) 58:=by
 intro k;have l0: ∀x,(H.set nm x).length=H.length:=fun x=>ae.length_set _ _ _;have d1: ¬nm.1=H.length:=(by omega);have d2: ¬nm.1=H.length+1:=(by omega);have d4:nm.1≤H.length:=(by omega);have d5:nm.1≤H.length+1:=by omega
 induction k with
 |zero=>intro P U V Q v hk hu;omega
 |succ k ih=>
  intro P U V Q v hk hu hv hm hl hY hvN;obtain⟨i,hi⟩: ∃i,U.length=i:=⟨_,rfl⟩;obtain⟨j,hj⟩: ∃j,V.length=j:=⟨_,rfl⟩;have wm:=dM (x:=(m:Int)-i) (by omega) (by omega);by_cases e:i=j
  ·have h1':=h1 P U V Q v (by omega) hm hl hY hvN;rw [hi]at h1'⊢;rw [hj];subst e;apply aw;conv=>arg 4;whnf
   simp [d1,d2,d4,d5];simpa using h1'
  ·have ei: ¬(i:Int)=j:=(by omega);by_cases hij:j<i
   ·have ll:U.length-V.length+V.length=U.length:=(by omega);have S:=y7 (c:=31) (H:=[]::[]::H) (nm:=nm) (N:=N) (v:=v) hn (by simp;omega) P (U.take j) (U.drop j) V Q (by rw [List.length_take];omega) (by rw [List.length_take,List.length_drop];omega) hvN ((m:Int)-i) m j (by omega) (by rw [List.length_take,List.length_drop];omega) (by rw [List.length_take];omega);obtain⟨v',a1,b1⟩:=S;have ih':=ih (P++V) (U.drop j) (U.take j) Q v' (by rw [List.length_take,List.length_drop];omega) (by rw [List.length_drop];omega) (by rw [List.length_take];omega) (by rw [List.length_append,List.length_drop];omega) (by rw [List.length_append,List.length_take,List.length_drop];omega) (by rw [←hY];simp only [List.append_assoc];rw [←List.append_assoc (U.take j),List.take_append_drop]) a1;have e1:P++U.take j++U.drop j++V++Q=P++U++V++Q:=(by rw [List.append_assoc P,List.take_append_drop]);rw [e1]at b1;have li:(U.drop j).length=i-j:=(by rw [List.length_drop,hi]);have lj:(U.take j).length=j:=(by rw [List.length_take];omega);rw [li,lj]at ih';rw [hi,hj];simp only [List.append_assoc]at ih' b1⊢;generalize (P++(U++(V++Q))).map ai.row=R at b1⊢;generalize (P++(V++(U.drop j++(U.take j++Q)))).map ai.row=R' at b1 ih'⊢;simp [d1,d2]at b1;have hji:(j:Int)<i:=(by omega);have wij:IntKind.i64.wrap ((i:Int)-j)=((i-j:Nat):Int):=(by rw [dM (by omega) (by omega)];omega);apply aw;conv=>arg 4;whnf
    simp [d1,d2,d4,d5,ei,e,hij,hji,wm,b1,wij];simpa using ih'
   ·have S:=y7 (c:=46) (H:=[]::[]::H) (nm:=nm) (N:=N) (v:=v) hn (by simp;omega) P U (V.take (j-i)) (V.drop (j-i)) Q (by rw [List.length_drop];omega) (by rw [List.length_take,List.length_drop];omega) hvN ((m:Int)-i) ((m:Int)+j-i) i (by omega) (by rw [List.length_take];omega) (by omega);obtain⟨v',a1,b1⟩:=S;have ih':=ih P (V.drop (j-i)) (V.take (j-i)) (U++Q) v' (by rw [List.length_take,List.length_drop];omega) (by rw [List.length_drop];omega) (by rw [List.length_take];omega) (by rw [List.length_drop];omega) (by rw [List.length_append,List.length_take,List.length_drop];omega) (by rw [←hY];simp only [List.append_assoc];rw [←List.append_assoc (V.take _),List.take_append_drop]) a1;have e1:P++U++V.take (j-i)++V.drop (j-i)++Q=P++U++V++Q:=(by rw [List.append_assoc (P++U),List.take_append_drop]);rw [e1]at b1;have li:(V.drop (j-i)).length=i:=(by rw [List.length_drop,hj];omega);have lj:(V.take (j-i)).length=j-i:=(by rw [List.length_take];omega);rw [li,lj]at ih';rw [hi,hj];simp only [List.append_assoc]at ih' b1⊢;generalize (P++(U++(V++Q))).map ai.row=R at b1⊢;generalize (P++(V.drop (j-i)++(V.take (j-i)++(U++Q)))).map ai.row=R' at b1 ih'⊢;simp [d1,d2]at b1;have hji: ¬(j:Int)<i:=(by omega);have wij:IntKind.i64.wrap ((j:Int)-i)=((j-i:Nat):Int):=(by rw [dM (by omega) (by omega)];omega);have wmj:=dM (x:=(m:Int)+j) (by omega) (by omega);have wmj2:=dM (x:=(m:Int)+j-i) (by omega) (by omega);apply aw;conv=>arg 4;whnf
    simp [d1,d2,d4,d5,ei,e,hij,hji,wm,wmj,wmj2,b1,wij];simpa using ih'
theorem M3 {nm:Nm}{N v:Nat}(hn:N≤1000000)(hnm:nm.1<H.length)(P U V Q:List ai)(hu:0<U.length)(hv:0<V.length)(hl:P.length+U.length+V.length+Q.length=N)(hvN:v≤N)(a m b:Int)(ha:a=P.length)(hm:m=(P.length+U.length:Nat))(hb:b=(P.length+U.length+V.length:Nat)):
  ∃v',v'≤N∧aK KC (aE KC) 131 [.ay nm 9 N 0 N, .pure (.int .i64 a), .pure (.int .i64 m), .pure (.int .i64 b), .pure (.fn 100)] c (H.set nm (.arr 9 ((P++U++V++Q).map ai.row) v false))=
   some (.pure (.tuple []),H.set nm (.arr 9 ((P++V++U++Q).map ai.row) v' false)):=by
 suffices hs:j5 (aK KC (aE KC) 131 [.ay nm 9 N 0 N, .pure (.int .i64 a), .pure (.int .i64 m), .pure (.int .i64 b), .pure (.fn 100)] c (H.set nm (.arr 9 ((P++U++V++Q).map ai.row) v false))) (fun x=> ∃v',v'≤N∧x=(.pure (.tuple []),H.set nm (.arr 9 ((P++V++U++Q).map ai.row) v' false)))by
  obtain⟨x,hx,v',h1,h2⟩:=hs;exact⟨v',h1,by rw [hx,h2]⟩
 have hH:0<(H.set nm (.arr 9 ((P++U++V++Q).map ai.row) v false)).length:=(by rw [ae.length_set];omega);subst ha;have d1: ¬nm.1=H.length:=(by omega);have d4:nm.1≤H.length:=(by omega);obtain⟨m',hm'⟩: ∃m':Nat,P.length+U.length=m':=⟨_,rfl⟩;obtain⟨Y,hY⟩: ∃Y,P++V++U++Q=Y:=⟨_,rfl⟩;have L:=fun Q' h1=>D6 (H:=H) (nm:=nm) (N:=N) (m:=m') hn hnm Y Q' h1 (U.length+V.length) P U V Q v (Nat.le_refl _) hu hv hm' hl hY hvN;have w1:IntKind.i64.wrap (m-(P.length:Int))=U.length:=(by rw [dM (by omega) (by omega)];omega);have w2:IntKind.i64.wrap (b-m)=V.length:=(by rw [dM (by omega) (by omega)];omega);have hmm:m=(m':Int):=(by omega);rw [hY];generalize (P++U++V++Q).map ai.row=R at L hH⊢;refine bJ KC au Try.func131 rfl rfl Gg rfl rfl rfl (by simp) hH ?_;rw [hmm]at w1 w2⊢;simp [w1,w2];simp at L;refine L _ fun P2 U2 V2 Q2 v' hl2 hm2 hn2 hY2 hv2=> ?_;have wm:=dM (x:=(m':Int)-(U2.length:Int)) (by omega) (by omega);obtain⟨v3,a3,b3⟩:=y7 (c:=57) (H:=[]::H) (nm:=nm) (N:=N) (v:=v') hn (by simp;omega) P2 U2 [] V2 Q2 hl2 (by simp;omega) hv2 ((m':Int)-(U2.length:Int)) m' U2.length (by omega) (by simp;omega) rfl;rw [show P2++V2++[]++U2++Q2=Y by rw [←hY2];simp,show P2++U2++[]++V2++Q2=P2++U2++V2++Q2 by simp]at b3
 simp only [List.append_assoc]at b3⊢;simp [d1]at b3;simp [b3,d1,d4,wm,ah,ae.length_set];exact⟨v3,a3,rfl⟩
end
section
variable {c:Nat} {H:ae}
theorem UF {x:Int}(h1:0≤x)(h2:x≤9223372036854775807):IntKind.u64.wrap x=x:=by
 unfold IntKind.wrap;simp [IntKind.bits,IntKind.signed];omega
theorem qF {x:Int}{n:Nat}(h:x=n)(hn:n≤4000000):IntKind.i64.wrap ((IntKind.u64.wrap (IntKind.i64.wrap x)).fdiv 2)=((n/2:Nat):Int):=by
 subst h;have e1:IntKind.i64.wrap (n:Int)=n:=dM (by omega) (by omega);have e2:IntKind.u64.wrap (n:Int)=n:=UF (by omega) (by omega);rw [e1,e2];have:Int.fdiv (n:Int) 2=((n/2:Nat):Int):=(by rw [Int.fdiv_eq_ediv_of_nonneg _ (by omega)];omega);rw [this];exact dM (by omega) (by omega)
theorem D7 {nm:Nm} {N:Nat} (hn:N≤1000000) (hnm:nm.1<H.length) (P:List ai) (x:ai) (L Q:List ai) (hl:P.length+1+L.length+Q.length=N) (hp:L.Pairwise fun a b=>a.aQ≤b.aQ) {v:Nat} (hv:v≤N) (Q':GX→bE→Prop)
  (h1: ∀i,i≤L.length→(∀q (h:q<L.length),q<i→L[q].aQ<x.aQ)→(∀q (h:q<L.length),i≤q→x.aQ≤L[q].aQ)→Q' (.exit 0) ⟨[(0, .ay nm 9 N 0 N),(1, .pure (.int .i64 P.length)),(10, .pure (.int .i64 ((P.length+1+i:Nat):Int)))],[]::H.set nm (.arr 9 ((P++x::(L++Q)).map ai.row) v false),220⟩): ∀(k i j:Nat),j-i≤k→i≤j→j≤L.length→(∀q (h:q<L.length),q<i→L[q].aQ<x.aQ)→(∀q (h:q<L.length),j≤q→x.aQ≤L[q].aQ)→
  jf KC au 130 (lp Try.f130 0) [0,1,4,10,11] [0,1,10] Q' [(0, .ay nm 9 N 0 N),(1, .pure (.int .i64 P.length)),(4, .pure (.fn 100)),(10, .pure (.int .i64 ((P.length+1+i:Nat):Int))),(11, .pure (.int .i64 ((P.length+1+j:Nat):Int)))] ([]::H.set nm (.arr 9 ((P++x::(L++Q)).map ai.row) v false)) 220:=by
 intro k;have l0: ∀x,(H.set nm x).length=H.length:=fun x=>ae.length_set _ _ _;have d1: ¬nm.1=H.length:=(by omega);have d2: ¬nm.1=H.length+1:=(by omega);have d4:nm.1≤H.length:=(by omega);have d5:nm.1≤H.length+1:=(by omega);have gs: ∀x,(H.set nm x).get nm=some x:=fun x=>ae.cw x hnm;have C:=fun c (x y:ai) (H:ae) (hH:0<H.length)=>qI (c:=c) (x:=x) (y:=y) (H:=H) hH
 induction k with
 |zero=>
  intro i j hk hij hj lo hi;obtain rfl:i=j:=(by omega);have h1':=h1 i hj lo hi;apply aw;conv=>arg 4;whnf
  simp [d1,d2,d4,d5];simpa using h1'
 |succ k ih=>
  intro i j hk hij hj lo hi;by_cases e:i=j
  ·subst e;have h1':=h1 i hj lo hi;apply aw;conv=>arg 4;whnf
   simp [d1,d2,d4,d5];simpa using h1'
  ·obtain⟨p,hpp⟩: ∃p,P.length+1=p:=⟨_,rfl⟩;obtain⟨h,hh⟩: ∃h,(i+j)/2=h:=⟨_,rfl⟩;have hih:i≤h∧h<j:=(by omega);have hlt:h<L.length:=(by omega);obtain⟨R,hR⟩: ∃R,(P++x::(L++Q)).map ai.row=R:=⟨_,rfl⟩;have hRl:R.length=N:=(by rw [←hR];simp only [List.length_map,List.length_append,List.length_cons];omega);have g1:R[P.length]? =some x.row:=hR▸gO (P:=P) (Q:=L++Q) rfl rfl;obtain⟨y,hy⟩: ∃y,L[h]'hlt=y:=⟨_,rfl⟩;have g2:R[p+h]? =some y.row:=by
    obtain⟨T,D,e0,hT⟩: ∃T D,L=T++y::D∧T.length=h:=⟨L.take h,L.drop (h+1),by rw [←hy,←List.drop_eq_getElem_cons hlt,List.take_append_drop],by rw [List.length_take];omega⟩;exact hR▸gO (P:=P++x::T) (Q:=D++Q) (by rw [e0];simp) (by simp only [List.length_append,List.length_cons];omega)
   have G1: ∀h,R[P.length]'h=x.row:=fun h=>(by rw [List.getElem?_eq_getElem h]at g1;simpa using g1);have G2: ∀h',R[p+h]'h'=y.row:=fun h=>(by rw [List.getElem?_eq_getElem h]at g2;simpa using g2);have ih1:=ih (h+1) j (by omega) (by omega) hj;have ih2:=ih i h (by omega) (by omega) (by omega) lo;have hij':((p+i:Nat):Int)<((p+j:Nat):Int):=(by omega);rw [hR]at h1 ih1 ih2⊢;rw [hpp]at h1 ih1 ih2⊢;apply aw;conv=>arg 4;whnf
   have hij2:i<j:=(by omega);have hf:=qF (x:=(p:Int)+i+((p:Int)+j)) (n:=p+i+(p+j)) (by omega) (by omega);have ef:(p+i+(p+j))/2=p+h:=(by omega);rw [ef]at hf;have ecast:((p+h:Nat):Int)=(p:Int)+h:=(by omega);rw [ecast]at hf;have w1:=dM (x:=(p:Int)+h+1) (by omega) (by omega);have n1: ¬(p:Int)+h<0:=(by omega);have t1:Int.toNat ((p:Int)+h)=p+h:=(by omega);have m1:(p:Int)+h<N:=(by omega);have m2:p+h<N:=(by omega);have m3:P.length<N:=(by omega);have l9: ∀z:ai,z.row.length=9:=fun _=>rfl;have t9: ∀z:ai,List.take 9 z.row=z.row:=fun _=>rfl;by_cases hlt2:y.aQ<x.aQ
   ·have hc:kM y.aQ x.aQ<0:=(by unfold kM;rw [if_pos hlt2];omega);have ih1':=ih1 (fun q hq hqh=>by
     rcases Nat.lt_or_ge q i with hqi|hqi
     ·exact lo q hq hqi
     ·have:=kV hp hq hlt (by omega);rw [hy]at this;omega) hi
    have ec:((p+(h+1):Nat):Int)=(p:Int)+h+1:=(by omega);rw [ec]at ih1';simp [d1,d2,d4,d5,l0,gs,hij',hij2,hRl,hv,C,G1,G2,hf,w1,n1,t1,m1,m2,m3,l9,t9,hc];simpa using ih1'
   ·have hc: ¬kM y.aQ x.aQ<0:=by
     unfold kM;rw [if_neg hlt2];split<;>omega
    have ih2':=ih2 (fun q hq hqh=>by
     have:=kV hp hlt hq hqh;rw [hy]at this;omega)
    rw [ecast]at ih2';simp [d1,d2,d4,d5,l0,gs,hij',hij2,hRl,hv,C,G1,G2,hf,w1,n1,t1,m1,m2,m3,l9,t9,hc];simpa using ih2'
theorem D8 {nm:Nm}{N i:Nat}(hn:N≤1000000)(hnm:nm.1<H.length)(P Q:List ai)(x:ai)(Q':GX→bE→Prop): ∀(k:Nat) (A B:List ai) (v:Nat),B.length=k→P.length+A.length+1+B.length+Q.length=N→i=P.length+A.length+B.length+1→v≤N→
  (∀v',v'≤N→Q' (.exit 2) ⟨[],[]::H.set nm (.arr 9 ((P++(A++B)++x::Q).map ai.row) v' false),220⟩)→
  jf KC au 130 (lp Try.f130 1) [0,10,13] [] Q' [(0, .ay nm 9 N 0 N),(10, .pure (.int .i64 i)),(13, .pure (.int .i64 ((P.length+A.length:Nat):Int)))] ([]::H.set nm (.arr 9 ((P++A++x::(B++Q)).map ai.row) v false)) 220:=by
 intro k;have l0: ∀x,(H.set nm x).length=H.length:=fun x=>ae.length_set _ _ _;have d1: ¬nm.1=H.length:=(by omega);have d2: ¬nm.1=H.length+1:=(by omega);have d4:nm.1≤H.length:=(by omega);have gs: ∀x,(H.set nm x).get nm=some x:=fun x=>ae.cw x hnm
 induction k with
 |zero=>
  intro A B v hB hl hi hv h1;obtain rfl:B=[]:=List.length_eq_zero_iff.1 hB;have h1':=h1 v hv;have wi:IntKind.i64.wrap ((i:Int)-1)=((P.length+A.length:Nat):Int):=by
   have hi':i=P.length+A.length+1:=(by simpa using hi);rw [dM (by omega) (by omega)];omega
  obtain⟨p,hp⟩: ∃p,P.length+A.length=p:=⟨_,rfl⟩;rw [hp]at wi⊢;rw [List.append_nil]at h1';simp only [List.nil_append];apply aw;conv=>arg 4;whnf
  simp [wi,d4];simpa using h1'
 |succ k ih=>
  intro A B v hB hl hi hv h1;obtain⟨y,B,rfl⟩: ∃x A,B=x::A:=(by cases B with|nil=>simp at hB|cons x A=>exact⟨x,A,rfl⟩);simp only [List.length_cons]at hB hl hi;have ih':=ih (A++[y]) B N (by omega) (by rw [List.length_append,List.length_singleton];omega) (by rw [List.length_append,List.length_singleton];omega) (Nat.le_refl _) (fun v' hv'=>by simpa using h1 v' hv');obtain⟨j,hj⟩: ∃j,P.length+A.length=j:=⟨_,rfl⟩;obtain⟨R,hR⟩: ∃R,(P++A++x::(y::B++Q)).map ai.row=R:=⟨_,rfl⟩;have g1:R[j]? =some x.row:=hR▸gO (P:=P++A) (Q:=y::B++Q) (by simp) (by rw [List.length_append];omega);have g2:R[j+1]? =some y.row:=hR▸gO (P:=P++A++[x]) (Q:=B++Q) (by simp) (by simp only [List.length_append,List.length_cons,List.length_nil];omega);have gsw:(R.set j y.row).set (j+1) x.row=(P++(A++[y])++x::(B++Q)).map ai.row:=by
   rw [←hR,mr (P:=P++A) (Q:=y::B++Q) (x:=x) (by simp) (by rw [List.length_append];omega),mr (P:=P++A++[y]) (Q:=B++Q) (x:=y) (by simp) (by simp only [List.length_append,List.length_cons,List.length_nil];omega)];simp
  have hRl:R.length=N:=(by rw [←hR];simp only [List.length_map,List.length_append,List.length_cons];omega);rw [←gsw]at ih';have e1:P.length+(A++[y]).length=j+1:=(by rw [List.length_append,List.length_singleton];omega);rw [e1]at ih';rw [hR,hj];have wi:=dM (x:=(i:Int)-1) (by omega) (by omega);have wj:=dM (x:=(j:Int)+1) (by omega) (by omega);have hlt:(j:Int)<(i:Int)-1:=(by omega);have jn: ¬(j:Int)+1<0:=(by omega);have jt:Int.toNat ((j:Int)+1)=j+1:=(by omega);have m1:(j:Int)+1<N:=(by omega);have m2:(j:Int)<N:=(by omega);have m3:j+1<N:=(by omega);have m4:j<N:=(by omega);have G1: ∀h,R[j]'h=x.row:=fun h=>(by rw [List.getElem?_eq_getElem h]at g1;simpa using g1);have G2: ∀h,R[j+1]'h=y.row:=fun h=>(by rw [List.getElem?_eq_getElem h]at g2;simpa using g2);have l9: ∀z:ai,z.row.length=9:=fun _=>rfl;have t9: ∀z:ai,List.take 9 z.row=z.row:=fun _=>rfl;have dr9: ∀z:ai,List.drop 9 z.row=[]:=fun _=>rfl;have lp9: ∀z:ai,∀H:ae,bp H (z.row.map .pure)=(z.row,H):=fun z H=>rfl;clear h1 ih;apply aw;conv=>arg 4;whnf
  simp [hlt,d1,d2,d4,gs,l0,hRl,hv,wi,wj,jn,jt,m1,m2,m3,m4,G1,G2,l9,t9,aD,ae.set_set,lp9,dr9];simpa using ih'
theorem D9 {nm:Nm}{N:Nat}(hn:N≤1000000)(hnm:nm.1<H.length)(P Q:List ai)(x:ai)(Q':GX→bE→Prop): ∀(k:Nat) (A B:List ai) (v:Nat),A.length=k→P.length+A.length+1+B.length+Q.length=N→v≤N→
  (∀v',v'≤N→Q' (.exit 6) ⟨[],[]::H.set nm (.arr 9 ((P++x::((A++B)++Q)).map ai.row) v' false),220⟩)→
  jf KC au 130 (lp Try.f130 3) [0,14,17] [] Q' [(0, .ay nm 9 N 0 N),(14, .pure (.int .i64 P.length)),(17, .pure (.int .i64 ((P.length+A.length:Nat):Int)))] ([]::H.set nm (.arr 9 ((P++A++x::(B++Q)).map ai.row) v false)) 220:=by
 intro k;have l0: ∀x,(H.set nm x).length=H.length:=fun x=>ae.length_set _ _ _;have d1: ¬nm.1=H.length:=(by omega);have d2: ¬nm.1=H.length+1:=(by omega);have d4:nm.1≤H.length:=(by omega);have gs: ∀x,(H.set nm x).get nm=some x:=fun x=>ae.cw x hnm
 induction k with
 |zero=>
  intro A B v hA hl hv h1;obtain rfl:A=[]:=List.length_eq_zero_iff.1 hA;have h1':=h1 v hv;simp only [List.append_nil,List.nil_append]at h1'⊢;apply aw;conv=>arg 4;whnf
  simp [d4];simpa using h1'
 |succ k ih=>
  intro A B v hA hl hv h1;obtain⟨A,y,rfl⟩: ∃A' y,A=A'++[y]:=by
   have hne:A≠[]:=fun e=>(by rw [e]at hA;simp at hA);exact⟨A.dropLast,A.getLast hne,(List.dropLast_concat_getLast hne).symm⟩
  simp only [List.length_append,List.length_singleton]at hA hl;have ih':=ih A (y::B) N (by omega) (by rw [List.length_cons];omega) (Nat.le_refl _) (fun v' hv'=>by simpa using h1 v' hv');obtain⟨j,hj⟩: ∃j,P.length+A.length=j:=⟨_,rfl⟩;obtain⟨R,hR⟩: ∃R,(P++(A++[y])++x::(B++Q)).map ai.row=R:=⟨_,rfl⟩;have g1:R[j]? =some y.row:=hR▸gO (P:=P++A) (Q:=x::(B++Q)) (by simp) (by rw [List.length_append];omega);have g2:R[j+1]? =some x.row:=hR▸gO (P:=P++A++[y]) (Q:=B++Q) (by simp) (by simp only [List.length_append,List.length_cons,List.length_nil];omega);have gsw:(R.set (j+1) y.row).set j x.row=(P++A++x::(y::B++Q)).map ai.row:=by
   rw [←hR,mr (P:=P++A++[y]) (Q:=B++Q) (x:=x) (by simp) (by simp only [List.length_append,List.length_cons,List.length_nil];omega),mr (P:=P++A) (Q:=y::(B++Q)) (x:=y) (by simp) (by rw [List.length_append];omega)];simp
  have hRl:R.length=N:=(by rw [←hR];simp only [List.length_map,List.length_append,List.length_cons,List.length_nil];omega);rw [←gsw]at ih';have e1:P.length+(A++[y]).length=j+1:=(by rw [List.length_append,List.length_singleton];omega);rw [hR,e1]at*;rw [hj]at ih';have w0:=dM (x:=(j:Int)) (by omega) (by omega);have wj:IntKind.i64.wrap ((j:Int)+1-1)=j:=by rw [show (j:Int)+1-1=j by omega];exact w0
  have hlt:(P.length:Int)<(j:Int)+1:=(by omega);have jn: ¬(j:Int)+1<0:=(by omega);have jt:Int.toNat ((j:Int)+1)=j+1:=(by omega);have m1:(j:Int)+1<N:=(by omega);have m2:(j:Int)<N:=(by omega);have m3:j+1<N:=(by omega);have m4:j<N:=(by omega);have G1: ∀h,R[j]'h=y.row:=fun h=>(by rw [List.getElem?_eq_getElem h]at g1;simpa using g1);have G2: ∀h,R[j+1]'h=x.row:=fun h=>(by rw [List.getElem?_eq_getElem h]at g2;simpa using g2);have l9: ∀z:ai,z.row.length=9:=fun _=>rfl;have t9: ∀z:ai,List.take 9 z.row=z.row:=fun _=>rfl;have dr9: ∀z:ai,List.drop 9 z.row=[]:=fun _=>rfl;have lp9: ∀z:ai,∀H:ae,bp H (z.row.map .pure)=(z.row,H):=fun z H=>rfl;clear h1 ih;apply aw;conv=>arg 4;whnf
  simp [hlt,d1,d2,d4,gs,l0,hRl,hv,w0,wj,jn,jt,m1,m2,m3,m4,G1,G2,l9,t9,aD,ae.set_set,lp9,dr9];simpa using ih'
end
section
variable {c:Nat} {H:ae}
theorem Ea {nm:Nm} {N:Nat} (hn:N≤1000000) (hnm:nm.1<H.length) (P:List ai) (x:ai) (L Q:List ai) (hl:P.length+L.length+1+Q.length=N) (hp:L.Pairwise fun a b=>a.aQ≤b.aQ) {v:Nat} (hv:v≤N) (Q':GX→bE→Prop)
  (h1: ∀i,i≤L.length→(∀q (h:q<L.length),q<i→L[q].aQ≤x.aQ)→(∀q (h:q<L.length),i≤q→x.aQ<L[q].aQ)→Q' (.exit 4) ⟨[(0, .ay nm 9 N 0 N),(2, .pure (.int .i64 ((P.length+L.length:Nat):Int))),(14, .pure (.int .i64 ((P.length+i:Nat):Int)))],[]::H.set nm (.arr 9 ((P++L++x::Q).map ai.row) v false),220⟩): ∀(k i j:Nat),j-i≤k→i≤j→j≤L.length→(∀q (h:q<L.length),q<i→L[q].aQ≤x.aQ)→(∀q (h:q<L.length),j≤q→x.aQ<L[q].aQ)→
  jf KC au 130 (lp Try.f130 2) [0,2,4,14,15] [0,2,14] Q' [(0, .ay nm 9 N 0 N),(2, .pure (.int .i64 ((P.length+L.length:Nat):Int))),(4, .pure (.fn 100)),(14, .pure (.int .i64 ((P.length+i:Nat):Int))),(15, .pure (.int .i64 ((P.length+j:Nat):Int)))] ([]::H.set nm (.arr 9 ((P++L++x::Q).map ai.row) v false)) 220:=by
 intro k;have l0: ∀x,(H.set nm x).length=H.length:=fun x=>ae.length_set _ _ _;have d1: ¬nm.1=H.length:=(by omega);have d2: ¬nm.1=H.length+1:=(by omega);have d4:nm.1≤H.length:=(by omega);have d5:nm.1≤H.length+1:=(by omega);have gs: ∀x,(H.set nm x).get nm=some x:=fun x=>ae.cw x hnm;have C:=fun c (x y:ai) (H:ae) (hH:0<H.length)=>qI (c:=c) (x:=x) (y:=y) (H:=H) hH;obtain⟨m,hm⟩: ∃m,P.length+L.length=m:=⟨_,rfl⟩
 induction k with
 |zero=>
  intro i j hk hij hj lo hi;obtain rfl:i=j:=(by omega);have h1':=h1 i hj lo hi;apply aw;conv=>arg 4;whnf
  simp [d1,d2,d4,d5];simpa using h1'
 |succ k ih=>
  intro i j hk hij hj lo hi;by_cases e:i=j
  ·subst e;have h1':=h1 i hj lo hi;apply aw;conv=>arg 4;whnf
   simp [d1,d2,d4,d5];simpa using h1'
  ·obtain⟨p,hpp⟩: ∃p,P.length=p:=⟨_,rfl⟩;obtain⟨h,hh⟩: ∃h,(p+i+(p+j))/2-p=h:=⟨_,rfl⟩;have hih:i≤h∧h<j:=(by omega);have hlt:h<L.length:=(by omega);obtain⟨R,hR⟩: ∃R,(P++L++x::Q).map ai.row=R:=⟨_,rfl⟩;have hRl:R.length=N:=(by rw [←hR];simp only [List.length_map,List.length_append,List.length_cons];omega);have g1:R[m]? =some x.row:=hR▸gO (P:=P++L) (Q:=Q) rfl (by rw [List.length_append];exact hm.symm);obtain⟨y,hy⟩: ∃y,L[h]'hlt=y:=⟨_,rfl⟩;have g2:R[p+h]? =some y.row:=by
    obtain⟨T,D,e0,hT⟩: ∃T D,L=T++y::D∧T.length=h:=⟨L.take h,L.drop (h+1),by rw [←hy,←List.drop_eq_getElem_cons hlt,List.take_append_drop],by rw [List.length_take];omega⟩;exact hR▸gO (P:=P++T) (Q:=D++x::Q) (by rw [e0];simp) (by simp only [List.length_append];omega)
   have G1: ∀h,R[m]'h=x.row:=fun h=>(by rw [List.getElem?_eq_getElem h]at g1;simpa using g1);have G2: ∀h',R[p+h]'h'=y.row:=fun h=>(by rw [List.getElem?_eq_getElem h]at g2;simpa using g2);have ih1:=ih (h+1) j (by omega) (by omega) hj;have ih2:=ih i h (by omega) (by omega) (by omega) lo;have hij':((p+i:Nat):Int)<((p+j:Nat):Int):=(by omega);rw [hR,hm]at h1 ih1 ih2⊢;rw [hpp]at h1 ih1 ih2⊢;apply aw;conv=>arg 4;whnf
   have hij2:i<j:=(by omega);have hf:=qF (x:=(p:Int)+i+((p:Int)+j)) (n:=p+i+(p+j)) (by omega) (by omega);have ef:(p+i+(p+j))/2=p+h:=(by omega);rw [ef]at hf;have ecast:((p+h:Nat):Int)=(p:Int)+h:=(by omega);rw [ecast]at hf;have w1:=dM (x:=(p:Int)+h+1) (by omega) (by omega);have n1: ¬(p:Int)+h<0:=(by omega);have t1:Int.toNat ((p:Int)+h)=p+h:=(by omega);have m1:(p:Int)+h<N:=(by omega);have m2:p+h<N:=(by omega);have m3:m<N:=(by omega);have l9: ∀z:ai,z.row.length=9:=fun _=>rfl;have t9: ∀z:ai,List.take 9 z.row=z.row:=fun _=>rfl;by_cases hlt2:x.aQ<y.aQ
   ·have hc:kM x.aQ y.aQ<0:=(by unfold kM;rw [if_pos hlt2];omega);have ih2':=ih2 (fun q hq hqh=>by
     have:=kV hp hlt hq hqh;rw [hy]at this;omega)
    rw [ecast]at ih2';simp [d1,d2,d4,d5,l0,gs,hij',hij2,hRl,hv,C,G1,G2,hf,w1,n1,t1,m1,m2,m3,l9,t9,hc];simpa using ih2'
   ·have hc: ¬kM x.aQ y.aQ<0:=by
     unfold kM;rw [if_neg hlt2];split<;>omega
    have ih1':=ih1 (fun q hq hqh=>by
     rcases Nat.lt_or_ge q i with hqi|hqi
     ·exact lo q hq hqi
     ·have:=kV hp hq hlt (by omega);rw [hy]at this;omega) hi
    have ec:((p+(h+1):Nat):Int)=(p:Int)+h+1:=(by omega);rw [ec]at ih1';simp [d1,d2,d4,d5,l0,gs,hij',hij2,hRl,hv,C,G1,G2,hf,w1,n1,t1,m1,m2,m3,l9,t9,hc];simpa using ih1'
def mQ (X:List ai)(i:Nat):Int:=(X.getD i ct).aQ
theorem DN {nm:Nm} {N:Nat} (hn:N≤1000000) (hnm:nm.1<H.length) (X:List ai) (hl:X.length=N) {v:Nat} (hv:v≤N) {a m b mid n s0 r0:Nat} (hnn:n≤2000000) (hb0:r0<n) (hr: ∀q,s0≤q→q<r0→q<N∧n-1-q<N) (mono: ∀q q',s0≤q→q≤q'→q'<r0→mQ X q≤mQ X q'∧mQ X (n-1-q')≤mQ X (n-1-q)) (Q':GX→bE→Prop)
  (h1: ∀s,s0≤s→s≤r0→(s0<s→mQ X (s-1)≤mQ X (n-s))→(s<r0→mQ X (n-1-s)<mQ X s)→Q' (.exit 8) ⟨[(0, .ay nm 9 N 0 N),(1, .pure (.int .i64 a)),(2, .pure (.int .i64 m)),(3, .pure (.int .i64 b)),(4, .pure (.fn 100)),(18, .pure (.int .i64 mid)),(19, .pure (.int .i64 n)),(20, .pure (.int .i64 s))],[]::H.set nm (.arr 9 (X.map ai.row) v false),220⟩): ∀(k s r:Nat),r-s≤k→s0≤s→s≤r→r≤r0→(s0<s→mQ X (s-1)≤mQ X (n-s))→(r<r0→mQ X (n-1-r)<mQ X r)→
  jf KC au 130 (lp Try.f130 4) [0,1,2,3,4,18,19,20,21,22] [0,1,2,3,4,18,19,20] Q' [(0, .ay nm 9 N 0 N),(1, .pure (.int .i64 a)),(2, .pure (.int .i64 m)),(3, .pure (.int .i64 b)),(4, .pure (.fn 100)),(18, .pure (.int .i64 mid)),(19, .pure (.int .i64 n)),(20, .pure (.int .i64 s)),(21, .pure (.int .i64 r)),(22, .pure (.int .i64 ((n-1:Nat):Int)))] ([]::H.set nm (.arr 9 (X.map ai.row) v false)) 220:=by
 intro k;have l0: ∀x,(H.set nm x).length=H.length:=fun x=>ae.length_set _ _ _;have d1: ¬nm.1=H.length:=(by omega);have d2: ¬nm.1=H.length+1:=(by omega);have d4:nm.1≤H.length:=(by omega);have d5:nm.1≤H.length+1:=(by omega);have gs: ∀x,(H.set nm x).get nm=some x:=fun x=>ae.cw x hnm;have C:=fun c (x y:ai) (H:ae) (hH:0<H.length)=>qI (c:=c) (x:=x) (y:=y) (H:=H) hH;have e0:((n-1:Nat):Int)=(n:Int)-1:=(by omega);rw [e0]
 induction k with
 |zero=>
  intro s r hk hs hsr hrr lo hi;obtain rfl:s=r:=(by omega);have h1':=h1 s hs hrr lo hi;apply aw;conv=>arg 4;whnf
  simp [d1,d2,d4,d5];simpa using h1'
 |succ k ih=>
  intro s r hk hs hsr hrr lo hi;by_cases e:s=r
  ·subst e;have h1':=h1 s hs hrr lo hi;apply aw;conv=>arg 4;whnf
   simp [d1,d2,d4,d5];simpa using h1'
  ·obtain⟨h,hh⟩: ∃h,(s+r)/2=h:=⟨_,rfl⟩;have hih:s≤h∧h<r:=(by omega);obtain⟨hN1,hN2⟩:=hr h (by omega) (by omega);obtain⟨z,hz⟩: ∃z,n-1-h=z:=⟨_,rfl⟩;rw [hz]at hN2;have q1:X.getD h ct=X[h]:=aX (by omega);have q2:X.getD z ct=X[z]:=aX (by omega);obtain⟨x,hx⟩: ∃x,X[z]'(by omega)=x:=⟨_,rfl⟩;obtain⟨y,hy⟩: ∃y,X[h]'(by omega)=y:=⟨_,rfl⟩;have a1:mQ X h=y.aQ:=(by unfold mQ;rw [q1,hy]);have a2:mQ X z=x.aQ:=(by unfold mQ;rw [q2,hx]);have G1: ∀h',X[z]'h'=x:=fun _=>hx;have G2: ∀h',X[h]'h'=y:=fun _=>hy;have ih1:=ih (h+1) r (by omega) (by omega) (by omega) hrr;have ih2:=ih s h (by omega) hs (by omega) (by omega) lo;have hf:=qF (x:=(s:Int)+r) (n:=s+r) (by omega) (by omega);rw [hh]at hf;have w0:IntKind.i64.wrap ((n:Int)-1-h)=z:=(by rw [dM (by omega) (by omega)];omega);have w1:=dM (x:=(h:Int)+1) (by omega) (by omega);have hij2:s<r:=(by omega);have l9: ∀z:ai,z.row.length=9:=fun _=>rfl;have t9: ∀z:ai,List.take 9 z.row=z.row:=fun _=>rfl;apply aw;conv=>arg 4;whnf
   by_cases hlt2:x.aQ<y.aQ
   ·have hc:kM x.aQ y.aQ<0:=(by unfold kM;rw [if_pos hlt2];omega);have ih2':=ih2 (fun _=>by rw [hz,a1,a2];exact hlt2);simp [d1,d2,d4,d5,l0,gs,hij2,hl,hv,C,G1,G2,hf,w0,w1,hN1,hN2,l9,t9,hc];simpa using ih2'
   ·have hc: ¬kM x.aQ y.aQ<0:=by
     unfold kM;rw [if_neg hlt2];split<;>omega
    have ih1':=ih1 (fun _=>by
     have e1:h+1-1=h:=(by omega);have e2:n-(h+1)=z:=(by omega);rw [e1,e2,a1,a2];omega) hi
    have ec:((h+1:Nat):Int)=(h:Int)+1:=(by omega);rw [ec]at ih1';simp [d1,d2,d4,d5,l0,gs,hij2,hl,hv,C,G1,G2,hf,w0,w1,hN1,hN2,l9,t9,hc];simpa using ih1'
end
section
variable {c:Nat} {H:ae}
theorem zY {L:List ai}{i:Nat}{p:ai→Prop}:(∀q (h:q<L.length),q<i→p L[q])→ ∀r∈L.take i,p r:=fun h r hr=>by
 obtain⟨q,hq,rfl⟩:=List.getElem_of_mem hr;rw [List.length_take]at hq;rw [List.getElem_take];exact h q (by omega) (by omega)
theorem xD {L:List ai}{i:Nat}{p:ai→Prop}:(∀q (h:q<L.length),i≤q→p L[q])→ ∀r∈L.drop i,p r:=fun h r hr=>by
 obtain⟨q,hq,rfl⟩:=List.getElem_of_mem hr;rw [List.length_drop]at hq;rw [List.getElem_drop];exact h _ (by omega) (by omega)
theorem UD {nm:Nm}{N:Nat}(hn:N≤1000000)(hnm:nm.1<H.length)(P:List ai)(x:ai)(L Q:List ai)(hl:P.length+1+L.length+Q.length=N)(hp:L.Pairwise fun a b=>a.aQ≤b.aQ){v:Nat}(hv:v≤N)(a m b:Int)(ha:a=P.length)(hm:m=(P.length:Int)+1)(hb:b=(P.length:Int)+1+L.length):
  ∃v',v'≤N∧aK KC (aE KC) 130 [.ay nm 9 N 0 N, .pure (.int .i64 a), .pure (.int .i64 m), .pure (.int .i64 b), .pure (.fn 100)] c (H.set nm (.arr 9 ((P++x::(L++Q)).map ai.row) v false))=
   some (.pure (.tuple []),H.set nm (.arr 9 ((P++(aP ([x]++L)++Q)).map ai.row) v' false)):=by
 suffices hs:j5 (aK KC (aE KC) 130 [.ay nm 9 N 0 N, .pure (.int .i64 a), .pure (.int .i64 m), .pure (.int .i64 b), .pure (.fn 100)] c (H.set nm (.arr 9 ((P++x::(L++Q)).map ai.row) v false))) (fun r=> ∃v',v'≤N∧r=(.pure (.tuple []),H.set nm (.arr 9 ((P++(aP ([x]++L)++Q)).map ai.row) v' false)))by
  obtain⟨r,hx,v',h1,h2⟩:=hs;exact⟨v',h1,by rw [hx,h2]⟩
 have hH:0<(H.set nm (.arr 9 ((P++x::(L++Q)).map ai.row) v false)).length:=(by rw [ae.length_set];omega);subst ha hm hb;obtain⟨Y,hY⟩: ∃Y,P++(aP ([x]++L)++Q)=Y:=⟨_,rfl⟩;have BS:=fun Q' h1=>D7 (H:=H) (nm:=nm) (N:=N) hn hnm P x L Q hl hp hv Q' h1 L.length 0 L.length (by omega) (by omega) (Nat.le_refl _) (fun q h h0=>by omega) (fun q h h0=>by omega);have SH:=fun(i:Nat) (hi:i≤L.length) Q' h1=>D8 (H:=H) (nm:=nm) (N:=N) (i:=P.length+1+i) hn hnm P (L.drop i++Q) x Q' i [] (L.take i) v (by rw [List.length_take];omega) (by rw [List.length_append,List.length_take,List.length_drop];simp only [List.length_nil];omega) (by rw [List.length_take];simp only [List.length_nil];omega) hv h1;have e1: ∀i,P++[]++x::(L.take i++(L.drop i++Q))=P++x::(L++Q):=fun i=>(by rw [←List.append_assoc (L.take i),List.take_append_drop,List.append_nil]);have e2: ∀i,(∀q (h:q<L.length),q<i→L[q].aQ<x.aQ)→(∀q (h:q<L.length),i≤q→x.aQ≤L[q].aQ)→P++([]++L.take i)++x::(L.drop i++Q)=Y:=fun i h1 h2=>by
  have:=y6 (x:=x) (R1:=L.take i) (R2:=L.drop i) (by rw [List.take_append_drop];exact hp) (zY (p:=fun r=>r.aQ<x.aQ) h1) (xD (p:=fun r=>x.aQ≤r.aQ) h2);rw [List.take_append_drop]at this;rw [←hY,this];simp
 rw [hY];simp only [e1]at SH;generalize hR:(P++x::(L++Q)).map ai.row=R at BS SH hH⊢;have w1:IntKind.i64.wrap ((P.length:Int)+1-P.length)=1:=(by rw [dM (by omega) (by omega)];omega);refine bJ KC au Try.func130 rfl rfl ug rfl rfl rfl (by simp) hH ?_;simp at BS;simp [w1];refine BS _ fun i hi hlo hhi=> ?_;have S:=SH i hi;rw [e2 i hlo hhi]at S;simp at S;simp;refine S _ fun v' hv'=> ?_;simp [ah,ae.length_set];exact⟨v',hv',rfl⟩
theorem UE {nm:Nm}{N:Nat}(hn:N≤1000000)(hnm:nm.1<H.length)(P:List ai)(x:ai)(L Q:List ai)(hL:2≤L.length)(hl:P.length+L.length+1+Q.length=N)(hp:L.Pairwise fun a b=>a.aQ≤b.aQ){v:Nat}(hv:v≤N)(a m b:Int)(ha:a=P.length)(hm:m=(P.length:Int)+L.length)(hb:b=(P.length:Int)+L.length+1):
  ∃v',v'≤N∧aK KC (aE KC) 130 [.ay nm 9 N 0 N, .pure (.int .i64 a), .pure (.int .i64 m), .pure (.int .i64 b), .pure (.fn 100)] c (H.set nm (.arr 9 ((P++L++x::Q).map ai.row) v false))=
   some (.pure (.tuple []),H.set nm (.arr 9 ((P++(aP (L++[x])++Q)).map ai.row) v' false)):=by
 suffices hs:j5 (aK KC (aE KC) 130 [.ay nm 9 N 0 N, .pure (.int .i64 a), .pure (.int .i64 m), .pure (.int .i64 b), .pure (.fn 100)] c (H.set nm (.arr 9 ((P++L++x::Q).map ai.row) v false))) (fun r=> ∃v',v'≤N∧r=(.pure (.tuple []),H.set nm (.arr 9 ((P++(aP (L++[x])++Q)).map ai.row) v' false)))by
  obtain⟨r,hx,v',h1,h2⟩:=hs;exact⟨v',h1,by rw [hx,h2]⟩
 have hH:0<(H.set nm (.arr 9 ((P++L++x::Q).map ai.row) v false)).length:=(by rw [ae.length_set];omega);subst ha hm hb;obtain⟨Y,hY⟩: ∃Y,P++(aP (L++[x])++Q)=Y:=⟨_,rfl⟩;have BS:=fun Q' h1=>Ea (H:=H) (nm:=nm) (N:=N) hn hnm P x L Q hl hp hv Q' h1 L.length 0 L.length (by omega) (by omega) (Nat.le_refl _) (fun q h h0=>by omega) (fun q h h0=>by omega);have SH:=fun(i:Nat) (hi:i≤L.length) Q' h1=>D9 (H:=H) (nm:=nm) (N:=N) hn hnm (P++L.take i) Q x Q' (L.length-i) (L.drop i) [] v (by rw [List.length_drop]) (by rw [List.length_append,List.length_take,List.length_drop];simp only [List.length_nil];omega) hv h1;have e1: ∀i,P++L.take i++L.drop i++x::([]++Q)=P++L++x::Q:=fun i=>(by rw [List.append_assoc P,List.take_append_drop];rfl);have e2: ∀i,(∀q (h:q<L.length),q<i→L[q].aQ≤x.aQ)→(∀q (h:q<L.length),i≤q→x.aQ<L[q].aQ)→P++L.take i++x::((L.drop i++[])++Q)=Y:=fun i h1 h2=>by
  have:=merge_right (x:=x) (L1:=L.take i) (L2:=L.drop i) (by rw [List.take_append_drop];exact hp) (zY (p:=fun r=>r.aQ≤x.aQ) h1) (xD (p:=fun r=>x.aQ<r.aQ) h2);rw [List.take_append_drop]at this;rw [←hY,this];simp
 rw [hY];simp only [e1]at SH;generalize hR:(P++L++x::Q).map ai.row=R at BS SH hH⊢;have w1:IntKind.i64.wrap ((P.length:Int)+L.length-P.length)=L.length:=(by rw [dM (by omega) (by omega)];omega);have w2:IntKind.i64.wrap ((P.length:Int)+L.length+1-((P.length:Int)+L.length))=1:=(by rw [dM (by omega) (by omega)];omega);have hL1: ¬(L.length:Int)=1:=(by omega);have hL2: ¬L.length=1:=(by omega);refine bJ KC au Try.func130 rfl rfl ug rfl rfl rfl (by simp) hH ?_;simp at BS;simp [w1,w2,hL1,hL2];refine BS _ fun i hi hlo hhi=> ?_;have S:=SH i hi;rw [e2 i hlo hhi,List.length_append,List.length_take,List.length_drop,Nat.min_eq_left hi,show P.length+i+(L.length-i)=P.length+L.length by omega]at S
 simp at S;simp;refine S _ fun v' hv'=> ?_;simp [ah,ae.length_set];exact⟨v',hv',rfl⟩
end
end Go.Gh
