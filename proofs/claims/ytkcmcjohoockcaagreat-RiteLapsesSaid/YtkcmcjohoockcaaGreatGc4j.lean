/- Texts joined: the evaluator over ghost values, its soundness, the walks. Spaces struck and names made short by a program, for the size. -/
import Derived.Test.YtkcmcjohoockcaaGreatGc4i
import Derived.Test.YtkcmcjohoockcaaGreatGc4f
namespace Go.Gh
open Go.Proofs
set_option linter.unusedVariables false
set_option linter.unusedSimpArgs false
set_option linter.unnecessarySimpa false
set_option maxRecDepth 100000
set_option maxHeartbeats 8000000
section
variable {c:Nat} {H:aj}
theorem IC {s:ay}{w:Nat}{a:ak}(hb:Ex s w a)(h:s.ae=[]):a.kind=1:=by
 have hk:=hb.kind;have e:s.ae.length=0:=(by rw [h];rfl);by_cases k1:a.kind=1
 ·exact k1
 ·by_cases k2:a.kind=2
  ·obtain⟨t,_,ht⟩:=hb.take k2;omega
  ·obtain⟨t,_,ht⟩:=hb.held (by omega);omega
theorem LQ {r:aH}{s:ay}{w:Nat}{a:ak}{n1 n2:Nm}{v1:Nat}(g1:H.get n1=some (.arr 1 (s.ah.map aG) v1 false))(e1:v1≤s.ah.length)(g2:n2.1<H.length)(hp:w<s.ah.length)(hwho:a.aO=w)(k:a.kind=1)(hH:0<H.length):
  aI KC (aC KC) 136 [Xl r n1 n2 s, .pure (.agg a.row)] c H=some (.pure (.tuple []),H.set n1 (.arr 1 ((gM s w a).ah.map aG) s.ah.length false)):=by
 have l1:=aj.bS g1;have d1: ¬n1.1=H.length:=(by omega);have d2: ¬n2.1=H.length:=(by omega);have hd:=lg (s:=s) (w:=w) k;refine aN (a8 KC au Tryz.func136 rfl rfl Ey rfl rfl rfl (by simp) hH ?_);rw [bz];unfold Xl;simp [d1,d2,g1,e1,hp,hwho,aG,aE,aa,hd]
def LR (L:Nat)(r:aH)(s:ay):dM:= .box [.pure (.int .i64 r.wide), .pure (.int .i64 r.deep), .pure (.slice (r.ah.map aQ.row)), .pure (.slice (r.ae.map aV.row)), .pure (.slice (r.seen.map aG)), .pure (.slice (r.aY.map aG)), .pure (.slice (r.ai.map ak.row)), .aW (L,mz) 1 s.ah.length 0 s.ah.length, .aW (L,nb) 2 s.ao.length 0 s.ao.length, .aS]
structure ME (L:Nat)(F:Fr)(r:aH)(s:ay)(tk:List (Int×Int))(nx:ay):Prop extends MF F r s tk where
 ia:F.ia
 g7:F.get 7=some (LR L r nx)
 h1: ∃v,v≤nx.ah.length∧F.get mz=some (.arr 1 (nx.ah.map aG) v false)
 h2:F.get nb=some (.arr 2 (nx.ao.map aF.row) 0 false)
theorem Gq {r:aH}{s:ay}(ht0:r.ae=[])(hS:jd r s)(hW:WB r)(ai:List ak)(hal:ai.length≤1000000)(hA: ∀a∈ai,AB r a.aO.toNat a)(Q:GX→bP→Prop):
  ∀(k i:Nat) (F:Fr) (tk:List (Int×Int)) (nx:ay),i+k=ai.length→ME H.length F r s tk nx→rV s (ai.take i) tk→pX r s (ai.take i)→nx=my s (ai.take i)→
  ((cC r s (ai.drop i) tk nx i).2.2=0→ ∀F',(∃tk',ME H.length F' r s tk' (cC r s (ai.drop i) tk nx i).1)→pX r s ai→(cC r s (ai.drop i) tk nx i).1=my s ai→Q (.exit 0) ⟨[(4, .aD (H.length,4) 0),(5,aP),(6,aP),(7, .aD (H.length,7) 0)],F'::H,65⟩)→
  ((cC r s (ai.drop i) tk nx i).2.2≠0→(cC r s (ai.drop i) tk nx i).1=s→ ∀F',F'.get 4=some (cf r s)→Q .ret ⟨[(4, .aD (H.length,4) 0),(5, .pure (.int .i64 (cC r s (ai.drop i) tk nx i).2.1)),(6, .pure (.int .i64 (cC r s (ai.drop i) tk nx i).2.2)),(7, .aD (H.length,7) 0)],F'::H,65⟩)→
  fL KC au 118 (lp Tryz.f118 0) [2,4,7,8,19,20,21] [4,5,6,7] Q
   [(2, .aD (H.length,2) 0),(4, .aD (H.length,4) 0),(7, .aD (H.length,7) 0),(8, .map (H.length,18)),(19, .pure (.slice (ai.map ak.row))),(20, .pure (.int .i64 ai.length)),(21, .pure (.int .i64 i))] (F::H) 65:=by
 intro k
 induction k with
 |zero=>
  intro i F tk nx hi hF hT hG hnx h1 h2;apply aw;conv=>arg 4;whnf
  have hnl: ¬i<ai.length:=(by omega);have e:ai.drop i=[]:=List.drop_of_length_le (by omega);have et:ai.take i=ai:=List.take_of_length_le (by omega);rw [e]at h1;simp [hnl];exact h1 rfl F ⟨tk,hF⟩ (et▸hG) (by show nx=_;rw [hnx,et])
 |succ k ih=>
  intro i F tk nx hi hF hT hG hnx h1 h2;have hia:i<ai.length:=(by omega);have hw:=cu (x:=(i:Int)+1) (by omega) (by omega);have ed:ai.drop i=ai[i]::ai.drop (i+1):=List.drop_eq_getElem_cons hia;have et:ai.take (i+1)=ai.take i++[ai[i]]:=List.take_succ_eq_append_getElem hia;have ne: ¬H.length=H.length+1:=(by omega);obtain⟨a,ha⟩: ∃a,ai[i]=a:=⟨_,rfl⟩;have hAa:AB r a.aO.toNat a:=hA a (ha▸List.getElem_mem hia);obtain⟨w,hwq⟩: ∃w,a.aO.toNat=w:=⟨_,rfl⟩;rw [ha]at ed et;rw [ed]at h1 h2;unfold cC at h1 h2;have g2:=hF.g2;have g4:=hF.g4;have g7:=hF.g7;have M:=fun c (H:aj) (hH:0<H.length)=>CU (c:=c) (H:=H) hS hW hAa hH;have T:=fun c (H:aj) (hH:0<H.length)=>tM (c:=c) (H:=H) hS hAa hH;have hAk:=hAa.kind;have kk:((a.kind.toNat:Nat):Int)=a.kind:=(by omega);have W:=fun c (H:aj) (hH:0<H.length)=>CQ (c:=c) (H:=H) (k:=a.kind.toNat) (by omega) hH;rw [kk]at W;apply aw;conv=>arg 4;whnf
  cases hp:dy r s a.aO.toNat a with
  |false=>
   rw [hp]at M;simp only [hp,if_true]at h2;have h2':=h2 (by decide) trivial (F.ins 4 (cf r s)) (Fr.bp ..);rw [bz]at M;simp only [cf]at g2 h2';simp only [oT]at g4;simp only [bA]at M;simp [hia,ha,bz,ne,g2,g4,M,aE];exact h2'
  |true=>
   rw [hp]at M;obtain⟨l,hl⟩: ∃l,eI s a.aO.toNat a=l:=⟨_,rfl⟩;have hll:l.length≤1000:=by
    rw [←hl];unfold eI
    repeat' split
    all_goals simp
   rw [hl]at T h1 h2;simp only [hp,Bool.true_eq_false,if_false]at h1 h2;have L1:=fun Q=>yt (H:=H) hF.toMF a ai ai.length i l hll Q l.length 0 (by omega);simp only [List.drop_zero,bR]at L1;have hF1s:(F.ins 18 (.map (kH (eZ tk l)))).ia:=Fr.cW hF.ia;rw [bz]at M T;simp only [cf]at g2;simp only [oT]at g4;simp only [bA]at M T;simp [hia,ha,bz,ne,g2,g4,M,T];refine L1 _ (fun hfr=> ?_) (fun hfr=> ?_)
   ·clear L1;rw [if_pos hfr]at h1 h2;have hGs:pX r s (ai.take (i+1)):=(by rw [et];exact hG.snoc hT hAa hp (by rw [hl];exact hfr));have hTs:rV s (ai.take (i+1)) (eZ tk l):=(by rw [et,←hl];exact hT.snoc);have aft:=(pX.after hS (et▸hGs):jd r (my s (ai.take i))∧_);rw [←hnx]at aft;have hD:=mc aft.1 hAa aft.2;have L2:=fun Q=>Bx (H:=H) (a:=a) ai ai.length i l hll Q l.length 0 F tk (by omega) hF.ia hF.gm;simp only [List.drop_zero,bR]at L2;simp [ne];refine L2 _ ?_;clear L2;have q12:mz≠nb:=(by decide);have q21:nb≠mz:=(by decide);have e1: ∀k,k≠18→(F.ins 18 (.map (kH (eZ tk l)))).get k=F.get k:=fun k hk=>Fr.ax _ hk _;obtain⟨u1,w1,hh1⟩:=hF.h1;have hh1':=(e1 mz (by decide)).trans hh1;have hh2':=(e1 nb (by decide)).trans hF.h2;have g71:=(e1 7 (by decide)).trans g7;have gm1:(F.ins 18 (.map (kH (eZ tk l)))).get 18=some (.map (kH (eZ tk l))):=Fr.bp ..;have g21:=(e1 2 (by decide)).trans hF.g2;have g41:=(e1 4 (by decide)).trans hF.g4;generalize F.ins 18 (.map (kH (eZ tk l)))=F1 at hF1s hh1' hh2' g71 gm1 g21 g41⊢;have hnt:nx.ae=[]:=List.eq_nil_of_length_eq_zero (by rw [aft.1.tl,ht0];rfl);have hk1:=IC hD hnt;have ed':=LQ (H:=[(10,bR a)]::F1::H) (c:=62) (r:=r) (s:=nx) (w:=a.aO.toNat) (a:=a) (n1:=(H.length,mz)) (n2:=(H.length,nb)) (v1:=u1) (by simp [ne,hh1']) w1 (by simp;omega) hD.hp hD.aO hk1 (by simp);have LD:=iR (s:=nx) (w:=a.aO.toNat) hAk;have LH:(gM nx a.aO.toNat a).ao=nx.ao:=(by rw [lg hk1]);obtain⟨F2,hF2⟩: ∃F2,F1.ins mz (.arr 1 ((gM nx a.aO.toNat a).ah.map aG) nx.ah.length false)=F2:=⟨_,rfl⟩;have hsc:aj.set ([(10,bR a)]::F1::H) (H.length,mz) (.arr 1 ((gM nx a.aO.toNat a).ah.map aG) nx.ah.length false)=[(10,bR a)]::F2::H:=by
     rw [←hF2];simp [ne]
    rw [hsc]at ed';have o2: ∀k,k≠mz→F2.get k=F1.get k:=fun k h1=>(by rw [←hF2,Fr.ax _ h1]);have enx:LR H.length r (gM nx a.aO.toNat a)=LR H.length r nx:=by simp only [LR,LD]
    have MX2:ME H.length F2 r s (eZ tk l) (gM nx a.aO.toNat a):={
     g2:=(o2 2 (by decide)).trans g21
     g4:=(o2 4 (by decide)).trans g41
     gm:=(o2 18 (by decide)).trans gm1
     ia:=by rw [←hF2];exact Fr.cW hF1s
     g7:=by rw [enx];exact(o2 7 (by decide)).trans g71
     h1:=⟨nx.ah.length,by omega,by rw [←hF2,Fr.bp]⟩
     h2:=by rw [LH];exact(o2 nb q21).trans hh2'}
    have ih':=ih (i+1) F2 (eZ tk l) (gM nx a.aO.toNat a) (by omega) MX2 hTs hGs (by rw [hnx,et,iY];rfl) h1 h2;rw [bz]at ed';simp only [LR]at g71;simp only [Xl,bR]at ed';rw [hk1]at ed';rw [hk1]at W;simp at W;simp [hk1,ne,g71,W,ed',hw];simpa using ih'
   ·clear L1;rw [if_neg hfr]at h2;have h2':=h2 (show (12:Int)≠0 by decide) rfl (F.ins 4 (cf r s)) (Fr.bp ..)
    simp only [cf]at h2'⊢;simp;exact h2'
theorem Dq {r:aH}{s:ay}(hS:jd r s)(hW:WB r)(hFu:Full s)(ht0:r.ae=[])(ai:List ak)(hal:ai.length≤1000000)(hA: ∀a∈ai,AB r a.aO.toNat a)(hH:0<H.length):
  aI KC (aC KC) 118 [.pure (.agg (bA r s)), .pure (.slice (ai.map ak.row))] c H=
   some (.pure (.tuple [.agg (bA r (cC r s ai [] s 0).1), .int .i64 (cC r s ai [] s 0).2.1, .int .i64 (cC r s ai [] s 0).2.2]),H):=by
 refine aN (bj KC au Tryz.func118 rfl rfl EJ rfl rfl rfl (by simp) hH ?_);have k1:aq 17 28679=mz:=(by decide);have k2:aq 17 28683=nb:=(by decide);have hst:s.ae=[]:=List.eq_nil_of_length_eq_zero (by rw [hS.tl,ht0];rfl);have C:=Dr (c:=17) (H:=[(2,cf r s),(4,oT)]::H) r hFu hst (by simp) (by simp [k1,mz]) (by simp [k2,nb]);simp only [List.length_cons,Nat.add_sub_cancel,k1,k2]at C;obtain⟨F0,hF0⟩: ∃F0:Fr,[(2,cf r s),(4,oT),(mz, .arr 1 (s.ah.map aG) 0 false),(nb, .arr 2 (s.ao.map aF.row) 0 false)]=F0:=⟨_,rfl⟩;have hC:aj.set (aj.set ([(2,cf r s),(4,oT)]::H) (H.length,mz) (.arr 1 (s.ah.map aG) 0 false)) (H.length,nb) (.arr 2 (s.ao.map aF.row) 0 false)=F0::H:=by
  rw [←hF0];simp [mz,nb]
 rw [hC]at C;obtain⟨F1,hF1⟩: ∃F1,(F0.ins 7 (LR H.length r s)).ins 18 (.map [])=F1:=⟨_,rfl⟩;have f07:F0.get 7=none:=(by rw [←hF0];simp [mz,nb]);have f018:F0.get 18=none:=(by rw [←hF0];simp [mz,nb]);have o1: ∀k,k≠7→k≠18→F1.get k=F0.get k:=fun k h1 h2=>by rw [←hF1,Fr.ax _ h2,Fr.ax _ h1]
 have MX1:ME H.length F1 r s [] s:={
  g2:=(o1 2 (by decide) (by decide)).trans (by rw [←hF0];simp)
  g4:=(o1 4 (by decide) (by decide)).trans (by rw [←hF0];simp)
  gm:=by rw [←hF1,Fr.bp];rfl
  ia:=by
   rw [←hF1];refine Fr.cW (Fr.cW ?_);rw [←hF0];simp [Fr.ia,mz,nb]
  g7:=by rw [←hF1,Fr.ax _ (by decide),Fr.bp]
  h1:=⟨0,Nat.zero_le _,(o1 _ (by decide) (by decide)).trans (by rw [←hF0];simp [mz,nb])⟩
  h2:=(o1 _ (by decide) (by decide)).trans (by rw [←hF0];simp [mz,nb])}
 have L1:=fun Q=>Gq (H:=H) ht0 hS hW ai hal hA Q ai.length 0 F1 [] s (by omega) MX1 (fun x=>by simp) ⟨fun a ha=>by simp at ha,by simp⟩ rfl;simp only [List.drop_zero]at L1;simp only [bA,Xl,cf,oT]at C;have f018':(F0.ins 7 (LR H.length r s)).get 18=none:=(Fr.ax _ (by decide) _).trans f018;simp only [LR]at hF1 f018';unfold bA;simp [C,f07,f018',Fr.bp,Fr.iB,hF1];refine L1 _ (fun he F' hF' hG hm=> ?_) (fun he hm F' h4=> ?_)
 ·obtain⟨tk',hF'⟩:=hF';have g7:=hF'.g7;have g4:=hF'.g4;have LL:=EK hS hG;rw [hm]at hF' g7;obtain⟨v1,a1,b1⟩:=hF'.h1;have b2:=hF'.h2;have hft:(my s ai).ae=[]:=List.eq_nil_of_length_eq_zero (by rw [LL.2.2,hst];rfl);have o4: ∀(x:dM) (k:Nat),k≠4→(F'.ins 4 x).get k=F'.get k:=fun x k hk=>Fr.ax _ hk _;have c1:=fun x=>(o4 x mz (by decide)).trans b1;have c2:=fun x=>(o4 x nb (by decide)).trans b2;have hat:=zM he;rw [hm];simp only [LR]at g7;simp only [oT]at g4;simp [g7,g4,aE,Fr.bp]
  have fin: ∀x,fX KC 118 c (.tuple [.agg [.pure (.int .i64 r.wide), .pure (.int .i64 r.deep), .pure (.slice (r.ah.map aQ.row)), .pure (.slice (r.ae.map aV.row)), .pure (.slice (r.seen.map aG)), .pure (.slice (r.aY.map aG)), .pure (.slice (r.ai.map ak.row)), .aW (H.length,mz) 1 (my s ai).ah.length 0 (my s ai).ah.length, .aW (H.length,nb) 2 (my s ai).ao.length 0 (my s ai).ao.length, .aS], .pure (.int .i64 0), .pure (.int .i64 0)]) (F'.ins 4 x::H)=
    some (.pure (.tuple [.agg (bA r (my s ai)), .int .i64 0, .int .i64 0]),H):=fun x=>by
   have d1:=c1 x;have d2:=c2 x;generalize F'.ins 4 x=F5 at d1 d2;have hnl: ¬H.length≤H.length-1:=(by omega);rw [aa (by simp)];simp [hnl,d1,d2,a1,bA,hft];exact⟨List.take_of_length_le (by simp),List.take_of_length_le (by simp)⟩
  rw [fin,gK,hat,he];simp only [bA]
 ·rw [hm];simp only [cf]at h4;simp [h4,aa]
theorem Gr {r:aH}{s:ay}(hS:jd r s)(hW:WB r)(hFu:Full s)(ai:List ak)(hal:ai.length≤1000000)(hA: ∀a∈ai,AB r a.aO.toNat a)(hH:0<H.length):
  aI KC (aC KC) 118 [.pure (.agg (bA r s)), .pure (.slice (ai.map ak.row))] c H=
   some (.pure (.tuple [.agg (bA r (cC r s ai [] s 0).1), .int .i64 (cC r s ai [] s 0).2.1, .int .i64 (cC r s ai [] s 0).2.2]),H):=by
 by_cases h:s.ae=[]
 ·exact Dq hS hW hFu (List.eq_nil_of_length_eq_zero (by rw [←hS.tl,h];rfl)) ai hal hA hH
 ·exact Ds hS hW hFu h ai hal hA hH
end
section
variable {c:Nat} {H:aj}
def bh (a:ak):ak→Bool:=fun b=>b.aR==a.aR
noncomputable def cj (r:aH):Nat→ay→List ak→Nat→List ay×ay×Int×Int
 |0,s,_,_=>([],s,-1,0)
 |_+1,s,[],_=>([],s,-1,0)
 |k+1,s,a::rest,i=>
  let g:=(a::rest).takeWhile (bh a)
  let m:=cC r s g [] s 0
  if m.2.2≠0 then ([],s,i+m.2.1,m.2.2)
  else let q:=cj r k m.1 ((a::rest).drop g.length) (i+g.length);(m.1::q.1,q.2)
def xF (r:aH)(s:ay):Fr:=[(3,cf r s),(6,oT)]
theorem LS {r:aH}{s:ay}(g:GV)(ai:List ak)(hal:ai.length≤1000000)(i:Nat)(hi:i<ai.length)(V:aj)(hcl: ∀f2,clean (f2::[]::xF r s::V) (V.length+1) g=g)(Q:GX→bP→Prop): ∀k j:Nat,j+k=ai.length→
  Q (.exit 2) ⟨[(1, .pure (.slice (ai.map ak.row))),(2,g),(3, .aD (V.length,3) 0),(6, .aD (V.length,6) 0),(9, .pure (.int .i64 i)),(10, .pure (.int .i64 ((j+((ai.drop j).takeWhile (bh ai[i])).length:Nat):Int)))],[]::xF r s::V,64⟩→
  fL KC au 93 (lp Tryz.f93 1) [1,2,3,6,9,10] [1,2,3,6,9,10] Q
   [(1, .pure (.slice (ai.map ak.row))),(2,g),(3, .aD (V.length,3) 0),(6, .aD (V.length,6) 0),(9, .pure (.int .i64 i)),(10, .pure (.int .i64 j))] ([]::xF r s::V) 64:=by
 intro k
 induction k with
 |zero=>
  intro j hj h1;have e:ai.drop j=[]:=List.drop_of_length_le (by omega);rw [e]at h1;have hnl: ¬j<ai.length:=(by omega);apply aw;conv=>arg 4;whnf
  simp [xF]at hcl;simp [hnl,xF,hcl];simpa [xF]using h1
 |succ k ih=>
  intro j hj h1;have hja:j<ai.length:=(by omega);have hw:=cu (x:=(j:Int)+1) (by omega) (by omega);have ed:ai.drop j=ai[j]::ai.drop (j+1):=List.drop_eq_getElem_cons hja;rw [ed,List.takeWhile_cons]at h1;simp [xF]at hcl;apply aw;conv=>arg 4;whnf
  cases he:(ai[j].aR==ai[i].aR)with
  |true=>
   rw [show bh ai[i] ai[j]=true from he]at h1
   simp only [if_true,List.length_cons]at h1;have ih':=ih (j+1) (by omega) (by rw [show j+1+((ai.drop (j+1)).takeWhile (bh ai[i])).length=j+(((ai.drop (j+1)).takeWhile (bh ai[i])).length+1)by omega];exact h1)
   simp [hja,hi,bz,he,hw,xF,hcl];simpa [xF]using ih'
  |false=>
   rw [show bh ai[i] ai[j]=false from he]at h1
   simp [hja,hi,bz,he,xF,hcl];simpa [xF]using h1
theorem pK {r:aH}{s:ay}: ∀{g p:List ak} {tk:List (Int×Int)} {nx:ay} {i:Nat},rV s p tk→pX r s p→nx=my s p→(∀a∈g,AB r a.aO.toNat a)→(cC r s g tk nx i).2.2=0→pX r s (p++g)∧(cC r s g tk nx i).1=my s (p++g)
 | [],p,tk,nx,i,_,hG,hn,_,_=>by rw [List.append_nil];exact⟨hG,hn⟩
 |a::g,p,tk,nx,i,hT,hG,hn,hA,h=>by
  unfold cC at h⊢;split at h
  ·simp at h
  ·rename_i h1;split at h
   ·rename_i h2;have h1':dy r s a.aO.toNat a=true:=(by simpa using h1);have:=pK (hT.snoc (a:=a)) (hG.snoc hT (hA a (List.mem_cons_self ..)) h1' h2) (by rw [hn,iY];rfl) (fun b hb=>hA b (List.mem_cons_of_mem _ hb)) h;rw [if_neg h1,if_pos h2]
    rwa [List.append_assoc,List.singleton_append]at this
   ·simp at h
theorem wu {r:aH}{s:ay}: ∀{g:List ak} {tk:List (Int×Int)} {nx:ay} {i:Nat},(cC r s g tk nx i).2.2≠0→(cC r s g tk nx i).1=s
 | [],_,_,_,h=>absurd rfl h
 |a::g,tk,nx,i,h=>by
  unfold cC at h⊢;split
  ·rfl
  ·rename_i h1;rw [if_neg h1]at h;split
   ·rename_i h2;rw [if_pos h2]at h;exact wu h
   ·rfl
theorem Bz {r:aH}{s:ay}: ∀{g:List ak} {tk:List (Int×Int)} {nx:ay} {i:Nat},0≤(cC r s g tk nx i).2.1∧(cC r s g tk nx i).2.1≤i+g.length
 | [],_,_,i=>by simp [cC]
 |a::g,tk,nx,i=>by
  unfold cC;split
  ·simp only [List.length_cons];omega
  ·split
   ·have:=Bz (r:=r) (s:=s) (g:=g) (tk:=eZ tk (eI s a.aO.toNat a)) (nx:=gM nx a.aO.toNat a) (i:=i+1);simp only [List.length_cons];omega
   ·simp only [List.length_cons];omega
theorem zN {r:aH}{s s':ay}(h:jd r s)(h':jd r s')(hF:Full s):Full s':=by
 have e1:=h'.pl.trans h.pl.symm;have e2:=h'.hl.trans h.hl.symm;have e3:=h'.tl.trans h.tl.symm;have a1:=List.length_pos_iff.2 hF.p0;have a2:=List.length_pos_iff.2 hF.h0;have:=hF.pl;have:=hF.hl;have:=hF.tl;exact⟨List.length_pos_iff.1 (by omega),List.length_pos_iff.1 (by omega),by omega,by omega,by omega⟩
theorem ID {r:aH} (hW:WB r) (g:GV) (ai:List ak) (hal:ai.length≤1000000) (hA: ∀a∈ai,AB r a.aO.toNat a) (V:List ay→aj) (LV:Nat) (hV: ∀l,(V l).length=LV) (hV0:0<LV)
  (hcl0: ∀f1 f0 l,clean (f1::f0::V l) LV g=g) (hcl1: ∀f2 f1 f0 l,clean (f2::f1::f0::V l) (LV+1) g=g)
  (hsee: ∀l s' c f1 f0,l.length≤1000001→jd r s'→Full s'→ff KC (aC KC) g [.pure (.agg (bA r s'))] c (f1::f0::V l)=some (.pure (.tuple []),f1::f0::V (l++[s'])))
  (Q:GX→bP→Prop): ∀(k i:Nat) (s:ay) (l:List ay),ai.length-i≤k→i≤ai.length→l.length≤i+1→jd r s→Full s→
  ((cj r k s (ai.drop i) i).2.2.2=0→Q (.exit 0) ⟨[(3, .aD (LV,3) 0),(6, .aD (LV,6) 0),(7,aP),(8,aP)],xF r (cj r k s (ai.drop i) i).2.1::V (l++(cj r k s (ai.drop i) i).1),64⟩)→
  ((cj r k s (ai.drop i) i).2.2.2≠0→ ∀s',Q .ret ⟨[(3, .aD (LV,3) 0),(6, .aD (LV,6) 0),(7, .pure (.int .i64 (cj r k s (ai.drop i) i).2.2.1)),(8, .pure (.int .i64 (cj r k s (ai.drop i) i).2.2.2))],[(3,cf r s'),(6,cf r (cj r k s (ai.drop i) i).2.1)]::V (l++(cj r k s (ai.drop i) i).1),64⟩)→
  fL KC au 93 (lp Tryz.f93 0) [1,2,3,6,9] [3,6,7,8] Q
   [(1, .pure (.slice (ai.map ak.row))),(2,g),(3, .aD (LV,3) 0),(6, .aD (LV,6) 0),(9, .pure (.int .i64 i))] (xF r s::V l) 64:=by
 intro k
 induction k with
 |zero=>
  intro i s l hk hi hll hS hF h1 h2;have hnl: ¬i<ai.length:=(by omega);have e:i=ai.length:=(by omega);apply aw;conv=>arg 4;whnf
  simp [cj]at h1;simp [hnl,hV,xF];simpa [xF]using h1
 |succ k ih=>
  intro i s l hk hi hll hS hF h1 h2;by_cases hia:i<ai.length
  ·have ed:ai.drop i=ai[i]::ai.drop (i+1):=List.drop_eq_getElem_cons hia;obtain⟨a,ha⟩: ∃a,ai[i]=a:=⟨_,rfl⟩;rw [ha]at ed;obtain⟨gr,hgr⟩: ∃gr,(a::ai.drop (i+1)).takeWhile (bh a)=gr:=⟨_,rfl⟩;have hg1:1≤gr.length:=by
    rw [←hgr,List.takeWhile_cons,show bh a a=true from by simp [bh]]
    simp
   have hgp:gr<+:ai.drop i:=(by rw [ed,←hgr];exact List.takeWhile_prefix _);have hgl:i+gr.length≤ai.length:=(by have:=hgp.length_le;simp at this;omega);have hgt:gr=(ai.drop i).take gr.length:=List.prefix_iff_eq_take.1 hgp;have hsl:List.drop i (List.take (i+gr.length) (ai.map ak.row))=gr.map ak.row:=by
    rw [←List.map_take,←List.map_drop];congr 1;rw [List.drop_take,Nat.add_sub_cancel_left];exact hgt.symm
   have hgA: ∀b∈gr,AB r b.aO.toNat b:=fun b hb=>hA b (List.mem_of_mem_drop (hgp.subset hb));have hgal:gr.length≤1000000:=(by omega);have M:=fun c (H:aj) (hH:0<H.length)=>Gr (c:=c) (H:=H) hS hW hF gr hgal hgA hH;obtain⟨m,hm⟩: ∃m,cC r s gr [] s 0=m:=⟨_,rfl⟩;have hbad:=wu (r:=r) (s:=s) (g:=gr) (tk:=[]) (nx:=s) (i:=0);have hgood:=pK (r:=r) (s:=s) (g:=gr) (p:=[]) (tk:=[]) (nx:=s) (i:=0) (fun x=>by simp) ⟨fun a ha=>by simp at ha,by simp⟩ rfl hgA;have hrng:=Bz (r:=r) (s:=s) (g:=gr) (tk:=[]) (nx:=s) (i:=0);rw [hm]at M hbad hgood hrng;rw [ed]at h1 h2;unfold cj at h1 h2;simp only [hgr,hm]at h1 h2;have L1:=fun Q=>LS (r:=r) (s:=s) g ai hal i hia (V l) (fun f2=>by rw [hV];exact hcl1 _ _ _ _) Q (ai.length-i) i (by omega);rw [ed,ha,hgr]at L1;simp only [hV,xF]at L1;have hc0:=hcl0;obtain⟨e,hee⟩: ∃e,i+gr.length=e:=⟨_,rfl⟩;rw [hee]at L1 hsl hgl;have hle: ¬(e:Int)<(i:Int):=(by omega);have hle2:i≤e:=(by omega);have hmin:min e ai.length=e:=(by omega);have hrl: ∀x:ak,x.row.length=9:=fun _=>rfl;obtain⟨x1,x2,x3⟩:=m;simp only at hbad hgood hrng h1 h2 M;have hw:=cu (x:=(i:Int)+x2) (by omega) (by omega);apply aw;conv=>arg 4;whnf
   simp [hia,hV,xF];refine L1 _ ?_;clear L1;simp only [cf,oT];simp only [bA]at M;by_cases he:x3=0
   ·subst he;obtain⟨hG,hx1⟩:=hgood rfl;have hS1:jd r x1:=(by rw [hx1];exact hG.snd hS);have hF1:=zN hS hS1 hF;simp only [ne_eq,not_true_eq_false,if_false]at h1 h2;have edr:(a::ai.drop (i+1)).drop gr.length=ai.drop (i+gr.length):=(by rw [←ed,List.drop_drop]);rw [edr,hee]at h1 h2;have ih':=ih e x1 (l++[x1]) (by omega) hgl (by simp;omega) hS1 hF1 (fun h=>by rw [List.append_assoc];exact h1 h) (fun h s'=>by rw [List.append_assoc];exact h2 h s');have SE:=fun c f1 f0=>hsee l x1 c f1 f0 (by omega) hS1 hF1;simp only [bA]at SE;simp only [xF,cf,oT]at ih';simp [hV,hle,hle2,hgl,hmin,hsl,hrl,M,SE,aE,hcl0];exact ih'
   ·have hx1:=hbad he;have he':(x3 !=0)=true:=(by simpa using he);simp only [ne_eq,he,not_false_eq_true,if_true]at h2;have h2':=h2 trivial s;simp only [cf,List.append_nil]at h2';simp only [hx1]at M;simp [hV,hle,hle2,hgl,hmin,hsl,hrl,M,he',aE,hw];exact h2'
  ·have e:ai.drop i=[]:=List.drop_of_length_le (by omega);rw [e]at h1;apply aw;conv=>arg 4;whnf
   simp [cj]at h1;simp [hia,hV,xF];simpa [xF]using h1
end
section
variable {c:Nat} {H:aj}
structure Xm (r:aH)(g:GV)(V:List ay→aj)(LV:Nat):Prop where
 len: ∀l,(V l).length=LV
 pos:0<LV
 can:canon g=g
 Gs: ∀H,dt H g=(g,H)
 cl: ∀(fs:List Fr) l n,LV-1≤n→clean (fs++V l) n g=g
 see: ∀(fs:List Fr) l s' c,fs≠[]→l.length≤1000001→jd r s'→Full s'→ff KC (aC KC) g [.pure (.agg (bA r s'))] c (fs++V l)=some (.pure (.tuple []),fs++V (l++[s']))
theorem EL {r:aH}(hW:WB r){g:GV}{V:List ay→aj}{LV:Nat}(hg:Xm r g V LV)(ai:List ak)(hal:ai.length≤1000000)(hA: ∀a∈ai,AB r a.aO.toNat a){s:ay}(hS:jd r s)(hF:Full s):
  bM KC (aC KC) 93 [.pure (.agg (bA r s)), .pure (.slice (ai.map ak.row)),g] c (V [])=
   some (.pure (.tuple [.agg (bA r (cj r ai.length s ai 0).2.1), .int .i64 (cj r ai.length s ai 0).2.2.1, .int .i64 (cj r ai.length s ai 0).2.2.2]),V (s::(cj r ai.length s ai 0).1)):=by
 have hV:=hg.len;refine aN (aJ KC au Tryz.func93 rfl rfl Tt (by simp) (by rw [hV];exact hg.pos) ?_);have hc:=hg.can;have S1:=fun(f0:Fr) c=>hg.see [f0] [] s c (by simp) (by simp) hS hF;simp only [List.cons_append,List.nil_append]at S1;have L1:=fun Q=>ID hW g ai hal hA V LV hV hg.pos (fun f1 f0 l=>hg.cl [f1,f0] l LV (by omega)) (fun f2 f1 f0 l=>hg.cl [f2,f1,f0] l (LV+1) (by omega)) (fun l s' c f1 f0 hl h1 h2=>hg.see [f1,f0] l s' c (by simp) hl h1 h2) Q ai.length 0 s [s] (by omega) (by omega) (by simp) hS hF;simp only [List.drop_zero]at L1;simp only [xF,cf,oT,bA]at L1 S1⊢;simp [hV,hc,S1];simp at L1;refine L1 _ (fun h=> ?_) (fun h s'=> ?_)
 ·have hat: ∀k i s ai,(cj r k s ai i).2.2.2=0→(cj r k s ai i).2.2.1= -1:=by
   intro k
   induction k with
   |zero=>intro i s ai h;rfl
   |succ k ih=>
    intro i s ai h
    cases ai with
    |nil=>rfl
    |cons a rest=>
     unfold cj at h⊢;simp only at h⊢;split at h
     ·rename_i h1;exact absurd h h1
     ·rename_i h1;rw [if_neg h1];exact ih _ _ _ h
  have e1:=hat _ _ _ _ h;simp [hV,aE];rw [aa (by simp)];simp [h,e1]
 ·simp [hV,aE];rw [aa (by simp)];simp
noncomputable def eE (r:aH):List ay×ay×Int×Int:=
 let q:=cj r r.ai.length (az r) r.ai 0
 (az r::q.1,q.2.1,if q.2.2.2=0∧mK r q.2.1=false then ((r.ai.length:Int),11)else q.2.2)
theorem oU {r:aH}: ∀(k:Nat) (s:ay) (ai:List ak) (i:Nat),jd r s→(∀a∈ai,AB r a.aO.toNat a)→jd r (cj r k s ai i).2.1∧ ∀s'∈(cj r k s ai i).1,jd r s'
 |0,s,_,_,hS,_=>⟨hS,fun _ h=>by simp [cj]at h⟩
 |_+1,s,[],_,hS,_=>⟨hS,fun _ h=>by simp [cj]at h⟩
 |k+1,s,a::rest,i,hS,hA=>by
  unfold cj;simp only;split
  ·exact⟨hS,fun _ h=>by simp at h⟩
  ·rename_i h;have h':(cC r s ((a::rest).takeWhile (bh a)) [] s 0).2.2=0:=(by simpa using h);have hgA: ∀b∈(a::rest).takeWhile (bh a),AB r b.aO.toNat b:=fun b hb=>hA b ((List.takeWhile_prefix _).subset hb);obtain⟨hG,e⟩:=pK (r:=r) (s:=s) (p:=[]) (tk:=[]) (nx:=s) (i:=0) (fun x=>by simp) ⟨fun a ha=>by simp at ha,by simp⟩ rfl hgA h';have hS1:jd r (cC r s ((a::rest).takeWhile (bh a)) [] s 0).1:=(by rw [e];exact hG.snd hS);have:=oU k _ ((a::rest).drop ((a::rest).takeWhile (bh a)).length) (i+((a::rest).takeWhile (bh a)).length) hS1 (fun b hb=>hA b (List.mem_of_mem_drop hb));refine⟨this.1,fun s' hs'=> ?_⟩;rcases List.mem_cons.1 hs' with rfl|hs'
   ·exact hS1
   ·exact this.2 s' hs'
theorem Xm.up {r:aH}{g:GV}{V:List ay→aj}{LV:Nat}(h:Xm r g V LV)(F:Fr):Xm r g (fun l=>F::V l) (LV+1) where
 len:=fun l=>by simp [h.len]
 pos:=by omega
 can:=h.can
 Gs:=h.Gs
 cl:=fun fs l n hn=>by
  have:=h.cl (fs++[F]) l n (by omega);simpa using this
 see:=fun fs l s' c hf hl h1 h2=>by
  have:=h.see (fs++[F]) l s' c (by simp) hl h1 h2;simpa using this
theorem gR {K:Ctx}{rec:Rec}{f:FuncId}{args:List GV}(h1:K.tG f=false)(h2:K.Aw f=false)(h3:K.Gs f=true):aI K rec f args c H=bM K rec f (bm H args).1 c (bm H args).2:=by
 unfold aI;simp [h1,h2,h3]
theorem mm {K:Ctx}{rec:Rec}{f:FuncId}{a b:List GV}(h:a.map canon=b.map canon):bM K rec f a c H=bM K rec f b c H:=by
 have hl:a.length=b.length:=(by have:=congrArg List.length h;simpa using this);unfold bM;rw [h,hl]
theorem zO {r:aH}(hW:WB r)(hS:jd r (az r))(hp0:r.ah≠[])(hal:r.ai.length≤1000000)(hA: ∀a∈r.ai,AB r a.aO.toNat a){g:GV}{V:List ay→aj}{LV:Nat}(hg:Xm r g V LV):
  bM KC (aC KC) 58 [.pure (.agg r.row),g] c (V [])=
   some (.pure (.tuple [.agg (bA r (eE r).2.1), .int .i64 (eE r).2.2.1, .int .i64 (eE r).2.2.2]),V (eE r).1):=by
 have hV:=hg.len;have hF:Full (az r):=⟨by simpa [az]using hp0,by simpa [az]using hp0,by simp [az];exact hW.pl,by simp [az];exact hW.pl,by simp [az];exact hW.tl⟩;refine aN (aJ KC au Tryz.func58 rfl rfl Tu (by simp) (by rw [hV];exact hg.pos) ?_);have C:=fun F=>yu (c:=12) (H:=F::V []) r hW.pl hW.tl (by simp);have fz: ∀H,bm H [.pure (.agg (bA r (az r))), .pure (.slice (r.ai.map ak.row)),g]=([.pure (.agg (bA r (az r))), .pure (.slice (r.ai.map ak.row)),g],H):=fun H=>by simp [bm,hg.Gs]
 have R2: ∀F:Fr,aI KC (aC KC) 93 [.pure (.agg (bA r (az r))), .pure (.slice (r.ai.map ak.row)),g] 16 (F::V [])=
   some (.pure (.tuple [.agg (bA r (cj r r.ai.length (az r) r.ai 0).2.1), .int .i64 (cj r r.ai.length (az r) r.ai 0).2.2.1, .int .i64 (cj r r.ai.length (az r) r.ai 0).2.2.2]),F::V (az r::(cj r r.ai.length (az r) r.ai 0).1)):=fun F=>by
  rw [gR rfl rfl rfl,fz];exact EL (c:=16) hW (hg.up F) r.ai hal hA hS hF
 have hc:=hg.can;obtain⟨q,hq⟩: ∃q,cj r r.ai.length (az r) r.ai 0=q:=⟨_,rfl⟩;have ha:eE r=(az r::q.1,q.2.1,if q.2.2.2=0∧mK r q.2.1=false then ((r.ai.length:Int),11)else q.2.2):=(by unfold eE;simp only [hq]);rw [hq]at R2;rw [ha];have hSq:=oU r.ai.length (az r) r.ai 0 hS hA;rw [hq]at hSq;obtain⟨l,s,aR,e⟩:=q;simp only at hSq R2⊢;have OR:=fun c (H:aj) (hH:0<H.length)=>Dt (c:=c) (H:=H) r s hW.tl (by rw [hSq.1.hl];exact hW.pl) hSq.1.tl hH;rw [cQ]at C⊢;simp only [bA]at C R2 OR⊢;by_cases he:e=0
 ·subst he
  cases ho:mK r s with
  |true=>
   rw [ho]at OR;simp [C,R2,OR,hV,hc,aE];rw [aa (by simp)];simp
  |false=>
   rw [ho]at OR;simp [C,R2,OR,hV,hc,aE];rw [aa (by simp)];simp
 ·have he':(e==0)=false:=(by simpa using he);simp [C,R2,hV,hc,he,he',aE];rw [aa (by simp)];simp
end
def fO (l:List ak)(x:ak):List ak:=(l.reverse.dropWhile fun y=>decide (x.aR<y.aR)).reverse++x::(l.reverse.takeWhile fun y=>decide (x.aR<y.aR)).reverse
def a7 (l:List ak):List ak:=l.foldl fO []
theorem fP {A B:List ak}{x:ak}(hB: ∀b∈B,x.aR<b.aR)(hA: ∀a,A.getLast? =some a→ ¬x.aR<a.aR):fO (A++B) x=A++x::B:=by
 unfold fO;rw [List.reverse_append];have hB': ∀b∈B.reverse,(fun y:ak=>decide (x.aR<y.aR)) b=true:=fun b hb=>(by simpa using hB b (List.mem_reverse.1 hb));rw [List.dropWhile_append_of_pos hB',List.takeWhile_append_of_pos hB'];have hd:A.reverse.dropWhile (fun y=>decide (x.aR<y.aR))=A.reverse∧A.reverse.takeWhile (fun y=>decide (x.aR<y.aR))=[]:=by
  cases h:A.reverse with
  |nil=>exact⟨rfl,rfl⟩
  |cons a r=>
   have:A.getLast? =some a:=(by rw [←List.head?_reverse,h];rfl);have:=hA a this;simp [List.dropWhile_cons,List.takeWhile_cons,this]
 rw [hd.1,hd.2];simp
theorem jP (l:List ak)(x:ak): ∃A B,l=A++B∧fO l x=A++x::B∧(∀b∈B,x.aR<b.aR)∧(∀a,A.getLast? =some a→ ¬x.aR<a.aR):=by
 refine⟨(l.reverse.dropWhile fun y=>decide (x.aR<y.aR)).reverse,(l.reverse.takeWhile fun y=>decide (x.aR<y.aR)).reverse, ?_,rfl,fun b hb=> ?_,fun a ha=> ?_⟩
 ·rw [←List.reverse_append,List.takeWhile_append_dropWhile,List.reverse_reverse]
 ·have h: ∀(l:List ak) (b:ak),b∈l.takeWhile (fun y=>decide (x.aR<y.aR))→x.aR<b.aR:=fun l b=>by
   induction l with
   |nil=>intro h;simp at h
   |cons y l ih=>
    intro h;rw [List.takeWhile_cons]at h;split at h
    ·rename_i hy;rcases List.mem_cons.1 h with rfl|h
     ·simpa using hy
     ·exact ih h
    ·cases h
  exact h _ _ (List.mem_reverse.1 hb)
 ·rw [List.getLast?_reverse]at ha;have:=List.head?_dropWhile_not (fun y:ak=>decide (x.aR<y.aR)) l.reverse;rw [ha]at this;simpa using this
theorem Gt (l:List ak)(x:ak):List.Perm (fO l x) (x::l):=by
 obtain⟨A,B,e1,e2,_,_⟩:=jP l x;rw [e2,e1];exact List.perm_middle
theorem wv: ∀(l a:List ak),List.Perm (l.foldl fO a) (a++l)
 | [],a=>by simp
 |x::l,a=>by
  rw [List.foldl_cons];exact(wv l (fO a x)).trans (((Gt a x).append_right l).trans (by simpa using(List.perm_middle (l₁:=a) (l₂:=l) (a:=x)).symm))
theorem qR (l:List ak):List.Perm (a7 l) l:=by unfold a7;simpa using wv l []
theorem bF (l:List ak):(a7 l).length=l.length:=(qR l).length_eq
theorem IE {l:List ak}{x:ak}(h: ∀a∈l,a.aR≤x.aR):fO l x=l++[x]:=by
 have:=fP (A:=l) (B:=[]) (x:=x) (by simp) (fun a ha=>by have:=h a (List.mem_of_getLast? ha);omega);simpa using this
theorem LU {l:List ak}{x:ak}(h:l.Pairwise fun a b=>a.aR≤b.aR):(fO l x).Pairwise fun a b=>a.aR≤b.aR:=by
 obtain⟨A,B,e1,e2,hB,hA⟩:=jP l x;rw [e2];rw [e1,List.pairwise_append]at h;obtain⟨h1,h2,h3⟩:=h;rw [List.pairwise_append];have hx: ∀a∈A,a.aR≤x.aR:=fun a ha=>by
  cases hl:A.getLast? with
  |none=>rw [List.getLast?_eq_none_iff]at hl;subst hl;cases ha
  |some z=>
   have hz:=hA z hl;obtain⟨A',rfl⟩:=List.getLast?_eq_some_iff.1 hl;rw [List.mem_append,List.mem_singleton]at ha;rcases ha with ha|rfl
   ·have:=(List.pairwise_append.1 h1).2.2 a ha z (by simp);omega
   ·omega
 refine⟨h1,List.pairwise_cons.2 ⟨fun b hb=>by have:=hB b hb;omega,h2⟩,fun a ha b hb=> ?_⟩;rcases List.mem_cons.1 hb with rfl|hb
 ·exact hx a ha
 ·exact h3 a ha b hb
theorem BA: ∀(l a:List ak),(a.Pairwise fun a b=>a.aR≤b.aR)→((l.foldl fO a).Pairwise fun a b=>a.aR≤b.aR)
 | [],a,h=>h
 |x::l,a,h=>by rw [List.foldl_cons];exact BA l _ (LU h)
theorem oV (l:List ak):(a7 l).Pairwise fun a b=>a.aR≤b.aR:=BA l [] List.Pairwise.nil
theorem rY: ∀(l a:List ak),((a++l).Pairwise fun a b=>a.aR≤b.aR)→l.foldl fO a=a++l
 | [],a,h=>by simp
 |x::l,a,h=>by
  rw [List.foldl_cons,IE (fun y hy=>(List.pairwise_append.1 h).2.2 y hy x (by simp)),rY l (a++[x]) (by simpa using h)];simp
theorem dD {l:List ak}(h:l.Pairwise fun a b=>a.aR≤b.aR):a7 l=l:=by unfold a7;simpa using rY l [] (by simpa using h)
theorem zP {a:ak}{ai:List ak}:(a::ai).takeWhile (bh a)=a::ai.takeWhile (bh a):=by
 rw [List.takeWhile_cons];simp [bh]
theorem kT {r:aH}{k:Nat}{s:ay}{a:ak}{rest:List ak}{i:Nat}:cj r (k+1) s (a::rest) i=
  (if (cC r s ((a::rest).takeWhile (bh a)) [] s 0).2.2≠0 then ([],s,(i:Int)+(cC r s ((a::rest).takeWhile (bh a)) [] s 0).2.1,(cC r s ((a::rest).takeWhile (bh a)) [] s 0).2.2)
  else ((cC r s ((a::rest).takeWhile (bh a)) [] s 0).1::(cj r k (cC r s ((a::rest).takeWhile (bh a)) [] s 0).1 ((a::rest).drop ((a::rest).takeWhile (bh a)).length) (i+((a::rest).takeWhile (bh a)).length)).1,
   (cj r k (cC r s ((a::rest).takeWhile (bh a)) [] s 0).1 ((a::rest).drop ((a::rest).takeWhile (bh a)).length) (i+((a::rest).takeWhile (bh a)).length)).2)):=by
 rw [cj]
theorem oW {r:aH}{k:Nat}{s:ay}{i:Nat}:cj r k s [] i=([],s,-1,0):=by
 cases k<;>rfl
theorem rZ {a:ak}{rest:List ak}{k:Nat}(h:(a::rest).length≤k+1):((a::rest).drop ((a::rest).takeWhile (bh a)).length).length≤k:=by
 rw [zP,List.length_drop];simp only [List.length_cons]at h⊢;omega
theorem sX {r:aH}: ∀(k1 k2:Nat) (s:ay) (ai:List ak) (i:Nat),ai.length≤k1→ai.length≤k2→cj r k1 s ai i=cj r k2 s ai i
 |k1,k2,s,[],i,_,_=>by rw [oW,oW]
 |0,_,s,a::rest,i,h,_=>by simp at h
 |_+1,0,s,a::rest,i,_,h=>by simp at h
 |k1+1,k2+1,s,a::rest,i,h1,h2=>by
  rw [kT,kT,sX k1 k2 _ _ _ (rZ h1) (rZ h2)]
theorem qc {f:ak→Bool}{q:List ak}(hq: ∀b∈q,f b=false): ∀p:List ak,(p++q).takeWhile f=p.takeWhile f
 | []=>by
  cases q with
  |nil=>rfl
  |cons b q=>simp [List.takeWhile_cons,hq b (by simp)]
 |a::p=>by
  rw [List.cons_append,List.takeWhile_cons,List.takeWhile_cons,qc hq p]
theorem ue {r:aH}: ∀(k1 k k2:Nat) (s:ay) (p q:List ak) (i:Nat),p.length≤k1→(p++q).length≤k→q.length≤k2→(∀a∈p,∀b∈q,a.aR≠b.aR)→
  cj r k s (p++q) i=if (cj r k1 s p i).2.2.2≠0 then cj r k1 s p i else ((cj r k1 s p i).1++(cj r k2 (cj r k1 s p i).2.1 q (i+p.length)).1,(cj r k2 (cj r k1 s p i).2.1 q (i+p.length)).2)
 |k1,k,k2,s,[],q,i,_,h2,h3,_=>by
  rw [oW];simp only [ne_eq,not_true_eq_false,if_false,List.nil_append,List.length_nil,Nat.add_zero]at h2⊢;rw [sX k k2 s q i (by simpa using h2) h3]
 |0,k,k2,s,a::p,q,i,h1,_,_,_=>by simp at h1
 |k1+1,0,k2,s,a::p,q,i,_,h2,_,_=>by simp at h2
 |k1+1,k+1,k2,s,a::p,q,i,h1,h2,h3,hne=>by
  have hq: ∀b∈q,bh a b=false:=fun b hb=>by
   have:=hne a (by simp) b hb;simpa [bh]using fun e=>this e.symm
  have et:(a::(p++q)).takeWhile (bh a)=(a::p).takeWhile (bh a):=qc hq (a::p);have hle:((a::p).takeWhile (bh a)).length≤(a::p).length:=(List.takeWhile_sublist _).length_le;have ed:(a::(p++q)).drop ((a::p).takeWhile (bh a)).length=(a::p).drop ((a::p).takeWhile (bh a)).length++q:=by
   rw [←List.cons_append,List.drop_append_of_le_length hle]
  rw [List.cons_append,kT,et,ed,kT];generalize hm:cC r s ((a::p).takeWhile (bh a)) [] s 0=m;by_cases he:m.2.2≠0
  ·simp only [if_pos he]
  ·rw [if_neg he,if_neg he];have hl:((a::p).drop ((a::p).takeWhile (bh a)).length++q).length≤k:=by
    rw [←ed,←et];exact rZ (by simpa using h2)
   rw [ue k1 k k2 m.1 _ q (i+((a::p).takeWhile (bh a)).length) (rZ h1) hl h3 (fun x hx=>hne x (List.mem_of_mem_drop hx))];have ei:i+((a::p).takeWhile (bh a)).length+((a::p).drop ((a::p).takeWhile (bh a)).length).length=i+(a::p).length:=by
    rw [List.length_drop];omega
   rw [ei];generalize cj r k1 m.1 ((a::p).drop ((a::p).takeWhile (bh a)).length) (i+((a::p).takeWhile (bh a)).length)=x;by_cases hx:x.2.2.2≠0
   ·simp only [if_pos hx]
   ·simp only [if_neg hx,List.cons_append]
def kb (l:List ak)(a:ak):List ak:=l.takeWhile fun b=>decide (b.aR<a.aR)
def jw (l:List ak):Nat→Nat
 |0=>0
 |n+1=>jw l n+if (l.getD (n+1) cn).aR≠(l.getD n cn).aR then 1 else 0
theorem sY {l:List ak}{x:Int}: ∀(n:Nat),(∀j,j≤n→(l.getD j cn).aR=x)→jw l n=0
 |0,_=>rfl
 |n+1,h=>by
  unfold jw;rw [sY n (fun j hj=>h j (by omega)),h (n+1) (Nat.le_refl _),h n (by omega)];simp
theorem yv {g l:List ak}(hg:g≠[])(hl:l≠[])(hs: ∀j,j<g.length→(g.getD j cn).aR=(g.getD 0 cn).aR)(hd:(l.getD 0 cn).aR≠(g.getD 0 cn).aR): ∀n,jw (g++l) (g.length+n)=1+jw l n
 |0=>by
  obtain⟨m,hm⟩: ∃m,g.length=m+1:=⟨g.length-1,by have:=List.length_pos_iff.2 hg;omega⟩;have e1: ∀j,j<g.length→(g++l).getD j cn=g.getD j cn:=fun j hj=>by
   simp [List.getD_eq_getElem?_getD,List.getElem?_append_left hj]
  have e2:(g++l).getD (m+1) cn=l.getD 0 cn:=by
   simp [List.getD_eq_getElem?_getD,List.getElem?_append_right (show g.length≤m+1 by omega),hm]
  rw [Nat.add_zero,hm];unfold jw;rw [sY m (x:=(g.getD 0 cn).aR) (fun j hj=>by rw [e1 j (by omega)];exact hs j (by omega)),e2,e1 m (by omega),hs m (by omega),if_pos hd]
 |n+1=>by
  have e1: ∀j,(g++l).getD (g.length+j) cn=l.getD j cn:=fun j=>by
   simp [List.getD_eq_getElem?_getD,List.getElem?_append_right (show g.length≤g.length+j by omega)]
  rw [←Nat.add_assoc];unfold jw;rw [yv hg hl hs hd n,Nat.add_assoc g.length n 1,e1,e1];omega
theorem Du {r:aH}{k:Nat}{s:ay}{a:ak}{p:List ak}{i:Nat}(hs: ∀b∈p,b.aR=a.aR)(hk:(a::p).length≤k)(he:(cC r s (a::p) [] s 0).2.2=0):cj r k s (a::p) i=([(cC r s (a::p) [] s 0).1],(cC r s (a::p) [] s 0).1,-1,0):=by
 obtain⟨m,rfl⟩: ∃m,k=m+1:=⟨k-1,by simp at hk;omega⟩;have et:(a::p).takeWhile (bh a)=a::p:=by
  rw [zP];congr 1;have: ∀b∈p,bh a b=true:=fun b hb=>(by simp [bh,hs b hb]);simpa using List.takeWhile_append_of_pos (l₂:=[]) this
 rw [kT,et,if_neg (by simpa using he)];simp only [List.drop_length,oW]
theorem EM {r:aH}: ∀(k:Nat) (s:ay) (ai:List ak) (i act:Nat) (h:act<ai.length),ai.length≤k→(ai.Pairwise fun a b=>a.aR≤b.aR)→(cj r k s ai i).2.2.2=0→
  (s::(cj r k s ai i).1)[jw ai act]? =some (cj r k s (kb ai ai[act]) i).2.1∧(cj r k s (kb ai ai[act]) i).2.2.2=0
 |0,s,ai,i,act,h,hk,_,_=>by omega
 |k+1,s,[],i,act,h,_,_,_=>by simp at h
 |k+1,s,a::rest,i,act,h,hk,hp,he=>by
  obtain⟨g,hg⟩: ∃g,(a::rest).takeWhile (bh a)=g:=⟨_,rfl⟩;obtain⟨g',hg'⟩: ∃g',rest.takeWhile (bh a)=g':=⟨_,rfl⟩;have hgc:g=a::g':=(by rw [←hg,zP,hg']);have hsm: ∀b∈g',b.aR=a.aR:=fun b hb=>by
   rw [←hg']at hb;have h1: ∀(l:List ak) (b:ak),b∈l.takeWhile (bh a)→b.aR=a.aR:=fun l b=>by
    induction l with
    |nil=>intro h;simp at h
    |cons y l ih=>
     intro h;rw [List.takeWhile_cons]at h;split at h
     ·rename_i hy;rcases List.mem_cons.1 h with rfl|h
      ·simpa [bh]using hy
      ·exact ih h
     ·cases h
   exact h1 _ _ hb
  have hsg: ∀b∈g,b.aR=a.aR:=fun b hb=>by
   rw [hgc]at hb;rcases List.mem_cons.1 hb with rfl|hb
   ·rfl
   ·exact hsm b hb
  obtain⟨l,hl⟩: ∃l,(a::rest).drop g.length=l:=⟨_,rfl⟩;have hsplit:a::rest=g++l:=by
   rw [←hl,←hg];have:=List.takeWhile_append_dropWhile (p:=bh a) (l:=a::rest);conv=>lhs;rw [←this]
   congr 1;conv=>rhs;arg 2;rw [←this]
   rw [List.drop_left]
  have hgp:g≠[]:=(by rw [hgc];simp);rw [kT,hg,hl]at he⊢;obtain⟨m,hm⟩: ∃m,cC r s g [] s 0=m:=⟨_,rfl⟩;rw [hm]at he⊢;by_cases hme:m.2.2≠0
  ·rw [if_pos hme]at he;exact absurd he hme
  ·rw [if_neg hme]at he⊢;have hme':m.2.2=0:=(by simpa using hme);by_cases ha:act<g.length
   ·have e1:(a::rest)[act].aR=a.aR:=by
     have:(a::rest)[act]=g[act]:=(by simp only [hsplit];exact List.getElem_append_left ha);rw [this];exact hsg _ (List.getElem_mem ha)
    have e2:kb (a::rest) (a::rest)[act]=[]:=by
     unfold kb;rw [List.takeWhile_cons,e1];simp
    have e3:jw (a::rest) act=0:=sY act (x:=a.aR) (fun j hj=>by
     have:(a::rest).getD j cn=g[j]'(by omega):=by
      rw [hsplit,List.getD_eq_getElem?_getD,List.getElem?_append_left (by omega),List.getElem?_eq_getElem (by omega)];rfl
     rw [this];exact hsg _ (List.getElem_mem _))
    rw [e2,e3,oW];exact⟨rfl,rfl⟩
   ·obtain⟨n,rfl⟩: ∃n,act=g.length+n:=⟨act-g.length,by omega⟩;have hll:n<l.length:=by
     have:=congrArg List.length hsplit;rw [List.length_append]at this;omega
    have hln:l≠[]:=fun e=>(by rw [e]at hll;simp at hll);have eg:(a::rest)[g.length+n]=l[n]:=(by simp only [hsplit];rw [List.getElem_append_right (by omega)];congr 1;omega);have hpl:l.Pairwise fun a b=>a.aR≤b.aR:=(by rw [hsplit,List.pairwise_append]at hp;exact hp.2.1);have hlk:l.length≤k:=(by rw [←hl,←hg];exact rZ hk);have hd: ∀b∈l,a.aR<b.aR:=by
     cases hlc:l with
     |nil=>exact absurd hlc hln
     |cons b l'=>
      have hb:bh a b=false:=by
       have h1:(a::rest).dropWhile (bh a)=l:=by
        have:=List.takeWhile_append_dropWhile (p:=bh a) (l:=a::rest);rw [hg]at this;conv at this=>rhs;rw [hsplit]
        exact List.append_cancel_left this
       have:=List.head?_dropWhile_not (bh a) (a::rest);rw [h1,hlc]at this;simpa using this
      have hne:b.aR≠a.aR:=(by simpa [bh]using hb);have hle:a.aR≤b.aR:=by
       rw [hsplit,List.pairwise_append]at hp;exact hp.2.2 a (by rw [hgc];simp) b (by rw [hlc];simp)
      intro x hx;rcases List.mem_cons.1 hx with rfl|hx
      ·omega
      ·rw [hlc]at hpl;have:=(List.pairwise_cons.1 hpl).1 x hx;omega
    have eb:kb (a::rest) (a::rest)[g.length+n]=g++kb l l[n]:=by
     rw [eg];unfold kb;rw [hsplit];have: ∀b∈g,(fun b:ak=>decide (b.aR<l[n].aR)) b=true:=fun b hb=>by
      have h1:=hsg b hb;have h2:=hd l[n] (List.getElem_mem hll);simp only [decide_eq_true_eq];omega
     exact List.takeWhile_append_of_pos this
    have ec:jw (a::rest) (g.length+n)=1+jw l n:=by
     rw [hsplit];refine yv hgp hln (fun j hj=> ?_) ?_ n
     ·have e0:(g.getD 0 cn).aR=a.aR:=(by rw [hgc];rfl);rw [List.getD_eq_getElem?_getD,List.getElem?_eq_getElem hj,e0];exact hsg (g[j]) (List.getElem_mem hj)
     ·rw [hgc];simp only [List.getD_cons_zero]
      have:=hd (l.getD 0 cn) (by
       cases l with
       |nil=>exact absurd rfl hln
       |cons b l'=>simp)
      omega
    obtain⟨i1,i2⟩:=EM k m.1 l (i+g.length) n hll hlk hpl he;have hgr: ∀kk,g.length≤kk→cj r kk s g i=([m.1],m.1,-1,0):=fun kk hkk=>by
     rw [hgc]at hkk hm⊢;have:=Du (r:=r) (k:=kk) (s:=s) (i:=i) hsm hkk (by rw [hm];exact hme');rw [this,hm]
    have hbl:(kb l l[n]).length≤l.length:=(List.takeWhile_sublist _).length_le;have hgl:g.length≤k+1:=by
     have:=congrArg List.length hsplit;rw [List.length_append]at this;omega
    have ea:=ue (r:=r) (k+1) (k+1) k s g (kb l l[n]) i hgl (by
     rw [List.length_append];have:=congrArg List.length hsplit;rw [List.length_append]at this;omega) (by omega) (fun x hx y hy=>by
      have h1:=hsg x hx;have h2:=hd y ((List.takeWhile_sublist _).subset hy);omega)
    rw [hgr (k+1) hgl]at ea;simp only [ne_eq,not_true_eq_false,if_false]at ea;rw [eb,ec,ea];refine⟨?_,i2⟩;rw [Nat.add_comm 1,List.getElem?_cons_succ];exact i1
theorem wx (f:ak→Bool): ∀l:List ak,l.takeWhile f=l.take (l.takeWhile f).length
 | []=>rfl
 |a::l=>by
  rw [List.takeWhile_cons];split
  ·rw [List.length_cons,List.take_succ_cons,←wx f l]
  ·rfl
theorem r5 (f:ak→Bool): ∀(l:List ak) (j:Nat) (hj:j<l.length),j<(l.takeWhile f).length→f l[j]=true
 | [],j,hj,_=>by simp at hj
 |a::l,j,hj,h=>by
  rw [List.takeWhile_cons]at h;split at h
  ·rename_i ha
   cases j with
   |zero=>exact ha
   |succ j=>exact r5 f l j (by simpa using hj) (by simpa using h)
  ·simp at h
theorem pL (f:ak→Bool): ∀(l:List ak) (hj:(l.takeWhile f).length<l.length),f (l[(l.takeWhile f).length]'hj)=false
 | [],hj=>by simp at hj
 |a::l,hj=>by
  by_cases ha:f a=true
  ·have e:((a::l).takeWhile f).length=(l.takeWhile f).length+1:=(by rw [List.takeWhile_cons,if_pos ha];rfl);have:=pL f l (by rw [e]at hj;simpa using hj);simp only [e,List.getElem_cons_succ];exact this
  ·have e:((a::l).takeWhile f).length=0:=(by rw [List.takeWhile_cons,if_neg ha];rfl);simp only [e,List.getElem_cons_zero];simpa using ha
theorem nX {l:List ak}(hp:l.Pairwise fun a b=>a.aR≤b.aR){i j:Nat}(hi:i<l.length)(hj:j<l.length)(h:i≤j):l[i].aR≤l[j].aR:=by
 rcases Nat.lt_or_eq_of_le h with h|h
 ·exact List.pairwise_iff_getElem.1 hp i j hi hj h
 ·subst h;exact Int.le_refl _
theorem wy {l:List ak}{act:Nat}(h:act<l.length)(hp:l.Pairwise fun a b=>a.aR≤b.aR):
  (kb l l[act]).length≤act∧(∀j (hj:j<l.length),j<(kb l l[act]).length→l[j].aR<l[act].aR)∧ ∀j (hj:j<l.length),(kb l l[act]).length≤j→j≤act→l[j].aR=l[act].aR:=by
 have h1: ∀j (hj:j<l.length),j<(kb l l[act]).length→l[j].aR<l[act].aR:=fun j hj hm=>by
  have:=r5 (fun b:ak=>decide (b.aR<l[act].aR)) l j hj hm;simpa using this
 have h2:(kb l l[act]).length≤act:=by
  rcases Nat.lt_or_ge act (kb l l[act]).length with hm|hm
  ·have:=h1 act h hm;omega
  ·exact hm
 refine⟨h2,h1,fun j hj hm hja=> ?_⟩;have hml:(kb l l[act]).length<l.length:=(by omega);have h3:=pL (fun b:ak=>decide (b.aR<l[act].aR)) l hml;have h3': ¬(l[(kb l l[act]).length]'hml).aR<l[act].aR:=of_decide_eq_false h3;have h4:=nX hp hml hj hm;have h5:=nX hp hj h hja;omega
noncomputable def xG (r:aH)(a:ak):ay:=(cj r (kb r.ai a).length (az r) (kb r.ai a) 0).2.1
def late (aO:Int)(a:ak):ak:=if a.aO=aO then {a with aR:=a.aR+1}else a
noncomputable def iO (r:aH)(act:Nat)(kind:Int):List ak:=
 if kind=2 then (if dy r (xG r (r.ai.getD act cn)) (r.ai.getD act cn).aO.toNat {(r.ai.getD act cn)with hand:=1-(r.ai.getD act cn).hand}=true
  then r.ai.set act {(r.ai.getD act cn)with hand:=1-(r.ai.getD act cn).hand}else r.ai.eraseIdx act)
 else if kind=3 then a7 (r.ai.take act++(r.ai.drop act).map (late (r.ai.getD act cn).aO))
 else r.ai.eraseIdx act
def kI (r:aH)(act:Nat)(kind:Int):Int:=(r.ai.getD act cn).aR+if kind=3 then 1 else 0
def eF (m:Int)(l:List ak):List ak:=l.takeWhile fun a=>decide (a.aR≤m)
def behind (m:Int)(l:List ak):List ak:=l.dropWhile fun a=>decide (a.aR≤m)
theorem il (m:Int)(l:List ak):eF m l++behind m l=l:=List.takeWhile_append_dropWhile
def eG (m:Int):List ak→List ak
 | []=> []
 |a::l=>{a with aR:=m+1}::eG (m+1) l
def nY (m:Int)(ai mend:List ak):List ak:=eF m ai++eG m mend++(behind m ai).map fun a=>{a with aR:=a.aR+mend.length}
theorem uf (a:ak): ∀(l:List ak) (m:Int),eG m (l++[a])=eG m l++[setAt a (m+1+l.length)]
 | [],m=>by simp [eG,setAt]
 |b::l,m=>by
  have:=uf a l (m+1);simp only [List.cons_append,eG,this,List.length_cons];rw [show m+1+1+(l.length:Int)=m+1+((l.length+1:Nat):Int)by omega]
theorem lB: ∀(l:List ak) (m:Int),(eG m l).length=l.length
 | [],m=>rfl
 |b::l,m=>by simp [eG,lB l]
section
variable {c:Nat} {H:aj}
theorem yw (r:aH)(G:aj)(hG:0<G.length):Xm r (.pure (.fn 59)) (fun _=>G) G.length where
 len:=fun _=>rfl
 pos:=hG
 can:=rfl
 Gs:=fun _=>rfl
 cl:=fun fs l n _=>by simp
 see:=fun fs l s' c hf _ _ _=>by
  rw [wz];refine aN (bj KC au Tryz.func59 rfl rfl Tv rfl rfl rfl (by simp) (by simp;omega) ?_);unfold bA;simp;rw [aa (by simp)];simp
end
section
variable {c:Nat} {H:aj}
structure yx (r:aH):Prop where
 w:WB r
 snd:jd r (az r)
 p0:r.ah≠[]
 al:r.ai.length≤1000000
 ab: ∀a∈r.ai,AB r a.aO.toNat a
 sh:eN r
structure Dv (r:aH):Prop extends yx r where
 ck:dG r=0
theorem LW {r:aH}(h:Dv r)(hH:0<H.length):
  bM KC (aC KC) 15 [.pure (.agg r.row)] c H=
   some (.pure (.tuple (if (eE r).2.2.2=0 then [.agg (eE r).2.1.row, .int .i64 (-1), .int .i64 0]else [.agg [.slice [], .slice [], .slice []], .int .i64 (eE r).2.2.1, .int .i64 (eE r).2.2.2])),H):=by
 refine aN (aJ KC au Tryz.func15 rfl rfl IG (by simp) hH ?_);have C:=fun c (H:aj) (hH:0<H.length)=>BB (c:=c) (H:=H) r h.sh.s h.sh.l h.sh.p h.sh.t h.sh.a hH;rw [h.ck]at C;have A:=fun(F:Fr)=>zO (c:=15) h.w h.snd h.p0 h.al h.ab (yw r (F::H) (by simp));have A2: ∀F:Fr,aI KC (aC KC) 58 [.pure (.agg r.row), .pure (.fn 59)] 15 (F::H)=some (.pure (.tuple [.agg (bA r (eE r).2.1), .int .i64 (eE r).2.2.1, .int .i64 (eE r).2.2.2]),F::H):=fun F=>by
  rw [gR rfl rfl rfl];have:bm (F::H) [.pure (.agg r.row), .pure (.fn 59)]=([.pure (.agg r.row), .pure (.fn 59)],F::H):=rfl;rw [this];exact A F
 generalize eE r=q at A2⊢;obtain⟨l,s,aR,e⟩:=q;simp only [bA]at A2;rw [cQ]at C A2⊢;unfold ay.row;by_cases he:e=0
 ·subst he;simp [C,A2,aE];rw [aa (by simp)];simp
 ·have he':(e !=0)=true:=(by simpa using he);simp [C,A2,he,he',aE];rw [aa (by simp)];simp
end
section
variable {c:Nat} {H:aj}
def BC:List PV:=[.int .i64 0, .int .i64 0, .int .i64 0, .int .i64 0, .int .i64 0, .int .i64 0, .int .i64 0, .int .i64 0, .int .i64 0]
theorem Gu {nm:Nm}{rows:List (List PV)}{v k N:Nat}(hN:rows.length=N)(hg:H.get nm=some (.arr 9 rows v false))(hv:v≤N)(hk:k<N)(hw: ∀r∈rows,r.length=9)(hn:N≤1000000)(hH:0<H.length):
  aI KC (aC KC) 109 [.aW nm 9 N 0 N, .pure (.int .i64 k), .pure (.int .i64 (k+1))] c H=
   some (.aW nm 9 N 0 (N-1),H.set nm (.arr 9 (rows.take k++rows.drop (k+1)++[BC]) N false)):=by
 have l1:=aj.bS hg;have d1: ¬nm.1=H.length:=(by omega);have d2:nm.1≤H.length-1:=(by omega);have k1: ¬(k:Int)<0:=(by omega);have k2:(k:Int)<(k:Int)+1:=(by omega);have k3:(k:Int)+1≤N:=(by omega);have k4: ¬(k:Int)+1=0:=(by omega);have k5:((k:Int)==(k:Int)+1)=false:=by
  have: ¬(k:Int)=(k:Int)+1:=(by omega);simpa using this
 have k6: ¬(k:Int)+1<0:=(by omega);have k7:Int.toNat ((k:Int)+1)=k+1:=(by omega);have k8:k≤N:=(by omega);have k9:k+1≤N:=(by omega);have hb:N*72≤1099511627776:=(by omega);refine aN (a8 KC au Tryz.func109 rfl rfl LX rfl rfl rfl (by simp) hH ?_);have hdl:(rows.drop (k+1)).length=N-(k+1):=(by rw [List.length_drop,hN]);have hdw: ∀x∈rows.drop (k+1),x.length=9:=fun x hx=>hw x (List.mem_of_mem_drop hx);have hrl:List.replicate 1 BC=[BC]:=rfl;by_cases hl:N=k+1
 ·subst hl;have z0: ¬k+1≤k:=(by omega);have z1: ¬k+1=k:=(by omega);have z2:Int.toNat ((k:Int)+1)=k+1:=(by omega);have hd:rows.drop (k+1)=[]:=List.drop_of_length_le (by omega);have hd2:rows.drop k≠[]:=by
   intro e;have:=congrArg List.length e;rw [List.length_drop,hN]at this;simp at this
  simp [d1,d2,hg,hv,k1,k2,k3,k4,k5,k6,k7,k8,k9,hN,z0,z1,z2,hd,aE];rw [aa (by simp)];simp [d2,BC]
 ·obtain⟨M,rfl⟩: ∃M,N=k+1+M:=⟨N-(k+1),by omega⟩;have hM:rows.drop (k+1)≠[]:=fun e=>by
   have:=congrArg List.length e;rw [List.length_drop,hN]at this;simp at this;omega
  have M0: ¬M=0:=(by omega);have eM:k+1+M-(k+1)=M:=(by omega);have tkd:List.take M (rows.drop (k+1))=rows.drop (k+1):=List.take_of_length_le (by omega);have nk: ¬k=k+1+M:=(by omega);have nk2: ¬k+M=k+1+M:=(by omega);have le1:k+M≤k+1+M:=(by omega);have le2: ¬k+1+M≤k+M:=(by omega);have le3: ¬k+1+M≤k+1:=(by omega);have e1:k+1+M-(k+M)=1:=(by omega);have z0: ¬(k:Int)+(M:Int)<0:=(by omega);have z1:Int.toNat ((k:Int)+(M:Int))=k+M:=(by omega);have z2:Int.toNat ((k:Int)+1+(M:Int))=k+1+M:=(by omega);have z3: ¬(k:Int)+1+(M:Int)<0:=(by omega);have z4:k+M+1=k+1+M:=(by omega);have z5:k+1+M-1=k+M:=(by omega);have tk2:List.take (k+M) (rows.take k++(rows.drop (k+1)++rows.drop (k+M)))=rows.take k++rows.drop (k+1):=by
   rw [←List.append_assoc];exact List.take_left' (by rw [List.length_append,List.length_take,List.length_drop,hN];omega)
  have dr2:List.drop (k+1+M) (rows.take k++(rows.drop (k+1)++rows.drop (k+M)))=[]:=List.drop_of_length_le (by
   simp only [List.length_append,List.length_take,List.length_drop,hN];omega)
  have ml:min k (k+1+M)+(M+(k+1+M-(k+M)))=k+1+M:=(by omega);have nle: ¬k+1+M≤k:=(by omega);have z6:(k:Int)+1≤(k:Int)+1+(M:Int):=(by omega);have nl2: ¬k+1=k+1+M:=(by omega);have gs: ∀x,(H.set nm x).get nm=some x:=fun x=>aj.dg x l1;have z7:k+1+M=k+(M+1):=(by omega);have hdP:(∀x,x∈rows.drop (k+1)→x.length=9)=True:=eq_true hdw;simp [d1,d2,hg,hv,k1,k2,k3,k4,k5,k6,k7,k8,k9,hN,hl,hdl,eM,hdP,gs,aj.set_set,tkd,nk,nk2,le1,le2,le3,e1,z0,z1,z2,z3,z4,z5,z6,M0,hM,aE,tk2,dr2,nle,nl2,ml];rw [if_pos z7,gK,aa (by simp)];simp [d2,BC]
end
section
variable {c:Nat} {H:aj}
def nH (a b:Int):Int:=if a<b then-1 else if b<a then 1 else 0
theorem Tw {x:Int}(hH:0<H.length):aI KC (aC KC) 129 [.pure (.int .i64 x)] c H=some (.pure (.bool false),H):=by
 refine aN (bj KC au Tryz.func129 rfl rfl LY rfl rfl rfl (by simp) hH ?_);simp [aa]
theorem Dw {x y:Int}(hH:0<H.length):aI KC (aC KC) 108 [.pure (.int .i64 x), .pure (.int .i64 y)] c H=some (.pure (.int .i64 (nH x y)),H):=by
 refine aN (bj KC au Tryz.func108 rfl rfl LZ rfl rfl rfl (by simp) hH ?_);have N:=fun c x (H:aj) (hH:0<H.length)=>Tw (c:=c) (x:=x) (H:=H) hH;unfold nH;by_cases h1:x<y
 ·simp [N,h1,aa]
 ·by_cases h2:y<x
  ·simp [N,h1,h2,aa]
  ·simp [N,h1,h2,aa]
theorem u6 {x y:ak}(hH:0<H.length):aI KC (aC KC) 107 [.pure (.agg x.row), .pure (.agg y.row)] c H=some (.pure (.int .i64 (nH x.aR y.aR)),H):=by
 refine aN (bj KC au Tryz.func107 rfl rfl L0 rfl rfl rfl (by simp) hH ?_);have N:=fun c (H:aj) (hH:0<H.length)=>Dw (c:=c) (x:=x.aR) (y:=y.aR) (H:=H) hH;simp [N,ak.row,aa]
def kJ (P:List (List PV))(A:List ak)(x:ak)(B:List ak)(Q:List (List PV)):List (List PV):=P++A.map ak.row++x.row::(B.map ak.row++Q)
theorem r6 {P:List (List PV)}{A:List ak}{x:ak}{B:List ak}{Q:List (List PV)}:(kJ P A x B Q).length=P.length+A.length+1+B.length+Q.length:=by
 unfold kJ;simp;omega
theorem II {P:List (List PV)}{A:List ak}{x:ak}{B:List ak}{Q:List (List PV)}:(kJ P A x B Q)[P.length+A.length]? =some x.row:=by
 unfold kJ;rw [List.getElem?_append_right (by simp)];simp
theorem Gv {P:List (List PV)}{A:List ak}{y x:ak}{B:List ak}{Q:List (List PV)}:(kJ P (A++[y]) x B Q)[P.length+A.length]? =some y.row:=by
 unfold kJ;rw [List.getElem?_append_left (by simp),List.getElem?_append_right (by simp)];simp
theorem Gw {P:List (List PV)}{A:List ak}{y x:ak}{B:List ak}{Q:List (List PV)}:((kJ P (A++[y]) x B Q).set (P.length+A.length+1) y.row).set (P.length+A.length) x.row=kJ P A x (y::B) Q:=by
 unfold kJ;have e1:P++(A++[y]).map ak.row++x.row::(B.map ak.row++Q)=(P++A.map ak.row)++y.row::x.row::(B.map ak.row++Q):=(by simp);have l1:(P++A.map ak.row).length=P.length+A.length:=(by simp);rw [e1,←l1];rw [List.set_append_right _ _ (by omega),List.set_append_right _ _ (by omega)];simp
theorem Gx {nm:Nm}{P Q:List (List PV)}{N a':Nat}(x:ak)(i:Nat)(hn:N≤1000000)(hnm:nm.1<H.length)(b:Int)(Q':GX→bP→Prop): ∀(k:Nat) (A B:List ak) (v:Nat),A.length=k→P.length=a'→(kJ P A x B Q).length=N→v≤N→(∀y∈B,x.aR<y.aR)→
  (∀v',v'≤N→Q' (.exit 2) ⟨[(0, .aW nm 9 N 0 N),(1, .pure (.int .i64 a')),(2, .pure (.int .i64 b)),(3, .pure (.fn 107)),(8, .pure (.int .i64 i))],[]::[]::H.set nm (.arr 9 (P++(fO (A++B) x).map ak.row++Q) v' false),53⟩)→
  fL KC au 151 (lp Tryz.f151 1) [0,1,2,3,8,9] [0,1,2,3,8] Q' [(0, .aW nm 9 N 0 N),(1, .pure (.int .i64 a')),(2, .pure (.int .i64 b)),(3, .pure (.fn 107)),(8, .pure (.int .i64 i)),(9, .pure (.int .i64 ((P.length+A.length:Nat):Int)))] ([]::[]::H.set nm (.arr 9 (kJ P A x B Q) v false)) 53:=by
 intro k;have l0: ∀x,(H.set nm x).length=H.length:=fun x=>aj.length_set _ _ _;have d1: ¬nm.1=H.length:=(by omega);have d2: ¬nm.1=H.length+1:=(by omega);have d3: ¬nm.1=H.length+1+1:=(by omega);have gs: ∀x,(H.set nm x).get nm=some x:=fun x=>aj.dg x hnm;have C:=fun c (x y:ak) (H:aj) (hH:0<H.length)=>u6 (c:=c) (x:=x) (y:=y) (H:=H) hH
 induction k with
 |zero=>
  intro A B v hA hP hl hv hB h1;obtain rfl:A=[]:=List.length_eq_zero_iff.1 hA;have e:fO ([]++B) x=[]++x::B:=fP hB (fun a h=>by simp at h);have h1':=h1 v hv;rw [e]at h1';apply aw;conv=>arg 4;whnf
  have d4:nm.1≤H.length+1:=(by omega);simp [hP,d4];simpa [kJ]using h1'
 |succ k ih=>
  intro A B v hA hP hl hv hB h1;obtain⟨A',y,rfl⟩: ∃A' y,A=A'++[y]:=by
   have hne:A≠[]:=fun e=>(by rw [e]at hA;simp at hA);exact⟨A.dropLast,A.getLast hne,(List.dropLast_concat_getLast hne).symm⟩
  have hA':A'.length=k:=(by simpa using hA);have d4:nm.1≤H.length+1:=(by omega);obtain⟨j,hj⟩: ∃j,P.length+A'.length=j:=⟨_,rfl⟩;have hj1:P.length+(A'++[y]).length=j+1:=(by simp;omega);have hjN:j+1<N:=(by rw [←hl,r6];simp;omega);have g1:(kJ P (A'++[y]) x B Q)[j+1]? =some x.row:=(by rw [←hj1];exact II);have g0:(kJ P (A'++[y]) x B Q)[j]? =some y.row:=(by rw [←hj];exact Gv);have gsw:((kJ P (A'++[y]) x B Q).set (j+1) y.row).set j x.row=kJ P A' x (y::B) Q:=(by rw [←hj];exact Gw);have hl2:(kJ P A' x (y::B) Q).length=N:=(by rw [←hl,r6,r6];simp;omega);have gt1:(a':Int)<(j:Int)+1:=(by omega);have w1:=cu (x:=(j:Int)) (by omega) (by omega);have w2:IntKind.i64.wrap ((j:Int)+1-1)=j:=by rw [show (j:Int)+1-1=j by omega];exact w1
  have jn0: ¬(j:Int)+1<0:=(by omega);have jt:Int.toNat ((j:Int)+1)=j+1:=(by omega);have jl:(j:Int)+1<N:=(by omega);have jl0:(j:Int)<N:=(by omega);have jN0:j<N:=(by omega);have l9: ∀z:ak,z.row.length=9:=fun _=>rfl;have t9: ∀z:ak,List.take 9 z.row=z.row:=fun _=>rfl;have dr9: ∀z:ak,List.drop 9 z.row=[]:=fun _=>rfl;have lp9: ∀z:ak,∀H:aj,bI H (z.row.map .pure)=(z.row,H):=fun z H=>rfl;rw [hj1];by_cases hlt:x.aR<y.aR
  ·have ih':=ih A' (y::B) N hA' hP hl2 (Nat.le_refl _) (fun b hb=>by
    rcases List.mem_cons.1 hb with rfl|hb
    ·exact hlt
    ·exact hB b hb) (fun v' hv'=>by
    have:=h1 v' hv';rw [show A'++[y]++B=A'++y::B by simp]at this
    exact this)
   rw [hj]at ih';generalize kJ P (A'++[y]) x B Q=R at g1 g0 gsw hl⊢;have G1: ∀h,R[j+1]'h=x.row:=fun h=>(by rw [List.getElem?_eq_getElem h]at g1;simpa using g1);have G0: ∀h,R[j]'h=y.row:=fun h=>(by rw [List.getElem?_eq_getElem h]at g0;simpa using g0);have hc:nH x.aR y.aR<0:=(by unfold nH;rw [if_pos hlt];omega);apply aw;conv=>arg 4;whnf
   simp [hP,d1,d2,d3,d4,gs,l0,hl,hv,gt1,jn0,jt,jl,jl0,jN0,hjN,w1,w2,G1,G0,l9,t9,C,hc,aE,aj.set_set,lp9,dr9,gsw];exact ih'
  ·have h1':=h1 v hv;rw [fP hB (fun a ha=>by
    have:a=y:=(by simpa using ha.symm);rw [this];exact hlt)]at h1'
   have hc: ¬nH x.aR y.aR<0:=by
    unfold nH;rw [if_neg hlt];split<;>omega
   have e:P++((A'++[y])++x::B).map ak.row++Q=kJ P (A'++[y]) x B Q:=(by simp [kJ]);rw [e]at h1';generalize kJ P (A'++[y]) x B Q=R at g1 g0 gsw hl h1'⊢;have G1: ∀h,R[j+1]'h=x.row:=fun h=>(by rw [List.getElem?_eq_getElem h]at g1;simpa using g1);have G0: ∀h,R[j]'h=y.row:=fun h=>(by rw [List.getElem?_eq_getElem h]at g0;simpa using g0);apply aw;conv=>arg 4;whnf
   simp [hP,d1,d2,d3,d4,gs,l0,hl,hv,gt1,jn0,jt,jl,jl0,jN0,hjN,w1,w2,G1,G0,l9,t9,C,hc];exact h1'
theorem wA (l:List ak)(x:ak):a7 (l++[x])=fO (a7 l) x:=by
 unfold a7;rw [List.foldl_append];rfl
theorem Gy {nm:Nm} {P Q:List (List PV)} {N a':Nat} (X:List ak) (hn:N≤1000000) (hnm:nm.1<H.length) (hP:P.length=a') (hl:P.length+X.length+Q.length=N) (Q':GX→bP→Prop)
  (h1: ∀v',v'≤N→Q' (.exit 0) ⟨[],[]::H.set nm (.arr 9 (P++(a7 X).map ak.row++Q) v' false),53⟩): ∀(k i v:Nat),i+k=X.length→v≤N→
  fL KC au 151 (lp Tryz.f151 0) [0,1,2,3,8] [] Q' [(0, .aW nm 9 N 0 N),(1, .pure (.int .i64 a')),(2, .pure (.int .i64 ((a'+X.length:Nat):Int))),(3, .pure (.fn 107)),(8, .pure (.int .i64 ((a'+i:Nat):Int)))] ([]::H.set nm (.arr 9 (P++(a7 (X.take i)).map ak.row++((X.drop i).map ak.row++Q)) v false)) 53:=by
 intro k
 induction k with
 |zero=>
  intro i v hi hv;have hx:X.take i=X:=List.take_of_length_le (by omega);have hd:X.drop i=[]:=List.drop_of_length_le (by omega);have h1':=h1 v hv;have e:i=X.length:=(by omega);rw [hx,hd,e];apply aw;conv=>arg 4;whnf
  simp;simpa using h1'
 |succ k ih=>
  intro i v hi hv;have hia:i<X.length:=(by omega);have hlt:((a'+i:Nat):Int)<((a'+X.length:Nat):Int):=(by omega);have aW:X.drop i=X[i]::X.drop (i+1):=List.drop_eq_getElem_cons hia;have htk:X.take (i+1)=X.take i++[X[i]]:=(by rw [List.take_add_one,List.getElem?_eq_getElem hia];rfl);have e:P++(a7 (X.take i)).map ak.row++((X.drop i).map ak.row++Q)=kJ P (a7 (X.take i)) X[i] [] ((X.drop (i+1)).map ak.row++Q):=by
   rw [aW];simp only [kJ,List.map_cons,List.map_nil,List.nil_append,List.cons_append,List.append_assoc]
  have hsl:(a7 (X.take i)).length=i:=(by rw [bF,List.length_take];omega);have hw:=cu (x:=((a'+i+1:Nat):Int)) (by omega) (by omega);have ih':=fun v' hv'=>ih (i+1) v' (by omega) hv';have L:=fun Q'=>Gx (H:=H) (nm:=nm) (P:=P) (Q:=(X.drop (i+1)).map ak.row++Q) (N:=N) (a':=a') X[i] (a'+i) hn hnm ((a'+X.length:Nat):Int) Q' i (a7 (X.take i)) [] v hsl hP (by rw [r6,hsl];simp;omega) hv (by simp);rw [e];apply aw;conv=>arg 4;whnf
  obtain⟨R,hR⟩: ∃R,kJ P (a7 (X.take i)) X[i] [] ((X.drop (i+1)).map ak.row++Q)=R:=⟨_,rfl⟩;rw [hR]at L⊢;have e2: ∀v',aj.set H nm (.arr 9 (P++(fO (a7 (X.take i)++[]) X[i]).map ak.row++((X.drop (i+1)).map ak.row++Q)) v' false)=H.set nm (.arr 9 (P++(a7 (X.take (i+1))).map ak.row++((X.drop (i+1)).map ak.row++Q)) v' false):=fun v'=>by
   rw [htk,wA,List.append_nil]
  have d4:nm.1≤H.length:=(by omega);have hsl2:((P.length+(a7 (X.take i)).length:Nat):Int)=(a':Int)+i:=(by rw [hP,hsl];simp);simp only [e2,hsl2]at L;obtain⟨T,hT⟩: ∃T:List (List PV),P++(a7 (X.take (i+1))).map ak.row++((X.drop (i+1)).map ak.row++Q)=T:=⟨_,rfl⟩;rw [hT]at L ih';have hw':IntKind.i64.wrap ((a':Int)+i+1)=(a':Int)+i+1:=(by simpa using hw);simp at L;simp [hia];refine L _ fun v' hv'=> ?_;have i1:=ih' v' hv';have ec:((a'+(i+1):Nat):Int)=(a':Int)+i+1:=(by omega);rw [ec]at i1;simp [hw',d4];simpa using i1
end
theorem Gz (S:List ak){x y:ak}(h:y.aR<x.aR):fO (fO S x) y=fO (fO S y) x:=by
 obtain⟨A,D,e1,e2,hD,hA⟩:=jP S y;obtain⟨B,C,f1,_,hC,hB⟩:=jP D x;have i1:fO S x=(A++B)++x::C:=by
  rw [e1,f1,←List.append_assoc];refine fP hC fun a ha=> ?_
  cases hb:B.getLast? with
  |none=>
   rw [List.getLast?_eq_none_iff]at hb;subst hb;rw [List.append_nil]at ha;have:=hA a ha;omega
  |some z=>
   rw [List.getLast?_append,hb]at ha;obtain rfl:z=a:=(by simpa using ha);exact hB z hb
 have i2:fO ((A++B)++x::C) y=A++y::(B++x::C):=by
  rw [List.append_assoc];refine fP (fun b hb=> ?_) hA;rw [List.mem_append,List.mem_cons]at hb;rcases hb with hb|rfl|hb
  ·exact hD b (by rw [f1];simp [hb])
  ·exact h
  ·exact hD b (by rw [f1];simp [hb])
 have i3:fO (A++y::D) x=(A++y::B)++x::C:=by
  rw [f1,show A++y::(B++C)=(A++y::B)++C by simp]
  refine fP hC fun a ha=> ?_
  cases hb:B.getLast? with
  |none=>
   rw [List.getLast?_eq_none_iff]at hb;subst hb;rw [List.getLast?_append]at ha;obtain rfl:y=a:=(by simpa using ha);omega
  |some z=>
   rw [List.getLast?_append,List.getLast?_cons,hb]at ha;obtain rfl:z=a:=(by simpa using ha);exact hB z hb
 rw [i1,i2,e2,i3];simp
theorem sZ: ∀(Z S:List ak) (y:ak),(∀z∈Z,y.aR<z.aR)→(Z++[y]).foldl fO S=Z.foldl fO (fO S y)
 | [],S,y,_=>rfl
 |z::Z,S,y,h=>by
  rw [List.cons_append,List.foldl_cons,List.foldl_cons,sZ Z (fO S z) y (fun a ha=>h a (by simp [ha])),Gz S (h z (by simp))]
theorem wB (U:List ak): ∀(V S:List ak),(∀u∈U,∀v∈V,v.aR<u.aR)→(U++V).foldl fO S=(V++U).foldl fO S
 | [],S,_=>by simp
 |v::V,S,h=>by
  rw [show U++v::V=(U++[v])++V by simp,List.foldl_append,sZ U S v (fun u hu=>h u hu v (by simp)),←List.foldl_append,wB U V (fO S v) (fun u hu w hw=>h u hu w (by simp [hw])),List.cons_append,List.foldl_cons]
theorem kU (X Y:List ak):a7 (X++Y)=Y.foldl fO (a7 X):=by unfold a7;rw [List.foldl_append]
theorem wC (X:List ak)(y:ak):a7 (X++[y])=fO (a7 X) y:=by rw [kU];rfl
theorem ug: ∀(Y S:List ak),(a7 Y.reverse).foldl fO S=Y.reverse.foldl fO S
 | [],S=>rfl
 |y::Y,S=>by
  rw [List.reverse_cons,wC];obtain⟨A,B,e1,e2,hB,_⟩:=jP (a7 Y.reverse) y;have:=ug Y S;rw [e1]at this;rw [e2,List.foldl_append,List.foldl_cons,List.foldl_append,←this,List.foldl_append];rw [←sZ B _ y hB,List.foldl_append]
theorem Dx (Y S:List ak):(a7 Y).foldl fO S=Y.foldl fO S:=by
 have:=ug Y.reverse S
 rwa [List.reverse_reverse]at this
theorem GA (X Y:List ak):a7 (a7 X++a7 Y)=a7 (X++Y):=by
 rw [kU,dD (oV X),Dx,←kU]
theorem Dy {P T:List ak}{b:ak}(h: ∀a∈P,a.aR≤b.aR):fO (P++T) b=P++fO T b:=by
 obtain⟨A,B,e1,e2,hB,hA⟩:=jP T b;rw [e2,e1,←List.append_assoc,fP hB fun a ha=> ?_]
 ·simp
 ·cases hl:A.getLast? with
  |none=>
   rw [List.getLast?_eq_none_iff]at hl;subst hl;rw [List.append_nil]at ha;have:=h a (List.mem_of_getLast? ha);omega
  |some z=>
   rw [List.getLast?_append,hl]at ha;obtain rfl:z=a:=(by simpa using ha);exact hA z hl
theorem uh: ∀(B P T:List ak),(∀a∈P,∀b∈B,a.aR≤b.aR)→B.foldl fO (P++T)=P++B.foldl fO T
 | [],_,_,_=>rfl
 |b::B,P,T,h=>by
  rw [List.foldl_cons,List.foldl_cons,Dy fun a ha=>h a ha b (by simp),uh B P _ fun a ha b hb=>h a ha b (by simp [hb])]
theorem BD {A B:List ak}(h: ∀a∈A,∀b∈B,a.aR≤b.aR):a7 (A++B)=a7 A++a7 B:=by
 have:=uh B (a7 A) [] (fun a ha=>h a ((qR A).mem_iff.1 ha));rw [List.append_nil]at this;rw [kU,this];rfl
theorem ui {L1 L2 R1 R2:List ak}(h1: ∀l∈L2,∀r∈R1,r.aR<l.aR)(h2: ∀a∈L1,∀b∈L2,a.aR≤b.aR)(h3: ∀a∈R1,∀b∈R2,a.aR≤b.aR)(h4: ∀a∈L1,∀b∈R2,a.aR≤b.aR):
  a7 ((L1++L2)++(R1++R2))=a7 (L1++R1)++a7 (L2++R2):=by
 have e:a7 ((L1++L2)++(R1++R2))=a7 ((L1++R1)++(L2++R2)):=by
  rw [show (L1++L2)++(R1++R2)=L1++((L2++R1)++R2)by simp,show (L1++R1)++(L2++R2)=L1++((R1++L2)++R2)by simp,kU,kU,List.foldl_append (l:=L2++R1),wB L2 R1 _ h1,←List.foldl_append]
 rw [e];refine BD fun a ha b hb=> ?_;rw [List.mem_append]at ha hb;rcases ha with ha|ha<;>rcases hb with hb|hb
 ·exact h2 a ha b hb
 ·exact h4 a ha b hb
 ·have:=h1 b hb a ha;omega
 ·exact h3 a ha b hb
theorem Dz {x:ak}{R1 R2:List ak}(hp:(R1++R2).Pairwise fun a b=>a.aR≤b.aR)(h1: ∀r∈R1,r.aR<x.aR)(h2: ∀r∈R2,x.aR≤r.aR):a7 ([x]++(R1++R2))=R1++x::R2:=by
 rw [List.pairwise_append]at hp;have:=ui (L1:=[]) (L2:=[x]) (R1:=R1) (R2:=R2) (fun l hl r hr=>by
  rw [List.mem_singleton]at hl;rw [hl];exact h1 r hr) (by simp) hp.2.2 (by simp)
 simp only [List.nil_append]at this;rw [this,dD hp.1,dD]
 ·simp
 ·exact List.pairwise_cons.2 ⟨h2,hp.2.1⟩
theorem merge_right {x:ak}{L1 L2:List ak}(hp:(L1++L2).Pairwise fun a b=>a.aR≤b.aR)(h1: ∀r∈L1,r.aR≤x.aR)(h2: ∀r∈L2,x.aR<r.aR):a7 ((L1++L2)++[x])=L1++x::L2:=by
 rw [wC,dD hp];exact fP h2 fun a ha=>by have:=h1 a (List.mem_of_getLast? ha);omega
section
variable {c:Nat} {H:aj}
theorem jZ {P Q:List ak}{x:ak}{X:List ak}{i:Nat}(e:X=P++x::Q)(hi:i=P.length):(X.map ak.row)[i]? =some x.row:=by
 subst e;subst hi;rw [List.getElem?_map,List.getElem?_append_right (Nat.le_refl _)];simp
theorem pM {P Q:List ak}{x y:ak}{X:List ak}{i:Nat}(e:X=P++x::Q)(hi:i=P.length):(X.map ak.row).set i y.row=(P++y::Q).map ak.row:=by
 subst e;subst hi;rw [←List.map_set,List.set_append_right _ _ (Nat.le_refl _)];simp
theorem IJ {nm:Nm}{N a b n:Nat}(hn:N≤1000000)(hnm:nm.1<H.length)(P M Q:List ak)(Q':GX→bP→Prop): ∀(k:Nat) (A1 A2 B1 B2:List ak) (v:Nat),A2.length=k→B2.length=k→A1.length=B1.length→P.length+(A1.length+k)+M.length+(A1.length+k)+Q.length=N→a=P.length→b=P.length+(A1.length+k)+M.length→n=A1.length+k→v≤N→
  (∀v',v'≤N→Q' (.exit 0) ⟨[],[]::H.set nm (.arr 9 ((P++(B1++B2)++M++(A1++A2)++Q).map ak.row) v' false),38⟩)→
  fL KC au 159 (lp Tryz.f159 0) [0,1,2,3,10] [] Q' [(0, .aW nm 9 N 0 N),(1, .pure (.int .i64 a)),(2, .pure (.int .i64 b)),(3, .pure (.int .i64 n)),(10, .pure (.int .i64 A1.length))] ([]::H.set nm (.arr 9 ((P++B1++A2++M++A1++B2++Q).map ak.row) v false)) 38:=by
 intro k;have l0: ∀x,(H.set nm x).length=H.length:=fun x=>aj.length_set _ _ _;have d1: ¬nm.1=H.length:=(by omega);have d2: ¬nm.1=H.length+1:=(by omega);have d4:nm.1≤H.length:=(by omega);have gs: ∀x,(H.set nm x).get nm=some x:=fun x=>aj.dg x hnm
 induction k with
 |zero=>
  intro A1 A2 B1 B2 v hA hB hAB hl ha hb hnn hv h1;obtain rfl:A2=[]:=List.length_eq_zero_iff.1 hA;obtain rfl:B2=[]:=List.length_eq_zero_iff.1 hB;have h1':=h1 v hv;have hlt: ¬(A1.length:Int)<n:=(by omega);apply aw;conv=>arg 4;whnf
  simp [hlt,d4];simpa using h1'
 |succ k ih=>
  intro A1 A2 B1 B2 v hA hB hAB hl ha hb hnn hv h1;obtain⟨x,A2,rfl⟩: ∃x A,A2=x::A:=(by cases A2 with|nil=>simp at hA|cons x A=>exact⟨x,A,rfl⟩);obtain⟨y,B2,rfl⟩: ∃x A,B2=x::A:=(by cases B2 with|nil=>simp at hB|cons x A=>exact⟨x,A,rfl⟩);simp only [List.length_cons]at hA hB;have ih':=ih (A1++[x]) A2 (B1++[y]) B2 N (by omega) (by omega) (by simp [hAB]) (by rw [List.length_append,List.length_singleton];omega) ha (by rw [List.length_append,List.length_singleton];omega) (by rw [List.length_append,List.length_singleton];omega) (Nat.le_refl _) (fun v' hv'=>by simpa using h1 v' hv');obtain⟨i,hi⟩: ∃i,A1.length=i:=⟨_,rfl⟩;obtain⟨R,hR⟩: ∃R,(P++B1++x::A2++M++A1++y::B2++Q).map ak.row=R:=⟨_,rfl⟩;have g1:R[a+i]? =some x.row:=hR▸jZ (P:=P++B1) (Q:=A2++M++A1++y::B2++Q) (by simp) (by rw [List.length_append];omega);have g2:R[b+i]? =some y.row:=hR▸jZ (P:=P++B1++x::A2++M++A1) (Q:=B2++Q) (by simp) (by simp only [List.length_append,List.length_cons];omega);have gsw:(R.set (a+i) y.row).set (b+i) x.row=(P++(B1++[y])++A2++M++(A1++[x])++B2++Q).map ak.row:=by
   rw [←hR,pM (P:=P++B1) (Q:=A2++M++A1++y::B2++Q) (x:=x) (by simp) (by rw [List.length_append];omega),pM (P:=P++B1++y::A2++M++A1) (Q:=B2++Q) (x:=y) (by simp) (by simp only [List.length_append,List.length_cons];omega)];simp
  have hRl:R.length=N:=(by rw [←hR];simp only [List.length_map,List.length_append,List.length_cons];omega);rw [←gsw]at ih';have w0:=cu (x:=(i:Int)+1) (by omega) (by omega);have w1:=cu (x:=(a:Int)+i) (by omega) (by omega);have w2:=cu (x:=(b:Int)+i) (by omega) (by omega);have n1: ¬(a:Int)+i<0:=(by omega);have n2: ¬(b:Int)+i<0:=(by omega);have t1:Int.toNat ((a:Int)+i)=a+i:=(by omega);have t2:Int.toNat ((b:Int)+i)=b+i:=(by omega);have m1:(a:Int)+i<N:=(by omega);have m2:(b:Int)+i<N:=(by omega);have m3:a+i<N:=(by omega);have m4:b+i<N:=(by omega);have hlt:(i:Int)<n:=(by omega);have hlt':i<n:=(by omega);have G1: ∀h,R[a+i]'h=x.row:=fun h=>(by rw [List.getElem?_eq_getElem h]at g1;simpa using g1);have G2: ∀h,R[b+i]'h=y.row:=fun h=>(by rw [List.getElem?_eq_getElem h]at g2;simpa using g2);have G3: ∀h,(R.set (a+i) y.row)[b+i]'h=y.row:=fun h=>(by rw [List.getElem_set_ne (by omega)];exact G2 _);have l9: ∀z:ak,z.row.length=9:=fun _=>rfl;have t9: ∀z:ak,List.take 9 z.row=z.row:=fun _=>rfl;have dr9: ∀z:ak,List.drop 9 z.row=[]:=fun _=>rfl;have lp9: ∀z:ak,∀H:aj,bI H (z.row.map .pure)=(z.row,H):=fun z H=>rfl;rw [List.length_append,List.length_singleton]at ih';rw [hR,hi]at*;clear h1 ih;apply aw;conv=>arg 4;whnf
  simp [hlt,hlt',d1,d2,d4,gs,l0,hRl,hv,w0,w1,w2,n1,n2,t1,t2,m1,m2,m3,m4,G1,G2,G3,l9,t9,aE,aj.set_set,lp9,dr9];simpa using ih'
theorem DC {nm:Nm}{N v:Nat}(hn:N≤1000000)(hnm:nm.1<H.length)(P A M B Q:List ak)(hAB:A.length=B.length)(hl:P.length+A.length+M.length+B.length+Q.length=N)(hv:v≤N)(a b n:Int)(ha:a=P.length)(hb:b=(P.length+A.length+M.length:Nat))(hnn:n=A.length):
  ∃v',v'≤N∧aI KC (aC KC) 159 [.aW nm 9 N 0 N, .pure (.int .i64 a), .pure (.int .i64 b), .pure (.int .i64 n), .pure (.fn 107)] c (H.set nm (.arr 9 ((P++A++M++B++Q).map ak.row) v false))=
   some (.pure (.tuple []),H.set nm (.arr 9 ((P++B++M++A++Q).map ak.row) v' false)):=by
 suffices hs:ku (aI KC (aC KC) 159 [.aW nm 9 N 0 N, .pure (.int .i64 a), .pure (.int .i64 b), .pure (.int .i64 n), .pure (.fn 107)] c (H.set nm (.arr 9 ((P++A++M++B++Q).map ak.row) v false))) (fun x=> ∃v',v'≤N∧x=(.pure (.tuple []),H.set nm (.arr 9 ((P++B++M++A++Q).map ak.row) v' false)))by
  obtain⟨x,hx,v',h1,h2⟩:=hs;exact⟨v',h1,by rw [hx,h2]⟩
 have hH:0<(H.set nm (.arr 9 ((P++A++M++B++Q).map ak.row) v false)).length:=(by rw [aj.length_set];omega);subst ha hb hnn;have L:=fun Q' h1=>IJ (H:=H) (nm:=nm) (N:=N) (a:=P.length) (b:=P.length+A.length+M.length) (n:=A.length) hn hnm P M Q Q' A.length [] A [] B v rfl hAB.symm rfl (by simp;omega) rfl (by simp) (by simp) hv h1;simp only [List.append_nil,List.nil_append,List.length_nil]at L;generalize (P++A++M++B++Q).map ak.row=R at L hH⊢;generalize (P++B++M++A++Q).map ak.row=R' at L⊢;refine a8 KC au Tryz.func159 rfl rfl L5 rfl rfl rfl (by simp) hH ?_;simp;simp at L;refine L _ fun v' hv'=> ?_;simp [aa,aj.length_set];exact⟨v',hv',rfl⟩
end
section
variable {c:Nat} {H:aj}
theorem IK {nm:Nm} {N m:Nat} (hn:N≤1000000) (hnm:nm.1<H.length) (Y:List ak) (Q':GX→bP→Prop)
  (h1: ∀(P U V Q:List ak) (v:Nat),U.length=V.length→P.length+U.length=m→P.length+U.length+V.length+Q.length=N→P++V++U++Q=Y→v≤N→Q' (.exit 0) ⟨[(0, .aW nm 9 N 0 N),(2, .pure (.int .i64 m)),(4, .pure (.fn 107)),(10, .pure (.int .i64 U.length))],[]::H.set nm (.arr 9 ((P++U++V++Q).map ak.row) v false),58⟩): ∀(k:Nat) (P U V Q:List ak) (v:Nat),U.length+V.length≤k→0<U.length→0<V.length→P.length+U.length=m→P.length+U.length+V.length+Q.length=N→P++V++U++Q=Y→v≤N→
  fL KC au 158 (lp Tryz.f158 0) [0,2,4,10,11] [0,2,4,10] Q' [(0, .aW nm 9 N 0 N),(2, .pure (.int .i64 m)),(4, .pure (.fn 107)),(10, .pure (.int .i64 U.length)),(11, .pure (.int .i64 V.length))] ([]::H.set nm (.arr 9 ((P++U++V++Q).map ak.row) v false)) 58:=by
 intro k;have l0: ∀x,(H.set nm x).length=H.length:=fun x=>aj.length_set _ _ _;have d1: ¬nm.1=H.length:=(by omega);have d2: ¬nm.1=H.length+1:=(by omega);have d4:nm.1≤H.length:=(by omega);have d5:nm.1≤H.length+1:=by omega
 induction k with
 |zero=>intro P U V Q v hk hu;omega
 |succ k ih=>
  intro P U V Q v hk hu hv hm hl hY hvN;obtain⟨i,hi⟩: ∃i,U.length=i:=⟨_,rfl⟩;obtain⟨j,hj⟩: ∃j,V.length=j:=⟨_,rfl⟩;have wm:=cu (x:=(m:Int)-i) (by omega) (by omega);by_cases e:i=j
  ·have h1':=h1 P U V Q v (by omega) hm hl hY hvN;rw [hi]at h1'⊢;rw [hj];subst e;apply aw;conv=>arg 4;whnf
   simp [d1,d2,d4,d5];simpa using h1'
  ·have ei: ¬(i:Int)=j:=(by omega);by_cases hij:j<i
   ·have ll:U.length-V.length+V.length=U.length:=(by omega);have S:=DC (c:=31) (H:=[]::[]::H) (nm:=nm) (N:=N) (v:=v) hn (by simp;omega) P (U.take j) (U.drop j) V Q (by rw [List.length_take];omega) (by rw [List.length_take,List.length_drop];omega) hvN ((m:Int)-i) m j (by omega) (by rw [List.length_take,List.length_drop];omega) (by rw [List.length_take];omega);obtain⟨v',a1,b1⟩:=S;have ih':=ih (P++V) (U.drop j) (U.take j) Q v' (by rw [List.length_take,List.length_drop];omega) (by rw [List.length_drop];omega) (by rw [List.length_take];omega) (by rw [List.length_append,List.length_drop];omega) (by rw [List.length_append,List.length_take,List.length_drop];omega) (by rw [←hY];simp only [List.append_assoc];rw [←List.append_assoc (U.take j),List.take_append_drop]) a1;have e1:P++U.take j++U.drop j++V++Q=P++U++V++Q:=(by rw [List.append_assoc P,List.take_append_drop]);rw [e1]at b1;have li:(U.drop j).length=i-j:=(by rw [List.length_drop,hi]);have lj:(U.take j).length=j:=(by rw [List.length_take];omega);rw [li,lj]at ih';rw [hi,hj];simp only [List.append_assoc]at ih' b1⊢;generalize (P++(U++(V++Q))).map ak.row=R at b1⊢;generalize (P++(V++(U.drop j++(U.take j++Q)))).map ak.row=R' at b1 ih'⊢;simp [d1,d2]at b1;have hji:(j:Int)<i:=(by omega);have wij:IntKind.i64.wrap ((i:Int)-j)=((i-j:Nat):Int):=(by rw [cu (by omega) (by omega)];omega);apply aw;conv=>arg 4;whnf
    simp [d1,d2,d4,d5,ei,e,hij,hji,wm,b1,wij];simpa using ih'
   ·have S:=DC (c:=46) (H:=[]::[]::H) (nm:=nm) (N:=N) (v:=v) hn (by simp;omega) P U (V.take (j-i)) (V.drop (j-i)) Q (by rw [List.length_drop];omega) (by rw [List.length_take,List.length_drop];omega) hvN ((m:Int)-i) ((m:Int)+j-i) i (by omega) (by rw [List.length_take];omega) (by omega);obtain⟨v',a1,b1⟩:=S;have ih':=ih P (V.drop (j-i)) (V.take (j-i)) (U++Q) v' (by rw [List.length_take,List.length_drop];omega) (by rw [List.length_drop];omega) (by rw [List.length_take];omega) (by rw [List.length_drop];omega) (by rw [List.length_append,List.length_take,List.length_drop];omega) (by rw [←hY];simp only [List.append_assoc];rw [←List.append_assoc (V.take _),List.take_append_drop]) a1;have e1:P++U++V.take (j-i)++V.drop (j-i)++Q=P++U++V++Q:=(by rw [List.append_assoc (P++U),List.take_append_drop]);rw [e1]at b1;have li:(V.drop (j-i)).length=i:=(by rw [List.length_drop,hj];omega);have lj:(V.take (j-i)).length=j-i:=(by rw [List.length_take];omega);rw [li,lj]at ih';rw [hi,hj];simp only [List.append_assoc]at ih' b1⊢;generalize (P++(U++(V++Q))).map ak.row=R at b1⊢;generalize (P++(V.drop (j-i)++(V.take (j-i)++(U++Q)))).map ak.row=R' at b1 ih'⊢;simp [d1,d2]at b1;have hji: ¬(j:Int)<i:=(by omega);have wij:IntKind.i64.wrap ((j:Int)-i)=((j-i:Nat):Int):=(by rw [cu (by omega) (by omega)];omega);have wmj:=cu (x:=(m:Int)+j) (by omega) (by omega);have wmj2:=cu (x:=(m:Int)+j-i) (by omega) (by omega);apply aw;conv=>arg 4;whnf
    simp [d1,d2,d4,d5,ei,e,hij,hji,wm,wmj,wmj2,b1,wij];simpa using ih'
theorem Tx {nm:Nm}{N v:Nat}(hn:N≤1000000)(hnm:nm.1<H.length)(P U V Q:List ak)(hu:0<U.length)(hv:0<V.length)(hl:P.length+U.length+V.length+Q.length=N)(hvN:v≤N)(a m b:Int)(ha:a=P.length)(hm:m=(P.length+U.length:Nat))(hb:b=(P.length+U.length+V.length:Nat)):
  ∃v',v'≤N∧aI KC (aC KC) 158 [.aW nm 9 N 0 N, .pure (.int .i64 a), .pure (.int .i64 m), .pure (.int .i64 b), .pure (.fn 107)] c (H.set nm (.arr 9 ((P++U++V++Q).map ak.row) v false))=
   some (.pure (.tuple []),H.set nm (.arr 9 ((P++V++U++Q).map ak.row) v' false)):=by
 suffices hs:ku (aI KC (aC KC) 158 [.aW nm 9 N 0 N, .pure (.int .i64 a), .pure (.int .i64 m), .pure (.int .i64 b), .pure (.fn 107)] c (H.set nm (.arr 9 ((P++U++V++Q).map ak.row) v false))) (fun x=> ∃v',v'≤N∧x=(.pure (.tuple []),H.set nm (.arr 9 ((P++V++U++Q).map ak.row) v' false)))by
  obtain⟨x,hx,v',h1,h2⟩:=hs;exact⟨v',h1,by rw [hx,h2]⟩
 have hH:0<(H.set nm (.arr 9 ((P++U++V++Q).map ak.row) v false)).length:=(by rw [aj.length_set];omega);subst ha;have d1: ¬nm.1=H.length:=(by omega);have d4:nm.1≤H.length:=(by omega);obtain⟨m',hm'⟩: ∃m':Nat,P.length+U.length=m':=⟨_,rfl⟩;obtain⟨Y,hY⟩: ∃Y,P++V++U++Q=Y:=⟨_,rfl⟩;have L:=fun Q' h1=>IK (H:=H) (nm:=nm) (N:=N) (m:=m') hn hnm Y Q' h1 (U.length+V.length) P U V Q v (Nat.le_refl _) hu hv hm' hl hY hvN;have w1:IntKind.i64.wrap (m-(P.length:Int))=U.length:=(by rw [cu (by omega) (by omega)];omega);have w2:IntKind.i64.wrap (b-m)=V.length:=(by rw [cu (by omega) (by omega)];omega);have hmm:m=(m':Int):=(by omega);rw [hY];generalize (P++U++V++Q).map ak.row=R at L hH⊢;refine a8 KC au Tryz.func158 rfl rfl L6 rfl rfl rfl (by simp) hH ?_;rw [hmm]at w1 w2⊢;simp [w1,w2];simp at L;refine L _ fun P2 U2 V2 Q2 v' hl2 hm2 hn2 hY2 hv2=> ?_;have wm:=cu (x:=(m':Int)-(U2.length:Int)) (by omega) (by omega);obtain⟨v3,a3,b3⟩:=DC (c:=57) (H:=[]::H) (nm:=nm) (N:=N) (v:=v') hn (by simp;omega) P2 U2 [] V2 Q2 hl2 (by simp;omega) hv2 ((m':Int)-(U2.length:Int)) m' U2.length (by omega) (by simp;omega) rfl;rw [show P2++V2++[]++U2++Q2=Y by rw [←hY2];simp,show P2++U2++[]++V2++Q2=P2++U2++V2++Q2 by simp]at b3
 simp only [List.append_assoc]at b3⊢;simp [d1]at b3;simp [b3,d1,d4,wm,aa,aj.length_set];exact⟨v3,a3,rfl⟩
end
section
variable {c:Nat} {H:aj}
theorem ad0 {x:Int}(h1:0≤x)(h2:x≤9223372036854775807):IntKind.u64.wrap x=x:=by
 unfold IntKind.wrap;simp [IntKind.bits,IntKind.signed];omega
theorem u7 {x:Int}{n:Nat}(h:x=n)(hn:n≤4000000):IntKind.i64.wrap ((IntKind.u64.wrap (IntKind.i64.wrap x)).fdiv 2)=((n/2:Nat):Int):=by
 subst h;have e1:IntKind.i64.wrap (n:Int)=n:=cu (by omega) (by omega);have e2:IntKind.u64.wrap (n:Int)=n:=ad0 (by omega) (by omega);rw [e1,e2];have:Int.fdiv (n:Int) 2=((n/2:Nat):Int):=(by rw [Int.fdiv_eq_ediv_of_nonneg _ (by omega)];omega);rw [this];exact cu (by omega) (by omega)
theorem IL {nm:Nm} {N:Nat} (hn:N≤1000000) (hnm:nm.1<H.length) (P:List ak) (x:ak) (L Q:List ak) (hl:P.length+1+L.length+Q.length=N) (hp:L.Pairwise fun a b=>a.aR≤b.aR) {v:Nat} (hv:v≤N) (Q':GX→bP→Prop)
  (h1: ∀i,i≤L.length→(∀q (h:q<L.length),q<i→L[q].aR<x.aR)→(∀q (h:q<L.length),i≤q→x.aR≤L[q].aR)→Q' (.exit 0) ⟨[(0, .aW nm 9 N 0 N),(1, .pure (.int .i64 P.length)),(10, .pure (.int .i64 ((P.length+1+i:Nat):Int)))],[]::H.set nm (.arr 9 ((P++x::(L++Q)).map ak.row) v false),220⟩): ∀(k i j:Nat),j-i≤k→i≤j→j≤L.length→(∀q (h:q<L.length),q<i→L[q].aR<x.aR)→(∀q (h:q<L.length),j≤q→x.aR≤L[q].aR)→
  fL KC au 152 (lp Tryz.f152 0) [0,1,4,10,11] [0,1,10] Q' [(0, .aW nm 9 N 0 N),(1, .pure (.int .i64 P.length)),(4, .pure (.fn 107)),(10, .pure (.int .i64 ((P.length+1+i:Nat):Int))),(11, .pure (.int .i64 ((P.length+1+j:Nat):Int)))] ([]::H.set nm (.arr 9 ((P++x::(L++Q)).map ak.row) v false)) 220:=by
 intro k;have l0: ∀x,(H.set nm x).length=H.length:=fun x=>aj.length_set _ _ _;have d1: ¬nm.1=H.length:=(by omega);have d2: ¬nm.1=H.length+1:=(by omega);have d4:nm.1≤H.length:=(by omega);have d5:nm.1≤H.length+1:=(by omega);have gs: ∀x,(H.set nm x).get nm=some x:=fun x=>aj.dg x hnm;have C:=fun c (x y:ak) (H:aj) (hH:0<H.length)=>u6 (c:=c) (x:=x) (y:=y) (H:=H) hH
 induction k with
 |zero=>
  intro i j hk hij hj lo hi;obtain rfl:i=j:=(by omega);have h1':=h1 i hj lo hi;apply aw;conv=>arg 4;whnf
  simp [d1,d2,d4,d5];simpa using h1'
 |succ k ih=>
  intro i j hk hij hj lo hi;by_cases e:i=j
  ·subst e;have h1':=h1 i hj lo hi;apply aw;conv=>arg 4;whnf
   simp [d1,d2,d4,d5];simpa using h1'
  ·obtain⟨p,hpp⟩: ∃p,P.length+1=p:=⟨_,rfl⟩;obtain⟨h,hh⟩: ∃h,(i+j)/2=h:=⟨_,rfl⟩;have hih:i≤h∧h<j:=(by omega);have hlt:h<L.length:=(by omega);obtain⟨R,hR⟩: ∃R,(P++x::(L++Q)).map ak.row=R:=⟨_,rfl⟩;have hRl:R.length=N:=(by rw [←hR];simp only [List.length_map,List.length_append,List.length_cons];omega);have g1:R[P.length]? =some x.row:=hR▸jZ (P:=P) (Q:=L++Q) rfl rfl;obtain⟨y,hy⟩: ∃y,L[h]'hlt=y:=⟨_,rfl⟩;have g2:R[p+h]? =some y.row:=by
    obtain⟨T,D,e0,hT⟩: ∃T D,L=T++y::D∧T.length=h:=⟨L.take h,L.drop (h+1),by rw [←hy,←List.drop_eq_getElem_cons hlt,List.take_append_drop],by rw [List.length_take];omega⟩;exact hR▸jZ (P:=P++x::T) (Q:=D++Q) (by rw [e0];simp) (by simp only [List.length_append,List.length_cons];omega)
   have G1: ∀h,R[P.length]'h=x.row:=fun h=>(by rw [List.getElem?_eq_getElem h]at g1;simpa using g1);have G2: ∀h',R[p+h]'h'=y.row:=fun h=>(by rw [List.getElem?_eq_getElem h]at g2;simpa using g2);have ih1:=ih (h+1) j (by omega) (by omega) hj;have ih2:=ih i h (by omega) (by omega) (by omega) lo;have hij':((p+i:Nat):Int)<((p+j:Nat):Int):=(by omega);rw [hR]at h1 ih1 ih2⊢;rw [hpp]at h1 ih1 ih2⊢;apply aw;conv=>arg 4;whnf
   have hij2:i<j:=(by omega);have hf:=u7 (x:=(p:Int)+i+((p:Int)+j)) (n:=p+i+(p+j)) (by omega) (by omega);have ef:(p+i+(p+j))/2=p+h:=(by omega);rw [ef]at hf;have ecast:((p+h:Nat):Int)=(p:Int)+h:=(by omega);rw [ecast]at hf;have w1:=cu (x:=(p:Int)+h+1) (by omega) (by omega);have n1: ¬(p:Int)+h<0:=(by omega);have t1:Int.toNat ((p:Int)+h)=p+h:=(by omega);have m1:(p:Int)+h<N:=(by omega);have m2:p+h<N:=(by omega);have m3:P.length<N:=(by omega);have l9: ∀z:ak,z.row.length=9:=fun _=>rfl;have t9: ∀z:ak,List.take 9 z.row=z.row:=fun _=>rfl;by_cases hlt2:y.aR<x.aR
   ·have hc:nH y.aR x.aR<0:=(by unfold nH;rw [if_pos hlt2];omega);have ih1':=ih1 (fun q hq hqh=>by
     rcases Nat.lt_or_ge q i with hqi|hqi
     ·exact lo q hq hqi
     ·have:=nX hp hq hlt (by omega);rw [hy]at this;omega) hi
    have ec:((p+(h+1):Nat):Int)=(p:Int)+h+1:=(by omega);rw [ec]at ih1';simp [d1,d2,d4,d5,l0,gs,hij',hij2,hRl,hv,C,G1,G2,hf,w1,n1,t1,m1,m2,m3,l9,t9,hc];simpa using ih1'
   ·have hc: ¬nH y.aR x.aR<0:=by
     unfold nH;rw [if_neg hlt2];split<;>omega
    have ih2':=ih2 (fun q hq hqh=>by
     have:=nX hp hlt hq hqh;rw [hy]at this;omega)
    rw [ecast]at ih2';simp [d1,d2,d4,d5,l0,gs,hij',hij2,hRl,hv,C,G1,G2,hf,w1,n1,t1,m1,m2,m3,l9,t9,hc];simpa using ih2'
theorem IM {nm:Nm}{N i:Nat}(hn:N≤1000000)(hnm:nm.1<H.length)(P Q:List ak)(x:ak)(Q':GX→bP→Prop): ∀(k:Nat) (A B:List ak) (v:Nat),B.length=k→P.length+A.length+1+B.length+Q.length=N→i=P.length+A.length+B.length+1→v≤N→
  (∀v',v'≤N→Q' (.exit 2) ⟨[],[]::H.set nm (.arr 9 ((P++(A++B)++x::Q).map ak.row) v' false),220⟩)→
  fL KC au 152 (lp Tryz.f152 1) [0,10,13] [] Q' [(0, .aW nm 9 N 0 N),(10, .pure (.int .i64 i)),(13, .pure (.int .i64 ((P.length+A.length:Nat):Int)))] ([]::H.set nm (.arr 9 ((P++A++x::(B++Q)).map ak.row) v false)) 220:=by
 intro k;have l0: ∀x,(H.set nm x).length=H.length:=fun x=>aj.length_set _ _ _;have d1: ¬nm.1=H.length:=(by omega);have d2: ¬nm.1=H.length+1:=(by omega);have d4:nm.1≤H.length:=(by omega);have gs: ∀x,(H.set nm x).get nm=some x:=fun x=>aj.dg x hnm
 induction k with
 |zero=>
  intro A B v hB hl hi hv h1;obtain rfl:B=[]:=List.length_eq_zero_iff.1 hB;have h1':=h1 v hv;have wi:IntKind.i64.wrap ((i:Int)-1)=((P.length+A.length:Nat):Int):=by
   have hi':i=P.length+A.length+1:=(by simpa using hi);rw [cu (by omega) (by omega)];omega
  obtain⟨p,hp⟩: ∃p,P.length+A.length=p:=⟨_,rfl⟩;rw [hp]at wi⊢;rw [List.append_nil]at h1';simp only [List.nil_append];apply aw;conv=>arg 4;whnf
  simp [wi,d4];simpa using h1'
 |succ k ih=>
  intro A B v hB hl hi hv h1;obtain⟨y,B,rfl⟩: ∃x A,B=x::A:=(by cases B with|nil=>simp at hB|cons x A=>exact⟨x,A,rfl⟩);simp only [List.length_cons]at hB hl hi;have ih':=ih (A++[y]) B N (by omega) (by rw [List.length_append,List.length_singleton];omega) (by rw [List.length_append,List.length_singleton];omega) (Nat.le_refl _) (fun v' hv'=>by simpa using h1 v' hv');obtain⟨j,hj⟩: ∃j,P.length+A.length=j:=⟨_,rfl⟩;obtain⟨R,hR⟩: ∃R,(P++A++x::(y::B++Q)).map ak.row=R:=⟨_,rfl⟩;have g1:R[j]? =some x.row:=hR▸jZ (P:=P++A) (Q:=y::B++Q) (by simp) (by rw [List.length_append];omega);have g2:R[j+1]? =some y.row:=hR▸jZ (P:=P++A++[x]) (Q:=B++Q) (by simp) (by simp only [List.length_append,List.length_cons,List.length_nil];omega);have gsw:(R.set j y.row).set (j+1) x.row=(P++(A++[y])++x::(B++Q)).map ak.row:=by
   rw [←hR,pM (P:=P++A) (Q:=y::B++Q) (x:=x) (by simp) (by rw [List.length_append];omega),pM (P:=P++A++[y]) (Q:=B++Q) (x:=y) (by simp) (by simp only [List.length_append,List.length_cons,List.length_nil];omega)];simp
  have hRl:R.length=N:=(by rw [←hR];simp only [List.length_map,List.length_append,List.length_cons];omega);rw [←gsw]at ih';have e1:P.length+(A++[y]).length=j+1:=(by rw [List.length_append,List.length_singleton];omega);rw [e1]at ih';rw [hR,hj];have wi:=cu (x:=(i:Int)-1) (by omega) (by omega);have wj:=cu (x:=(j:Int)+1) (by omega) (by omega);have hlt:(j:Int)<(i:Int)-1:=(by omega);have jn: ¬(j:Int)+1<0:=(by omega);have jt:Int.toNat ((j:Int)+1)=j+1:=(by omega);have m1:(j:Int)+1<N:=(by omega);have m2:(j:Int)<N:=(by omega);have m3:j+1<N:=(by omega);have m4:j<N:=(by omega);have G1: ∀h,R[j]'h=x.row:=fun h=>(by rw [List.getElem?_eq_getElem h]at g1;simpa using g1);have G2: ∀h,R[j+1]'h=y.row:=fun h=>(by rw [List.getElem?_eq_getElem h]at g2;simpa using g2);have l9: ∀z:ak,z.row.length=9:=fun _=>rfl;have t9: ∀z:ak,List.take 9 z.row=z.row:=fun _=>rfl;have dr9: ∀z:ak,List.drop 9 z.row=[]:=fun _=>rfl;have lp9: ∀z:ak,∀H:aj,bI H (z.row.map .pure)=(z.row,H):=fun z H=>rfl;clear h1 ih;apply aw;conv=>arg 4;whnf
  simp [hlt,d1,d2,d4,gs,l0,hRl,hv,wi,wj,jn,jt,m1,m2,m3,m4,G1,G2,l9,t9,aE,aj.set_set,lp9,dr9];simpa using ih'
theorem IP {nm:Nm}{N:Nat}(hn:N≤1000000)(hnm:nm.1<H.length)(P Q:List ak)(x:ak)(Q':GX→bP→Prop): ∀(k:Nat) (A B:List ak) (v:Nat),A.length=k→P.length+A.length+1+B.length+Q.length=N→v≤N→
  (∀v',v'≤N→Q' (.exit 6) ⟨[],[]::H.set nm (.arr 9 ((P++x::((A++B)++Q)).map ak.row) v' false),220⟩)→
  fL KC au 152 (lp Tryz.f152 3) [0,14,17] [] Q' [(0, .aW nm 9 N 0 N),(14, .pure (.int .i64 P.length)),(17, .pure (.int .i64 ((P.length+A.length:Nat):Int)))] ([]::H.set nm (.arr 9 ((P++A++x::(B++Q)).map ak.row) v false)) 220:=by
 intro k;have l0: ∀x,(H.set nm x).length=H.length:=fun x=>aj.length_set _ _ _;have d1: ¬nm.1=H.length:=(by omega);have d2: ¬nm.1=H.length+1:=(by omega);have d4:nm.1≤H.length:=(by omega);have gs: ∀x,(H.set nm x).get nm=some x:=fun x=>aj.dg x hnm
 induction k with
 |zero=>
  intro A B v hA hl hv h1;obtain rfl:A=[]:=List.length_eq_zero_iff.1 hA;have h1':=h1 v hv;simp only [List.append_nil,List.nil_append]at h1'⊢;apply aw;conv=>arg 4;whnf
  simp [d4];simpa using h1'
 |succ k ih=>
  intro A B v hA hl hv h1;obtain⟨A,y,rfl⟩: ∃A' y,A=A'++[y]:=by
   have hne:A≠[]:=fun e=>(by rw [e]at hA;simp at hA);exact⟨A.dropLast,A.getLast hne,(List.dropLast_concat_getLast hne).symm⟩
  simp only [List.length_append,List.length_singleton]at hA hl;have ih':=ih A (y::B) N (by omega) (by rw [List.length_cons];omega) (Nat.le_refl _) (fun v' hv'=>by simpa using h1 v' hv');obtain⟨j,hj⟩: ∃j,P.length+A.length=j:=⟨_,rfl⟩;obtain⟨R,hR⟩: ∃R,(P++(A++[y])++x::(B++Q)).map ak.row=R:=⟨_,rfl⟩;have g1:R[j]? =some y.row:=hR▸jZ (P:=P++A) (Q:=x::(B++Q)) (by simp) (by rw [List.length_append];omega);have g2:R[j+1]? =some x.row:=hR▸jZ (P:=P++A++[y]) (Q:=B++Q) (by simp) (by simp only [List.length_append,List.length_cons,List.length_nil];omega);have gsw:(R.set (j+1) y.row).set j x.row=(P++A++x::(y::B++Q)).map ak.row:=by
   rw [←hR,pM (P:=P++A++[y]) (Q:=B++Q) (x:=x) (by simp) (by simp only [List.length_append,List.length_cons,List.length_nil];omega),pM (P:=P++A) (Q:=y::(B++Q)) (x:=y) (by simp) (by rw [List.length_append];omega)];simp
  have hRl:R.length=N:=(by rw [←hR];simp only [List.length_map,List.length_append,List.length_cons,List.length_nil];omega);rw [←gsw]at ih';have e1:P.length+(A++[y]).length=j+1:=(by rw [List.length_append,List.length_singleton];omega);rw [hR,e1]at*;rw [hj]at ih';have w0:=cu (x:=(j:Int)) (by omega) (by omega);have wj:IntKind.i64.wrap ((j:Int)+1-1)=j:=by rw [show (j:Int)+1-1=j by omega];exact w0
  have hlt:(P.length:Int)<(j:Int)+1:=(by omega);have jn: ¬(j:Int)+1<0:=(by omega);have jt:Int.toNat ((j:Int)+1)=j+1:=(by omega);have m1:(j:Int)+1<N:=(by omega);have m2:(j:Int)<N:=(by omega);have m3:j+1<N:=(by omega);have m4:j<N:=(by omega);have G1: ∀h,R[j]'h=y.row:=fun h=>(by rw [List.getElem?_eq_getElem h]at g1;simpa using g1);have G2: ∀h,R[j+1]'h=x.row:=fun h=>(by rw [List.getElem?_eq_getElem h]at g2;simpa using g2);have l9: ∀z:ak,z.row.length=9:=fun _=>rfl;have t9: ∀z:ak,List.take 9 z.row=z.row:=fun _=>rfl;have dr9: ∀z:ak,List.drop 9 z.row=[]:=fun _=>rfl;have lp9: ∀z:ak,∀H:aj,bI H (z.row.map .pure)=(z.row,H):=fun z H=>rfl;clear h1 ih;apply aw;conv=>arg 4;whnf
  simp [hlt,d1,d2,d4,gs,l0,hRl,hv,w0,wj,jn,jt,m1,m2,m3,m4,G1,G2,l9,t9,aE,aj.set_set,lp9,dr9];simpa using ih'
end
section
variable {c:Nat} {H:aj}
theorem IQ {nm:Nm} {N:Nat} (hn:N≤1000000) (hnm:nm.1<H.length) (P:List ak) (x:ak) (L Q:List ak) (hl:P.length+L.length+1+Q.length=N) (hp:L.Pairwise fun a b=>a.aR≤b.aR) {v:Nat} (hv:v≤N) (Q':GX→bP→Prop)
  (h1: ∀i,i≤L.length→(∀q (h:q<L.length),q<i→L[q].aR≤x.aR)→(∀q (h:q<L.length),i≤q→x.aR<L[q].aR)→Q' (.exit 4) ⟨[(0, .aW nm 9 N 0 N),(2, .pure (.int .i64 ((P.length+L.length:Nat):Int))),(14, .pure (.int .i64 ((P.length+i:Nat):Int)))],[]::H.set nm (.arr 9 ((P++L++x::Q).map ak.row) v false),220⟩): ∀(k i j:Nat),j-i≤k→i≤j→j≤L.length→(∀q (h:q<L.length),q<i→L[q].aR≤x.aR)→(∀q (h:q<L.length),j≤q→x.aR<L[q].aR)→
  fL KC au 152 (lp Tryz.f152 2) [0,2,4,14,15] [0,2,14] Q' [(0, .aW nm 9 N 0 N),(2, .pure (.int .i64 ((P.length+L.length:Nat):Int))),(4, .pure (.fn 107)),(14, .pure (.int .i64 ((P.length+i:Nat):Int))),(15, .pure (.int .i64 ((P.length+j:Nat):Int)))] ([]::H.set nm (.arr 9 ((P++L++x::Q).map ak.row) v false)) 220:=by
 intro k;have l0: ∀x,(H.set nm x).length=H.length:=fun x=>aj.length_set _ _ _;have d1: ¬nm.1=H.length:=(by omega);have d2: ¬nm.1=H.length+1:=(by omega);have d4:nm.1≤H.length:=(by omega);have d5:nm.1≤H.length+1:=(by omega);have gs: ∀x,(H.set nm x).get nm=some x:=fun x=>aj.dg x hnm;have C:=fun c (x y:ak) (H:aj) (hH:0<H.length)=>u6 (c:=c) (x:=x) (y:=y) (H:=H) hH;obtain⟨m,hm⟩: ∃m,P.length+L.length=m:=⟨_,rfl⟩
 induction k with
 |zero=>
  intro i j hk hij hj lo hi;obtain rfl:i=j:=(by omega);have h1':=h1 i hj lo hi;apply aw;conv=>arg 4;whnf
  simp [d1,d2,d4,d5];simpa using h1'
 |succ k ih=>
  intro i j hk hij hj lo hi;by_cases e:i=j
  ·subst e;have h1':=h1 i hj lo hi;apply aw;conv=>arg 4;whnf
   simp [d1,d2,d4,d5];simpa using h1'
  ·obtain⟨p,hpp⟩: ∃p,P.length=p:=⟨_,rfl⟩;obtain⟨h,hh⟩: ∃h,(p+i+(p+j))/2-p=h:=⟨_,rfl⟩;have hih:i≤h∧h<j:=(by omega);have hlt:h<L.length:=(by omega);obtain⟨R,hR⟩: ∃R,(P++L++x::Q).map ak.row=R:=⟨_,rfl⟩;have hRl:R.length=N:=(by rw [←hR];simp only [List.length_map,List.length_append,List.length_cons];omega);have g1:R[m]? =some x.row:=hR▸jZ (P:=P++L) (Q:=Q) rfl (by rw [List.length_append];exact hm.symm);obtain⟨y,hy⟩: ∃y,L[h]'hlt=y:=⟨_,rfl⟩;have g2:R[p+h]? =some y.row:=by
    obtain⟨T,D,e0,hT⟩: ∃T D,L=T++y::D∧T.length=h:=⟨L.take h,L.drop (h+1),by rw [←hy,←List.drop_eq_getElem_cons hlt,List.take_append_drop],by rw [List.length_take];omega⟩;exact hR▸jZ (P:=P++T) (Q:=D++x::Q) (by rw [e0];simp) (by simp only [List.length_append];omega)
   have G1: ∀h,R[m]'h=x.row:=fun h=>(by rw [List.getElem?_eq_getElem h]at g1;simpa using g1);have G2: ∀h',R[p+h]'h'=y.row:=fun h=>(by rw [List.getElem?_eq_getElem h]at g2;simpa using g2);have ih1:=ih (h+1) j (by omega) (by omega) hj;have ih2:=ih i h (by omega) (by omega) (by omega) lo;have hij':((p+i:Nat):Int)<((p+j:Nat):Int):=(by omega);rw [hR,hm]at h1 ih1 ih2⊢;rw [hpp]at h1 ih1 ih2⊢;apply aw;conv=>arg 4;whnf
   have hij2:i<j:=(by omega);have hf:=u7 (x:=(p:Int)+i+((p:Int)+j)) (n:=p+i+(p+j)) (by omega) (by omega);have ef:(p+i+(p+j))/2=p+h:=(by omega);rw [ef]at hf;have ecast:((p+h:Nat):Int)=(p:Int)+h:=(by omega);rw [ecast]at hf;have w1:=cu (x:=(p:Int)+h+1) (by omega) (by omega);have n1: ¬(p:Int)+h<0:=(by omega);have t1:Int.toNat ((p:Int)+h)=p+h:=(by omega);have m1:(p:Int)+h<N:=(by omega);have m2:p+h<N:=(by omega);have m3:m<N:=(by omega);have l9: ∀z:ak,z.row.length=9:=fun _=>rfl;have t9: ∀z:ak,List.take 9 z.row=z.row:=fun _=>rfl;by_cases hlt2:x.aR<y.aR
   ·have hc:nH x.aR y.aR<0:=(by unfold nH;rw [if_pos hlt2];omega);have ih2':=ih2 (fun q hq hqh=>by
     have:=nX hp hlt hq hqh;rw [hy]at this;omega)
    rw [ecast]at ih2';simp [d1,d2,d4,d5,l0,gs,hij',hij2,hRl,hv,C,G1,G2,hf,w1,n1,t1,m1,m2,m3,l9,t9,hc];simpa using ih2'
   ·have hc: ¬nH x.aR y.aR<0:=by
     unfold nH;rw [if_neg hlt2];split<;>omega
    have ih1':=ih1 (fun q hq hqh=>by
     rcases Nat.lt_or_ge q i with hqi|hqi
     ·exact lo q hq hqi
     ·have:=nX hp hq hlt (by omega);rw [hy]at this;omega) hi
    have ec:((p+(h+1):Nat):Int)=(p:Int)+h+1:=(by omega);rw [ec]at ih1';simp [d1,d2,d4,d5,l0,gs,hij',hij2,hRl,hv,C,G1,G2,hf,w1,n1,t1,m1,m2,m3,l9,t9,hc];simpa using ih1'
def qd (X:List ak)(i:Nat):Int:=(X.getD i cn).aR
theorem IS {nm:Nm} {N:Nat} (hn:N≤1000000) (hnm:nm.1<H.length) (X:List ak) (hl:X.length=N) {v:Nat} (hv:v≤N) {a m b mid n s0 r0:Nat} (hnn:n≤2000000) (hb0:r0<n) (hr: ∀q,s0≤q→q<r0→q<N∧n-1-q<N) (mono: ∀q q',s0≤q→q≤q'→q'<r0→qd X q≤qd X q'∧qd X (n-1-q')≤qd X (n-1-q)) (Q':GX→bP→Prop)
  (h1: ∀s,s0≤s→s≤r0→(s0<s→qd X (s-1)≤qd X (n-s))→(s<r0→qd X (n-1-s)<qd X s)→Q' (.exit 8) ⟨[(0, .aW nm 9 N 0 N),(1, .pure (.int .i64 a)),(2, .pure (.int .i64 m)),(3, .pure (.int .i64 b)),(4, .pure (.fn 107)),(18, .pure (.int .i64 mid)),(19, .pure (.int .i64 n)),(20, .pure (.int .i64 s))],[]::H.set nm (.arr 9 (X.map ak.row) v false),220⟩): ∀(k s r:Nat),r-s≤k→s0≤s→s≤r→r≤r0→(s0<s→qd X (s-1)≤qd X (n-s))→(r<r0→qd X (n-1-r)<qd X r)→
  fL KC au 152 (lp Tryz.f152 4) [0,1,2,3,4,18,19,20,21,22] [0,1,2,3,4,18,19,20] Q' [(0, .aW nm 9 N 0 N),(1, .pure (.int .i64 a)),(2, .pure (.int .i64 m)),(3, .pure (.int .i64 b)),(4, .pure (.fn 107)),(18, .pure (.int .i64 mid)),(19, .pure (.int .i64 n)),(20, .pure (.int .i64 s)),(21, .pure (.int .i64 r)),(22, .pure (.int .i64 ((n-1:Nat):Int)))] ([]::H.set nm (.arr 9 (X.map ak.row) v false)) 220:=by
 intro k;have l0: ∀x,(H.set nm x).length=H.length:=fun x=>aj.length_set _ _ _;have d1: ¬nm.1=H.length:=(by omega);have d2: ¬nm.1=H.length+1:=(by omega);have d4:nm.1≤H.length:=(by omega);have d5:nm.1≤H.length+1:=(by omega);have gs: ∀x,(H.set nm x).get nm=some x:=fun x=>aj.dg x hnm;have C:=fun c (x y:ak) (H:aj) (hH:0<H.length)=>u6 (c:=c) (x:=x) (y:=y) (H:=H) hH;have e0:((n-1:Nat):Int)=(n:Int)-1:=(by omega);rw [e0]
 induction k with
 |zero=>
  intro s r hk hs hsr hrr lo hi;obtain rfl:s=r:=(by omega);have h1':=h1 s hs hrr lo hi;apply aw;conv=>arg 4;whnf
  simp [d1,d2,d4,d5];simpa using h1'
 |succ k ih=>
  intro s r hk hs hsr hrr lo hi;by_cases e:s=r
  ·subst e;have h1':=h1 s hs hrr lo hi;apply aw;conv=>arg 4;whnf
   simp [d1,d2,d4,d5];simpa using h1'
  ·obtain⟨h,hh⟩: ∃h,(s+r)/2=h:=⟨_,rfl⟩;have hih:s≤h∧h<r:=(by omega);obtain⟨hN1,hN2⟩:=hr h (by omega) (by omega);obtain⟨z,hz⟩: ∃z,n-1-h=z:=⟨_,rfl⟩;rw [hz]at hN2;have q1:X.getD h cn=X[h]:=bc (by omega);have q2:X.getD z cn=X[z]:=bc (by omega);obtain⟨x,hx⟩: ∃x,X[z]'(by omega)=x:=⟨_,rfl⟩;obtain⟨y,hy⟩: ∃y,X[h]'(by omega)=y:=⟨_,rfl⟩;have a1:qd X h=y.aR:=(by unfold qd;rw [q1,hy]);have a2:qd X z=x.aR:=(by unfold qd;rw [q2,hx]);have G1: ∀h',X[z]'h'=x:=fun _=>hx;have G2: ∀h',X[h]'h'=y:=fun _=>hy;have ih1:=ih (h+1) r (by omega) (by omega) (by omega) hrr;have ih2:=ih s h (by omega) hs (by omega) (by omega) lo;have hf:=u7 (x:=(s:Int)+r) (n:=s+r) (by omega) (by omega);rw [hh]at hf;have w0:IntKind.i64.wrap ((n:Int)-1-h)=z:=(by rw [cu (by omega) (by omega)];omega);have w1:=cu (x:=(h:Int)+1) (by omega) (by omega);have hij2:s<r:=(by omega);have l9: ∀z:ak,z.row.length=9:=fun _=>rfl;have t9: ∀z:ak,List.take 9 z.row=z.row:=fun _=>rfl;apply aw;conv=>arg 4;whnf
   by_cases hlt2:x.aR<y.aR
   ·have hc:nH x.aR y.aR<0:=(by unfold nH;rw [if_pos hlt2];omega);have ih2':=ih2 (fun _=>by rw [hz,a1,a2];exact hlt2);simp [d1,d2,d4,d5,l0,gs,hij2,hl,hv,C,G1,G2,hf,w0,w1,hN1,hN2,l9,t9,hc];simpa using ih2'
   ·have hc: ¬nH x.aR y.aR<0:=by
     unfold nH;rw [if_neg hlt2];split<;>omega
    have ih1':=ih1 (fun _=>by
     have e1:h+1-1=h:=(by omega);have e2:n-(h+1)=z:=(by omega);rw [e1,e2,a1,a2];omega) hi
    have ec:((h+1:Nat):Int)=(h:Int)+1:=(by omega);rw [ec]at ih1';simp [d1,d2,d4,d5,l0,gs,hij2,hl,hv,C,G1,G2,hf,w0,w1,hN1,hN2,l9,t9,hc];simpa using ih1'
end
section
variable {c:Nat} {H:aj}
theorem EN {L:List ak}{i:Nat}{p:ak→Prop}:(∀q (h:q<L.length),q<i→p L[q])→ ∀r∈L.take i,p r:=fun h r hr=>by
 obtain⟨q,hq,rfl⟩:=List.getElem_of_mem hr;rw [List.length_take]at hq;rw [List.getElem_take];exact h q (by omega) (by omega)
theorem BE {L:List ak}{i:Nat}{p:ak→Prop}:(∀q (h:q<L.length),i≤q→p L[q])→ ∀r∈L.drop i,p r:=fun h r hr=>by
 obtain⟨q,hq,rfl⟩:=List.getElem_of_mem hr;rw [List.length_drop]at hq;rw [List.getElem_drop];exact h _ (by omega) (by omega)
theorem ad1 {nm:Nm}{N:Nat}(hn:N≤1000000)(hnm:nm.1<H.length)(P:List ak)(x:ak)(L Q:List ak)(hl:P.length+1+L.length+Q.length=N)(hp:L.Pairwise fun a b=>a.aR≤b.aR){v:Nat}(hv:v≤N)(a m b:Int)(ha:a=P.length)(hm:m=(P.length:Int)+1)(hb:b=(P.length:Int)+1+L.length):
  ∃v',v'≤N∧aI KC (aC KC) 152 [.aW nm 9 N 0 N, .pure (.int .i64 a), .pure (.int .i64 m), .pure (.int .i64 b), .pure (.fn 107)] c (H.set nm (.arr 9 ((P++x::(L++Q)).map ak.row) v false))=
   some (.pure (.tuple []),H.set nm (.arr 9 ((P++(a7 ([x]++L)++Q)).map ak.row) v' false)):=by
 suffices hs:ku (aI KC (aC KC) 152 [.aW nm 9 N 0 N, .pure (.int .i64 a), .pure (.int .i64 m), .pure (.int .i64 b), .pure (.fn 107)] c (H.set nm (.arr 9 ((P++x::(L++Q)).map ak.row) v false))) (fun r=> ∃v',v'≤N∧r=(.pure (.tuple []),H.set nm (.arr 9 ((P++(a7 ([x]++L)++Q)).map ak.row) v' false)))by
  obtain⟨r,hx,v',h1,h2⟩:=hs;exact⟨v',h1,by rw [hx,h2]⟩
 have hH:0<(H.set nm (.arr 9 ((P++x::(L++Q)).map ak.row) v false)).length:=(by rw [aj.length_set];omega);subst ha hm hb;obtain⟨Y,hY⟩: ∃Y,P++(a7 ([x]++L)++Q)=Y:=⟨_,rfl⟩;have BS:=fun Q' h1=>IL (H:=H) (nm:=nm) (N:=N) hn hnm P x L Q hl hp hv Q' h1 L.length 0 L.length (by omega) (by omega) (Nat.le_refl _) (fun q h h0=>by omega) (fun q h h0=>by omega);have SH:=fun(i:Nat) (hi:i≤L.length) Q' h1=>IM (H:=H) (nm:=nm) (N:=N) (i:=P.length+1+i) hn hnm P (L.drop i++Q) x Q' i [] (L.take i) v (by rw [List.length_take];omega) (by rw [List.length_append,List.length_take,List.length_drop];simp only [List.length_nil];omega) (by rw [List.length_take];simp only [List.length_nil];omega) hv h1;have e1: ∀i,P++[]++x::(L.take i++(L.drop i++Q))=P++x::(L++Q):=fun i=>(by rw [←List.append_assoc (L.take i),List.take_append_drop,List.append_nil]);have e2: ∀i,(∀q (h:q<L.length),q<i→L[q].aR<x.aR)→(∀q (h:q<L.length),i≤q→x.aR≤L[q].aR)→P++([]++L.take i)++x::(L.drop i++Q)=Y:=fun i h1 h2=>by
  have:=Dz (x:=x) (R1:=L.take i) (R2:=L.drop i) (by rw [List.take_append_drop];exact hp) (EN (p:=fun r=>r.aR<x.aR) h1) (BE (p:=fun r=>x.aR≤r.aR) h2);rw [List.take_append_drop]at this;rw [←hY,this];simp
 rw [hY];simp only [e1]at SH;generalize hR:(P++x::(L++Q)).map ak.row=R at BS SH hH⊢;have w1:IntKind.i64.wrap ((P.length:Int)+1-P.length)=1:=(by rw [cu (by omega) (by omega)];omega);refine a8 KC au Tryz.func152 rfl rfl zQ rfl rfl rfl (by simp) hH ?_;simp at BS;simp [w1];refine BS _ fun i hi hlo hhi=> ?_;have S:=SH i hi;rw [e2 i hlo hhi]at S;simp at S;simp;refine S _ fun v' hv'=> ?_;simp [aa,aj.length_set];exact⟨v',hv',rfl⟩
theorem ad2 {nm:Nm}{N:Nat}(hn:N≤1000000)(hnm:nm.1<H.length)(P:List ak)(x:ak)(L Q:List ak)(hL:2≤L.length)(hl:P.length+L.length+1+Q.length=N)(hp:L.Pairwise fun a b=>a.aR≤b.aR){v:Nat}(hv:v≤N)(a m b:Int)(ha:a=P.length)(hm:m=(P.length:Int)+L.length)(hb:b=(P.length:Int)+L.length+1):
  ∃v',v'≤N∧aI KC (aC KC) 152 [.aW nm 9 N 0 N, .pure (.int .i64 a), .pure (.int .i64 m), .pure (.int .i64 b), .pure (.fn 107)] c (H.set nm (.arr 9 ((P++L++x::Q).map ak.row) v false))=
   some (.pure (.tuple []),H.set nm (.arr 9 ((P++(a7 (L++[x])++Q)).map ak.row) v' false)):=by
 suffices hs:ku (aI KC (aC KC) 152 [.aW nm 9 N 0 N, .pure (.int .i64 a), .pure (.int .i64 m), .pure (.int .i64 b), .pure (.fn 107)] c (H.set nm (.arr 9 ((P++L++x::Q).map ak.row) v false))) (fun r=> ∃v',v'≤N∧r=(.pure (.tuple []),H.set nm (.arr 9 ((P++(a7 (L++[x])++Q)).map ak.row) v' false)))by
  obtain⟨r,hx,v',h1,h2⟩:=hs;exact⟨v',h1,by rw [hx,h2]⟩
 have hH:0<(H.set nm (.arr 9 ((P++L++x::Q).map ak.row) v false)).length:=(by rw [aj.length_set];omega);subst ha hm hb;obtain⟨Y,hY⟩: ∃Y,P++(a7 (L++[x])++Q)=Y:=⟨_,rfl⟩;have BS:=fun Q' h1=>IQ (H:=H) (nm:=nm) (N:=N) hn hnm P x L Q hl hp hv Q' h1 L.length 0 L.length (by omega) (by omega) (Nat.le_refl _) (fun q h h0=>by omega) (fun q h h0=>by omega);have SH:=fun(i:Nat) (hi:i≤L.length) Q' h1=>IP (H:=H) (nm:=nm) (N:=N) hn hnm (P++L.take i) Q x Q' (L.length-i) (L.drop i) [] v (by rw [List.length_drop]) (by rw [List.length_append,List.length_take,List.length_drop];simp only [List.length_nil];omega) hv h1;have e1: ∀i,P++L.take i++L.drop i++x::([]++Q)=P++L++x::Q:=fun i=>(by rw [List.append_assoc P,List.take_append_drop];rfl);have e2: ∀i,(∀q (h:q<L.length),q<i→L[q].aR≤x.aR)→(∀q (h:q<L.length),i≤q→x.aR<L[q].aR)→P++L.take i++x::((L.drop i++[])++Q)=Y:=fun i h1 h2=>by
  have:=merge_right (x:=x) (L1:=L.take i) (L2:=L.drop i) (by rw [List.take_append_drop];exact hp) (EN (p:=fun r=>r.aR≤x.aR) h1) (BE (p:=fun r=>x.aR<r.aR) h2);rw [List.take_append_drop]at this;rw [←hY,this];simp
 rw [hY];simp only [e1]at SH;generalize hR:(P++L++x::Q).map ak.row=R at BS SH hH⊢;have w1:IntKind.i64.wrap ((P.length:Int)+L.length-P.length)=L.length:=(by rw [cu (by omega) (by omega)];omega);have w2:IntKind.i64.wrap ((P.length:Int)+L.length+1-((P.length:Int)+L.length))=1:=(by rw [cu (by omega) (by omega)];omega);have hL1: ¬(L.length:Int)=1:=(by omega);have hL2: ¬L.length=1:=(by omega);refine a8 KC au Tryz.func152 rfl rfl zQ rfl rfl rfl (by simp) hH ?_;simp at BS;simp [w1,w2,hL1,hL2];refine BS _ fun i hi hlo hhi=> ?_;have S:=SH i hi;rw [e2 i hlo hhi,List.length_append,List.length_take,List.length_drop,Nat.min_eq_left hi,show P.length+i+(L.length-i)=P.length+L.length by omega]at S
 simp at S;simp;refine S _ fun v' hv'=> ?_;simp [aa,aj.length_set];exact⟨v',hv',rfl⟩
end
end Go.Gh
