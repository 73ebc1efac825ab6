/- Texts joined: the evaluator over ghost values, its soundness, the walks. Spaces struck and names made short by a program, for the size. -/
import Derived.Test.YtkcmcjohoockcaaGreatGc5j
import Derived.Test.YtkcmcjohoockcaaGreatGc5i
namespace Go.Gh
open Go.Proofs
set_option linter.unusedVariables false
set_option linter.unusedSimpArgs false
set_option linter.unnecessarySimpa false
set_option maxRecDepth 100000
set_option maxHeartbeats 8000000
section
variable {c:Nat} {H:aj}
theorem toR_loop {o:GV}(ai:List ak)(hal:ai.length≤1000000)(i:Nat)(hi:i<ai.length)(F:Fr)(hcl: ∀f2,clean (f2::[]::F::H) (H.length+1) o=o)(Q:GX→bN→Prop): ∀k j:Nat,j+k=ai.length→
  Q (.exit 2) ⟨[(2, .pure (.slice (ai.map ak.row))),(3, .aA (H.length,3) 0),(4, .aA (H.length,4) 0),(9,o),(10, .pure (.int .i64 i)),(11, .pure (.int .i64 ((j+((ai.drop j).takeWhile (a8 ai[i])).length:Nat):Int)))],[]::F::H,94⟩→
  fM KC au 80 (lp Tryz.f80 1) [2,3,4,9,10,11] [2,3,4,9,10,11] Q
   [(2, .pure (.slice (ai.map ak.row))),(3, .aA (H.length,3) 0),(4, .aA (H.length,4) 0),(9,o),(10, .pure (.int .i64 i)),(11, .pure (.int .i64 j))] ([]::F::H) 94:=by
 intro k
 induction k with
 |zero=>
  intro j hj h1;have e:ai.drop j=[]:=List.drop_of_length_le (by omega);rw [e]at h1;have hnl: ¬j<ai.length:=(by omega);apply ax;conv=>arg 4;whnf
  simp [hnl,hcl];simpa using h1
 |succ k ih=>
  intro j hj h1;have hja:j<ai.length:=(by omega);have hw:=cU (x:=(j:Int)+1) (by omega) (by omega);have ed:ai.drop j=ai[j]::ai.drop (j+1):=List.drop_eq_getElem_cons hja;rw [ed,List.takeWhile_cons]at h1;apply ax;conv=>arg 4;whnf
  cases he:(ai[j].bc==ai[i].bc)with
  |true=>
   rw [show a8 ai[i] ai[j]=true from he]at h1
   simp only [if_true,List.length_cons]at h1;have ih':=ih (j+1) (by omega) (by rw [show j+1+((ai.drop (j+1)).takeWhile (a8 ai[i])).length=j+(((ai.drop (j+1)).takeWhile (a8 ai[i])).length+1)by omega];exact h1)
   simp [hja,hi,bp,he,hw,hcl];simpa using ih'
  |false=>
   rw [show a8 ai[i] ai[j]=false from he]at h1
   simp [hja,hi,bp,he,hcl];simpa using h1
def sS (t:Touch):dF:= .box [.pure (.slice (t.ah.map aE)), .pure (.slice (t.aa.map aE)), .pure (.slice (t.cells.map aE))]
def HW (t:Touch):Prop:=t.ah.length≤2∧t.aa.length≤2∧t.cells.length≤2
theorem Cx {o a:GV} {F B:Fr} (t:Touch) (ht:HW t) (bs:List Touch) (hbs: ∀b∈bs,HW b) (hbl:bs.length≤1000000) (hb0:bs≠[]→B.get 80=some (.arr 3 (bs.map Touch.row) 0 false)) (e i:Nat)
  (hcl: ∀f3 f2,clean (f3::f2::B::F::H) (H.length+2) o=o) (hca: ∀f3 f2,clean (f3::f2::B::F::H) (H.length+2) a=a) (Q:GX→bN→Prop): ∀k j:Nat,j+k=bs.length→
  ((∀x∈bs.drop j,qK x t=false)→Q (.exit 6) ⟨[(2,a),(3, .aA (H.length,3) 0),(4, .aA (H.length,4) 0),(6,aN),(7,aN),(8,aN),(9,o),(11, .pure (.int .i64 e)),(12, .aA (H.length+1,12) 0),(13,cH (H.length+1,80) 3 (bs.map Touch.row)),(14, .pure (.int .i64 i)),(15, .aA (H.length+2,15) 0)],[(15,sS t)]::B::F::H,94⟩)→
  (¬(∀x∈bs.drop j,qK x t=false)→Q .ret ⟨[(2,a),(3, .aA (H.length,3) 0),(4, .aA (H.length,4) 0),(6, .aR),(7, .pure (.int .i64 i)),(8, .pure (.int .i64 12)),(9,o),(11, .pure (.int .i64 e)),(12, .aA (H.length+1,12) 0),(13,cH (H.length+1,80) 3 (bs.map Touch.row)),(14, .pure (.int .i64 i)),(15, .aA (H.length+2,15) 0)],[(15,sS t)]::B::F::H,94⟩)→
  fM KC au 80 (lp Tryz.f80 3) [2,3,4,9,11,12,13,14,15,16] [2,3,4,6,7,8,9,11,12,13,14,15] Q
   [(2,a),(3, .aA (H.length,3) 0),(4, .aA (H.length,4) 0),(9,o),(11, .pure (.int .i64 e)),(12, .aA (H.length+1,12) 0),(13,cH (H.length+1,80) 3 (bs.map Touch.row)),(14, .pure (.int .i64 i)),(15, .aA (H.length+2,15) 0),(16, .pure (.int .i64 j))] ([(15,sS t)]::B::F::H) 94:=by
 intro k;have ne1: ¬H.length+1=H.length+2:=(by omega);have ne2: ¬H.length+1=H.length+3:=(by omega);have ne3: ¬H.length=H.length+2:=(by omega);have ne4: ¬H.length=H.length+3:=by omega
 induction k with
 |zero=>
  intro j hj h1 h2;apply ax;conv=>arg 4;whnf
  have hnl: ¬j<bs.length:=(by omega);have ed:bs.drop j=[]:=List.drop_of_length_le (by omega);simp [hnl,hcl,hca];simpa [sS]using h1 (by rw [ed];simp)
 |succ k ih=>
  intro j hj h1 h2;have hja:j<bs.length:=(by omega);have hw:=cU (x:=(j:Int)+1) (by omega) (by omega);have ed:bs.drop j=bs[j]::bs.drop (j+1):=List.drop_eq_getElem_cons hja;have hne:bs≠[]:=fun h=>(by rw [h]at hja;simp at hja);have LI:=hb0 hne;have BV:=fun c (H:aj) (hH:0<H.length)=>FA (c:=c) (H:=H) (hbs bs[j] (List.getElem_mem hja)) ht hH;simp only [Touch.row]at BV;apply ax;conv=>arg 4;whnf
  cases hb:qK bs[j] t with
  |true=>
   rw [hb]at BV;have h2':=h2 (fun h=>by have:=h bs[j] (by rw [ed];exact List.mem_cons_self ..);rw [hb]at this;cases this);simp only [sS]at h2';simp [hja,LI,ne1,ne2,Touch.row,sS,BV,hcl,hca];simpa using h2'
  |false=>
   rw [hb]at BV;have ih':=ih (j+1) (by omega) (fun h=>h1 fun x hx=>by
    rw [ed]at hx;rcases List.mem_cons.1 hx with rfl|hx
    ·exact hb
    ·exact h x hx) (fun h=>h2 fun h'=>h fun x hx=>h' x (by rw [ed];exact List.mem_cons_of_mem _ hx))
   simp only [sS]at ih';simp [hja,LI,ne1,ne2,Touch.row,sS,BV,hw,hcl,hca];simpa [Touch.row]using ih'
end
section
variable {c:Nat} {H:aj}
theorem ud {nm:Nm}{es:Nat}{rows rows':List (List PV)}(h:rows.length=rows'.length):cH nm es rows=cH nm es rows':=by
 unfold cH;by_cases e:rows=[]
 ·subst e;have:rows'=[]:=List.eq_nil_of_length_eq_zero (by simpa using h.symm);rw [this]
 ·have:rows'≠[]:=fun x=>e (List.eq_nil_of_length_eq_zero (by rw [h,x];rfl));rw [if_neg e,if_neg this,h]
def xT:Nat:=24619
def vH:Nat:=41003
def yj:Nat:=57387
def FU (L:Nat)(s:az):dF:= .box [.aZ (L,xT) 1 s.ah.length 0 s.ah.length, .aZ (L,vH) 2 s.aq.length 0 s.aq.length,cH (L,yj) 2 (s.aa.map bm.row)]
def je (s:az):dF:= .box [.pure (.slice (s.ah.map aE)), .pure (.slice (s.aq.map aF.row)), .pure (.slice (s.aa.map bm.row))]
structure MR (L:Nat)(B:Fr)(bs:List Touch)(nx:az):Prop where
 gU:B.gU
 qQ:B.get 12=some (FU L nx)
 sc:SA B xT vH yj nx
 LI:bs≠[]→B.get 80=some (.arr 3 (bs.map Touch.row) 0 false)
 Ks:bs=[]→B.get 80=none
noncomputable def IL (s:az)(a:ak):Touch:=bX s a.aQ.toNat a
theorem FV {s:az}{p:List ak}{tk:List (Int×Int)}{a:ak}(h:sE s p tk):(∀x∈p.map (IL s),qK x (IL s a)=false)↔ ∀x∈dW s a.aQ.toNat a,x∉tk:=by
 constructor
 ·intro hb x hx hm;obtain⟨b,hb1,hb2⟩:=(h x).1 hm;have:=tV.1 (hb _ (List.mem_map_of_mem hb1));exact ry.1 this x hb2 hx
 ·intro hx x hxm;obtain⟨b,hb1,rfl⟩:=List.mem_map.1 hxm;exact tV.2 (ry.2 fun y h1 h2=>hx y h2 ((h y).2 ⟨b,hb1,h1⟩))
theorem Ay {r:aC}{w:Nat}{a:ak}(h:AB r w a):EvB r.ah.length r.aa.length w a:=
 ⟨h.aQ,h.hand,h.take,fun k=>by obtain⟨o,e,l,_⟩:=h.sA k;exact⟨o,e,l⟩⟩
theorem HX {r:aC} {s:az} (hS:gz r s) (hW:WB r) (hFu:Full s) {o:GV} {F:Fr} (g3:F.get 3=some (aD r)) (g4:F.get 4=some (je s)) (ai:List ak) (hal:ai.length≤1000000) (hA: ∀a∈ai,AB r a.aQ.toNat a) (e:Nat) (hel:e≤ai.length)
  (hcl: ∀f3 f2 f1,clean (f3::f2::f1::F::H) (H.length+2) o=o) (hcl1: ∀f2 f1,clean (f2::f1::F::H) (H.length+1) o=o) (Q:GX→bN→Prop):
  ∀(k i:Nat) (B:Fr) (p:List ak) (tk:List (Int×Int)) (nx:az),i+k=e→p.length≤i→MR (H.length+1) B (p.map (IL s)) nx→sE s p tk→qL r s p→nx=mG s p→
  ((cj r s ((ai.take e).drop i) tk nx i).2.2=0→ ∀B' bs',MR (H.length+1) B' bs' (cj r s ((ai.take e).drop i) tk nx i).1→Q (.exit 4) ⟨[(2, .pure (.slice (ai.map ak.row))),(3, .aA (H.length,3) 0),(4, .aA (H.length,4) 0),(6,aN),(7,aN),(8,aN),(9,o),(11, .pure (.int .i64 e)),(12, .aA (H.length+1,12) 0)],B'::F::H,94⟩)→
  ((cj r s ((ai.take e).drop i) tk nx i).2.2≠0→ ∀B',Q .ret ⟨[(2, .pure (.slice (ai.map ak.row))),(3, .aA (H.length,3) 0),(4, .aA (H.length,4) 0),(6, .aR),(7, .pure (.int .i64 (cj r s ((ai.take e).drop i) tk nx i).2.1)),(8, .pure (.int .i64 (cj r s ((ai.take e).drop i) tk nx i).2.2)),(9,o),(11, .pure (.int .i64 e)),(12, .aA (H.length+1,12) 0)],B'::F::H,94⟩)→
  fM KC au 80 (lp Tryz.f80 2) [2,3,4,9,11,12,13,14] [2,3,4,6,7,8,9,11,12] Q
   [(2, .pure (.slice (ai.map ak.row))),(3, .aA (H.length,3) 0),(4, .aA (H.length,4) 0),(9,o),(11, .pure (.int .i64 e)),(12, .aA (H.length+1,12) 0),(13,cH (H.length+1,80) 3 ((p.map (IL s)).map Touch.row)),(14, .pure (.int .i64 i))] (B::F::H) 94:=by
 intro k;have ne1: ¬H.length+1=H.length+2:=(by omega);have ne2: ¬H.length=H.length+1:=(by omega);have ne3: ¬H.length=H.length+2:=by omega
 induction k with
 |zero=>
  intro i B p tk nx hi hpl hM hT hG hnx h1 h2;apply ax;conv=>arg 4;whnf
  have hnl: ¬i<e:=(by omega);have ed:(ai.take e).drop i=[]:=List.drop_of_length_le (by simp;omega);rw [ed]at h1;simp [hnl,hcl,hcl1];exact h1 rfl B _ hM
 |succ k ih=>
  intro i B p tk nx hi hpl hM hT hG hnx h1 h2;have hie:i<e:=(by omega);have hia:i<ai.length:=(by omega);have hw:=cU (x:=(i:Int)+1) (by omega) (by omega);obtain⟨a,ha⟩: ∃a,ai[i]=a:=⟨_,rfl⟩;have ed:(ai.take e).drop i=a::(ai.take e).drop (i+1):=by
   rw [List.drop_eq_getElem_cons (by simp;omega)];simp [ha]
  have hAa:AB r a.aQ.toNat a:=hA a (ha▸List.getElem_mem hia);have hpW:=hW.w1;have hww:r.wide≠0:=(by omega);have hwl:=hAa.wl;have P:=fun c (H:aj) (hH:0<H.length)=>jG (c:=c) (H:=H) hS.toHe hwl hW.pl hww (Ay hAa) hH;have T:=fun c (H:aj) (hH:0<H.length)=>su (c:=c) (H:=H) (s:=s) (w:=a.aQ.toNat) (a:=a) (by rw [hS.pl];exact hwl) (by rw [hS.hl];exact hwl) hAa.aQ hAa.hand hH;rw [ed]at h1 h2;unfold cj at h1 h2;obtain⟨bs,hbs⟩: ∃bs,p.map (IL s)=bs:=⟨_,rfl⟩;have hbl:bs.length=p.length:=(by rw [←hbs];simp);have hbT: ∀b∈bs,HW b:=fun b hb=>by
   rw [←hbs]at hb;obtain⟨x,_,rfl⟩:=List.mem_map.1 hb;exact jY s x.aQ.toNat x
  have hit0:=FV (a:=a) hT;rw [hbs]at hM hit0⊢;apply ax;conv=>arg 4;whnf
  simp only [aD]at g3;simp only [je]at g4;rw [cI,bp]at P;rw [bp]at T;simp only [az.row]at P T
  cases hp:bW r s a.aQ.toNat a with
  |false=>
   rw [hp]at P;simp only [hp,if_true]at h2;have h2':=h2 (by decide) B;simp [hie,hia,ha,bp,ne1,ne2,ne3,g3,g4,P,hcl,hcl1];exact h2'
  |true=>
   rw [hp]at P;simp only [hp,Bool.true_eq_false,if_false]at h1 h2;obtain⟨t,ht⟩: ∃t,bX s a.aQ.toNat a=t:=⟨_,rfl⟩;have htl:HW t:=(by rw [←ht];exact jY s a.aQ.toNat a);have htO:IL s a=t:=ht;rw [ht]at T;simp only [Touch.row]at T;have L1:=fun Q=>Cx (H:=H) (o:=o) (a:= .pure (.slice (ai.map ak.row))) (F:=F) (B:=B) t htl bs hbT (by omega) hM.LI e i (fun f3 f2=>hcl f3 f2 B) (fun f3 f2=>by simp) Q bs.length 0 (by omega);simp only [List.drop_zero,sS]at L1;have hit:=hit0;rw [htO]at hit;simp [hie,hia,ha,bp,ne1,ne2,ne3,g3,g4,P,T,hcl,hcl1];refine L1 _ (fun hfr=> ?_) (fun hfr=> ?_)
   ·clear L1;have hfr':=hit.1 hfr;rw [if_pos hfr']at h1 h2;have hGs:qL r s (p++[a]):=hG.snoc hT hAa hp hfr';have hTs:sE s (p++[a]) (eZ tk (dW s a.aQ.toNat a)):=hT.snoc;have aft:=qL.after hS hGs;rw [←hnx]at aft;have hD:=lH aft.1 hAa aft.2;have b1:(bs.map Touch.row).length+1≤1000001:=(by simp;omega);have hbs2:(p++[a]).map (IL s)=bs++[t]:=(by simp [hbs,htO]);have AP:=fun(C:Fr)=>pZ (H':=C::B::F::H) (l:=H.length+1) (key:=80) (es:=3) (bytes:=72) (rows:=bs.map Touch.row) (r:=t.row) (fun h=>by
     have:=hM.Ks (by simpa using h);simp [ne1,this]) (fun h=>by
     have:=hM.LI (by intro x;exact h (by rw [x];rfl));simp [ne1,this]) (by simp) (by omega)
    have es:bs.map Touch.row++[t.row]=(bs++[t]).map Touch.row:=(by simp);rw [es]at AP;obtain⟨B1,hB1⟩: ∃B1,B.ins 80 (.arr 3 ((bs++[t]).map Touch.row) 0 false)=B1:=⟨_,rfl⟩;have o1: ∀k,k≠80→B1.get k=B.get k:=fun k hk=>(by rw [←hB1,Fr.aw _ hk]);have hs1:B1.gU:=(by rw [←hB1];exact Fr.cB hM.gU);have sc1:SA B1 xT vH yj nx:=hM.sc.other (o1 _ (by decide)) (o1 _ (by decide)) (o1 _ (by decide));have qQ:=(o1 12 (by decide)).trans hM.qQ;have g801:B1.get 80=some (.arr 3 ((bs++[t]).map Touch.row) 0 false):=(by rw [←hB1,Fr.a7]);have hset: ∀C:Fr,aj.set (C::B::F::H) (H.length+1,80) (.arr 3 ((bs++[t]).map Touch.row) 0 false)=C::B1::F::H:=fun C=>(by rw [←hB1];simp [ne1]);simp only [hset,Touch.row]at AP;obtain⟨B2,hs2,sc2,o2,ed2⟩:=Kd (H:=F::H) (L:=H.length+1) (by simp) (c:=86) (f0:=[(15,sS t)]) hs1 sc1 (show xT≠vH by decide) (show xT≠yj by decide) (show vH≠yj by decide) hD (by rw [aft.1.hl];exact hW.pl)
    have LD:=ig (s:=nx) (w:=a.aQ.toNat) (a:=a) hAa.kind;have ens:FU (H.length+1) (cX nx a.aQ.toNat a)=FU (H.length+1) nx:=by
     unfold FU;rw [LD.1,LD.2.1,ud (rows:=(cX nx a.aQ.toNat a).aa.map bm.row) (rows':=nx.aa.map bm.row) (by simp [LD.2.2])]
    have M2:MR (H.length+1) B2 (bs++[t]) (cX nx a.aQ.toNat a):={
     gU:=hs2
     qQ:=by rw [ens];exact(o2 12 (by decide) (by decide) (by decide)).trans qQ
     sc:=sc2
     LI:=fun _=>(o2 80 (by decide) (by decide) (by decide)).trans g801
     Ks:=fun h=>by simp at h}
    have ih':=ih (i+1) B2 (p++[a]) (eZ tk (dW s a.aQ.toNat a)) (cX nx a.aQ.toNat a) (by omega) (by simp;omega) (by rw [hbs2];exact M2) hTs hGs (by rw [hnx,jj];rfl) h1 h2;rw [hbs2]at ih';simp only [Ar,sS]at ed2;rw [bp]at ed2;simp only [FU]at qQ;simp [ne1,ne2,ne3,hia,ha,bp,AP,qQ,ed2,hw,hcl,hcl1];simpa using ih'
   ·clear L1;have hfr': ¬ ∀x∈dW s a.aQ.toNat a,x∉tk:=fun h=>hfr (hit.2 h);rw [if_neg hfr']at h2;have h2':=h2 (show (12:Int)≠0 by decide) B
    simp [hcl,hcl1];exact h2'
theorem mE {K:Ctx}{rec:Rec}{f:FuncId}{a b:List GV}(h:a.map canon=b.map canon):bF K rec f a c H=bF K rec f b c H:=by
 have hl:a.length=b.length:=(by have:=congrArg List.length h;simpa using this);unfold bF;rw [h,hl]
theorem oe {K:Ctx}{rec:Rec}{f:FuncId}{a b:List GV}(hc:K.xS f=false)(ha:(bu H a).2=H)(hb:(bu H b).2=H)(h:(bu H a).1.map canon=(bu H b).1.map canon)(h2:a.map canon=b.map canon):aL K rec f a c H=aL K rec f b c H:=by
 unfold aL;simp only [hc,Bool.false_and,Bool.false_eq_true,if_false,ha,hb,h];split
 ·rfl
 ·split
  ·exact mE h
  ·exact mE h2
theorem af6 {f:FuncId}{r p h a:PV}(hc:KC.xS f=false):aL KC (aG KC) f [.pure r, .agg [.pure p, .pure h, .aR], .pure a] c H=aL KC (aG KC) f [.pure r, .pure (.agg [p,h, .slice []]), .pure a] c H:=
 oe hc rfl rfl rfl rfl
theorem af7 {f:FuncId}{p h a:PV}(hc:KC.xS f=false):aL KC (aG KC) f [.agg [.pure p, .pure h, .aR], .pure a] c H=aL KC (aG KC) f [.pure (.agg [p,h, .slice []]), .pure a] c H:=
 oe hc rfl rfl rfl rfl
theorem af8 {f:FuncId}{p h:PV}(hc:KC.xS f=false):aL KC (aG KC) f [.agg [.pure p, .pure h, .aR]] c H=aL KC (aG KC) f [.pure (.agg [p,h, .slice []])] c H:=
 oe hc rfl rfl rfl rfl
theorem Er {r:aC} {s:az} (hS:gz r s) (hW:WB r) (hFu:Full s) {o:GV} {F:Fr} (g3:F.get 3=some (aD r)) (hst:s.aa=[]) (g4:F.get 4=some (.box [.pure (.slice (s.ah.map aE)), .pure (.slice (s.aq.map aF.row)), .aR])) (ai:List ak) (hal:ai.length≤1000000) (hA: ∀a∈ai,AB r a.aQ.toNat a) (e:Nat) (hel:e≤ai.length)
  (hcl: ∀f3 f2 f1,clean (f3::f2::f1::F::H) (H.length+2) o=o) (hcl1: ∀f2 f1,clean (f2::f1::F::H) (H.length+1) o=o) (Q:GX→bN→Prop):
  ∀(k i:Nat) (B:Fr) (p:List ak) (tk:List (Int×Int)) (nx:az),i+k=e→p.length≤i→MR (H.length+1) B (p.map (IL s)) nx→sE s p tk→qL r s p→nx=mG s p→
  ((cj r s ((ai.take e).drop i) tk nx i).2.2=0→ ∀B' bs',MR (H.length+1) B' bs' (cj r s ((ai.take e).drop i) tk nx i).1→Q (.exit 4) ⟨[(2, .pure (.slice (ai.map ak.row))),(3, .aA (H.length,3) 0),(4, .aA (H.length,4) 0),(6,aN),(7,aN),(8,aN),(9,o),(11, .pure (.int .i64 e)),(12, .aA (H.length+1,12) 0)],B'::F::H,94⟩)→
  ((cj r s ((ai.take e).drop i) tk nx i).2.2≠0→ ∀B',Q .ret ⟨[(2, .pure (.slice (ai.map ak.row))),(3, .aA (H.length,3) 0),(4, .aA (H.length,4) 0),(6, .aR),(7, .pure (.int .i64 (cj r s ((ai.take e).drop i) tk nx i).2.1)),(8, .pure (.int .i64 (cj r s ((ai.take e).drop i) tk nx i).2.2)),(9,o),(11, .pure (.int .i64 e)),(12, .aA (H.length+1,12) 0)],B'::F::H,94⟩)→
  fM KC au 80 (lp Tryz.f80 2) [2,3,4,9,11,12,13,14] [2,3,4,6,7,8,9,11,12] Q
   [(2, .pure (.slice (ai.map ak.row))),(3, .aA (H.length,3) 0),(4, .aA (H.length,4) 0),(9,o),(11, .pure (.int .i64 e)),(12, .aA (H.length+1,12) 0),(13,cH (H.length+1,80) 3 ((p.map (IL s)).map Touch.row)),(14, .pure (.int .i64 i))] (B::F::H) 94:=by
 intro k;have ne1: ¬H.length+1=H.length+2:=(by omega);have ne2: ¬H.length=H.length+1:=(by omega);have ne3: ¬H.length=H.length+2:=by omega
 induction k with
 |zero=>
  intro i B p tk nx hi hpl hM hT hG hnx h1 h2;apply ax;conv=>arg 4;whnf
  have hnl: ¬i<e:=(by omega);have ed:(ai.take e).drop i=[]:=List.drop_of_length_le (by simp;omega);rw [ed]at h1;simp [hnl,hcl,hcl1];exact h1 rfl B _ hM
 |succ k ih=>
  intro i B p tk nx hi hpl hM hT hG hnx h1 h2;have hie:i<e:=(by omega);have hia:i<ai.length:=(by omega);have hw:=cU (x:=(i:Int)+1) (by omega) (by omega);obtain⟨a,ha⟩: ∃a,ai[i]=a:=⟨_,rfl⟩;have ed:(ai.take e).drop i=a::(ai.take e).drop (i+1):=by
   rw [List.drop_eq_getElem_cons (by simp;omega)];simp [ha]
  have hAa:AB r a.aQ.toNat a:=hA a (ha▸List.getElem_mem hia);have hpW:=hW.w1;have hww:r.wide≠0:=(by omega);have hwl:=hAa.wl;have P:=fun c (H:aj) (hH:0<H.length)=>jG (c:=c) (H:=H) hS.toHe hwl hW.pl hww (Ay hAa) hH;have T:=fun c (H:aj) (hH:0<H.length)=>su (c:=c) (H:=H) (s:=s) (w:=a.aQ.toNat) (a:=a) (by rw [hS.pl];exact hwl) (by rw [hS.hl];exact hwl) hAa.aQ hAa.hand hH;rw [ed]at h1 h2;unfold cj at h1 h2;obtain⟨bs,hbs⟩: ∃bs,p.map (IL s)=bs:=⟨_,rfl⟩;have hbl:bs.length=p.length:=(by rw [←hbs];simp);have hbT: ∀b∈bs,HW b:=fun b hb=>by
   rw [←hbs]at hb;obtain⟨x,_,rfl⟩:=List.mem_map.1 hb;exact jY s x.aQ.toNat x
  have hit0:=FV (a:=a) hT;rw [hbs]at hM hit0⊢;apply ax;conv=>arg 4;whnf
  simp only [aD]at g3;rw [cI,bp]at P;rw [bp]at T;simp only [az.row,hst,List.map_nil]at P T;have P:=fun c (H:aj) (hH:0<H.length)=>(af6 (c:=c) (H:=H) (f:=84) rfl).trans (P c H hH);have T:=fun c (H:aj) (hH:0<H.length)=>(af7 (c:=c) (H:=H) (f:=88) rfl).trans (T c H hH)
  cases hp:bW r s a.aQ.toNat a with
  |false=>
   rw [hp]at P;simp only [hp,if_true]at h2;have h2':=h2 (by decide) B;simp [hie,hia,ha,bp,ne1,ne2,ne3,g3,g4,P,hcl,hcl1];exact h2'
  |true=>
   rw [hp]at P;simp only [hp,Bool.true_eq_false,if_false]at h1 h2;obtain⟨t,ht⟩: ∃t,bX s a.aQ.toNat a=t:=⟨_,rfl⟩;have htl:HW t:=(by rw [←ht];exact jY s a.aQ.toNat a);have htO:IL s a=t:=ht;rw [ht]at T;simp only [Touch.row]at T;have L1:=fun Q=>Cx (H:=H) (o:=o) (a:= .pure (.slice (ai.map ak.row))) (F:=F) (B:=B) t htl bs hbT (by omega) hM.LI e i (fun f3 f2=>hcl f3 f2 B) (fun f3 f2=>by simp) Q bs.length 0 (by omega);simp only [List.drop_zero,sS]at L1;have hit:=hit0;rw [htO]at hit;simp [hie,hia,ha,bp,ne1,ne2,ne3,g3,g4,P,T,hcl,hcl1];refine L1 _ (fun hfr=> ?_) (fun hfr=> ?_)
   ·clear L1;have hfr':=hit.1 hfr;rw [if_pos hfr']at h1 h2;have hGs:qL r s (p++[a]):=hG.snoc hT hAa hp hfr';have hTs:sE s (p++[a]) (eZ tk (dW s a.aQ.toNat a)):=hT.snoc;have aft:=qL.after hS hGs;rw [←hnx]at aft;have hD:=lH aft.1 hAa aft.2;have b1:(bs.map Touch.row).length+1≤1000001:=(by simp;omega);have hbs2:(p++[a]).map (IL s)=bs++[t]:=(by simp [hbs,htO]);have AP:=fun(C:Fr)=>pZ (H':=C::B::F::H) (l:=H.length+1) (key:=80) (es:=3) (bytes:=72) (rows:=bs.map Touch.row) (r:=t.row) (fun h=>by
     have:=hM.Ks (by simpa using h);simp [ne1,this]) (fun h=>by
     have:=hM.LI (by intro x;exact h (by rw [x];rfl));simp [ne1,this]) (by simp) (by omega)
    have es:bs.map Touch.row++[t.row]=(bs++[t]).map Touch.row:=(by simp);rw [es]at AP;obtain⟨B1,hB1⟩: ∃B1,B.ins 80 (.arr 3 ((bs++[t]).map Touch.row) 0 false)=B1:=⟨_,rfl⟩;have o1: ∀k,k≠80→B1.get k=B.get k:=fun k hk=>(by rw [←hB1,Fr.aw _ hk]);have hs1:B1.gU:=(by rw [←hB1];exact Fr.cB hM.gU);have sc1:SA B1 xT vH yj nx:=hM.sc.other (o1 _ (by decide)) (o1 _ (by decide)) (o1 _ (by decide));have qQ:=(o1 12 (by decide)).trans hM.qQ;have g801:B1.get 80=some (.arr 3 ((bs++[t]).map Touch.row) 0 false):=(by rw [←hB1,Fr.a7]);have hset: ∀C:Fr,aj.set (C::B::F::H) (H.length+1,80) (.arr 3 ((bs++[t]).map Touch.row) 0 false)=C::B1::F::H:=fun C=>(by rw [←hB1];simp [ne1]);simp only [hset,Touch.row]at AP;obtain⟨B2,hs2,sc2,o2,ed2⟩:=Kd (H:=F::H) (L:=H.length+1) (by simp) (c:=86) (f0:=[(15,sS t)]) hs1 sc1 (show xT≠vH by decide) (show xT≠yj by decide) (show vH≠yj by decide) hD (by rw [aft.1.hl];exact hW.pl)
    have LD:=ig (s:=nx) (w:=a.aQ.toNat) (a:=a) hAa.kind;have ens:FU (H.length+1) (cX nx a.aQ.toNat a)=FU (H.length+1) nx:=by
     unfold FU;rw [LD.1,LD.2.1,ud (rows:=(cX nx a.aQ.toNat a).aa.map bm.row) (rows':=nx.aa.map bm.row) (by simp [LD.2.2])]
    have M2:MR (H.length+1) B2 (bs++[t]) (cX nx a.aQ.toNat a):={
     gU:=hs2
     qQ:=by rw [ens];exact(o2 12 (by decide) (by decide) (by decide)).trans qQ
     sc:=sc2
     LI:=fun _=>(o2 80 (by decide) (by decide) (by decide)).trans g801
     Ks:=fun h=>by simp at h}
    have ih':=ih (i+1) B2 (p++[a]) (eZ tk (dW s a.aQ.toNat a)) (cX nx a.aQ.toNat a) (by omega) (by simp;omega) (by rw [hbs2];exact M2) hTs hGs (by rw [hnx,jj];rfl) h1 h2;rw [hbs2]at ih';simp only [Ar,sS]at ed2;rw [bp]at ed2;simp only [FU]at qQ;simp [ne1,ne2,ne3,hia,ha,bp,AP,qQ,ed2,hw,hcl,hcl1];simpa using ih'
   ·clear L1;have hfr': ¬ ∀x∈dW s a.aQ.toNat a,x∉tk:=fun h=>hfr (hit.2 h);rw [if_neg hfr']at h2;have h2':=h2 (show (12:Int)≠0 by decide) B
    simp [hcl,hcl1];exact h2'
end
section
variable {c:Nat} {H:aj}
theorem xm {r:aC}{s:az}: ∀{g:List ak} {tk:List (Int×Int)} {nx:az} {i d:Nat},(cj r s g tk nx (i+d)).1=(cj r s g tk nx i).1∧(cj r s g tk nx (i+d)).2.2=(cj r s g tk nx i).2.2∧((cj r s g tk nx i).2.2≠0→(cj r s g tk nx (i+d)).2.1=(cj r s g tk nx i).2.1+d)
 | [],_,_,_,_=>⟨rfl,rfl,fun h=>absurd rfl h⟩
 |a::g,tk,nx,i,d=>by
  unfold cj;by_cases h1:bW r s a.aQ.toNat a=false
  ·rw [if_pos h1,if_pos h1];exact⟨rfl,rfl,fun _=>by simp⟩
  ·rw [if_neg h1,if_neg h1];by_cases h2: ∀x∈dW s a.aQ.toNat a,x∉tk
   ·rw [if_pos h2,if_pos h2,show i+d+1=(i+1)+d by omega]
    exact xm
   ·rw [if_neg h2,if_neg h2];exact⟨rfl,rfl,fun _=>by simp⟩
def qA (s:az):dF:= .box [.pure (.slice (s.ah.map aE)), .pure (.slice (s.aq.map aF.row)), .aR]
def Az:Bool→az→dF|true,s=>qA s|false,s=>je s
def iU (b:Bool)(r:aC)(s:az)(out:List az):Fr:=eG 92 3 (out.map az.row) [(3,aD r),(4,Az b s)]
theorem Kt {r:aC}(hW:WB r)(ai:List ak)(hal:ai.length≤1000000)(hA: ∀a∈ai,AB r a.aQ.toNat a)(Q:GX→bN→Prop): ∀(k i:Nat) (b:Bool) (s:az) (out:List az),ai.length-i≤k→i≤ai.length→out.length≤i→gz r s→Full s→(b=true→s.aa=[])→
  ((bM r k s (ai.drop i) i).2.2.2=0→ ∀b',Q (.exit 0) ⟨[(6,aN),(7,aN),(8,aN),(9,cH (H.length,92) 3 ((out++(bM r k s (ai.drop i) i).1).map az.row))],iU b' r (bM r k s (ai.drop i) i).2.1 (out++(bM r k s (ai.drop i) i).1)::H,94⟩)→
  ((bM r k s (ai.drop i) i).2.2.2≠0→ ∀g F',Q .ret ⟨[(6, .aR),(7, .pure (.int .i64 (bM r k s (ai.drop i) i).2.2.1)),(8, .pure (.int .i64 (bM r k s (ai.drop i) i).2.2.2)),(9,g)],F'::H,94⟩)→
  fM KC au 80 (lp Tryz.f80 0) [2,3,4,9,10] [6,7,8,9] Q
   [(2, .pure (.slice (ai.map ak.row))),(3, .aA (H.length,3) 0),(4, .aA (H.length,4) 0),(9,cH (H.length,92) 3 (out.map az.row)),(10, .pure (.int .i64 i))] (iU b r s out::H) 94:=by
 intro k;have ne1: ¬H.length=H.length+1:=(by omega);have ne2: ¬H.length+1=H.length:=(by omega);have ne3: ¬H.length+1≤H.length:=by omega
 induction k with
 |zero=>
  intro i b s out hk hi hol hS hF hb h1 h2;have hnl: ¬i<ai.length:=(by omega);apply ax;conv=>arg 4;whnf
  simp [bM]at h1;simp [hnl]
  cases b with
  |true=>simpa using h1.2
  |false=>simpa using h1.1
 |succ k ih=>
  intro i b s out hk hi hol hS hF hb h1 h2;by_cases hia:i<ai.length
  ·have ed:ai.drop i=ai[i]::ai.drop (i+1):=List.drop_eq_getElem_cons hia;obtain⟨a,ha⟩: ∃a,ai[i]=a:=⟨_,rfl⟩;rw [ha]at ed;obtain⟨gr,hgr⟩: ∃gr,(a::ai.drop (i+1)).takeWhile (a8 a)=gr:=⟨_,rfl⟩;have hg1:1≤gr.length:=by
    rw [←hgr,List.takeWhile_cons,show a8 a a=true from by simp [a8]]
    simp
   have hgp:gr<+:ai.drop i:=(by rw [ed,←hgr];exact List.takeWhile_prefix _);have hgl:i+gr.length≤ai.length:=(by have:=hgp.length_le;simp at this;omega);have hgt:gr=(ai.drop i).take gr.length:=List.prefix_iff_eq_take.1 hgp;have hgA: ∀b∈gr,AB r b.aQ.toNat b:=fun b hb=>hA b (List.mem_of_mem_drop (hgp.subset hb));have hsl:(ai.take (i+gr.length)).drop i=gr:=(by rw [List.drop_take,Nat.add_sub_cancel_left];exact hgt.symm);obtain⟨m,hm⟩: ∃m,cj r s gr [] s 0=m:=⟨_,rfl⟩;have hbad:=wN (r:=r) (s:=s) (g:=gr) (tk:=[]) (nx:=s) (i:=0);have hgood:=qk (r:=r) (s:=s) (g:=gr) (p:=[]) (tk:=[]) (nx:=s) (i:=0) (fun x=>by simp) ⟨fun a ha=>by simp at ha,by simp⟩ rfl hgA;have hsh:=xm (r:=r) (s:=s) (g:=gr) (tk:=[]) (nx:=s) (i:=0) (d:=i);rw [Nat.zero_add]at hsh;rw [hm]at hbad hgood hsh;rw [ed]at h1 h2;unfold bM at h1 h2;simp only [hgr,hm]at h1 h2;have o0: ∀f2:Fr,clean (f2::[]::iU b r s out::H) (H.length+1) (cH (H.length,92) 3 (out.map az.row))=cH (H.length,92) 3 (out.map az.row):=fun f2=>(by simp);have L1:=fun Q=>toR_loop (H:=H) (o:=cH (H.length,92) 3 (out.map az.row)) ai hal i hia (iU b r s out) o0 Q (ai.length-i) i (by omega);rw [ed,ha,hgr]at L1;obtain⟨e,hee⟩: ∃e,i+gr.length=e:=⟨_,rfl⟩;rw [hee]at L1 hsl hgl;have q1:ao 42 6=xT:=(by decide);have q2:ao 42 10=vH:=(by decide);have q3:ao 42 14=yj:=(by decide);have O:=FQ (c:=42) (H:=[]::iU b r s out::H) (s:=s) hF (by simp) (by simp [ne2]) (by simp [ne2]) (by simp [ne2]);simp only [List.length_cons,Nat.add_sub_cancel,q1,q2,q3]at O;obtain⟨B0,hB0⟩: ∃B0:Fr,eG yj 2 (s.aa.map bm.row) [(xT, .arr 1 (s.ah.map aE) 0 false),(vH, .arr 2 (s.aq.map aF.row) 0 false)]=B0:=⟨_,rfl⟩;have hO:gT (aj.set (aj.set ([]::iU b r s out::H) (H.length+1,xT) (.arr 1 (s.ah.map aE) 0 false)) (H.length+1,vH) (.arr 2 (s.aq.map aF.row) 0 false)) (H.length+1,yj) 2 (s.aa.map bm.row)=B0::iU b r s out::H:=by
    rw [←hB0];have:aj.set (aj.set ([]::iU b r s out::H) (H.length+1,xT) (.arr 1 (s.ah.map aE) 0 false)) (H.length+1,vH) (.arr 2 (s.aq.map aF.row) 0 false)=[(xT, .arr 1 (s.ah.map aE) 0 false),(vH, .arr 2 (s.aq.map aF.row) 0 false)]::iU b r s out::H:=by
     simp [ne2,xT,vH]
    rw [this];exact sQ (by simp)
   rw [hO]at O;have b0s:B0.gU:=(by rw [←hB0];exact AA (by simp [Fr.gU,xT,vH]));have b0_1:B0.get xT=some (.arr 1 (s.ah.map aE) 0 false):=(by rw [←hB0,bE (by decide)];simp);have b0_2:B0.get vH=some (.arr 2 (s.aq.map aF.row) 0 false):=(by rw [←hB0,bE (by decide)];simp [xT,vH]);have b0_3:s.aa≠[]→B0.get yj=some (.arr 2 (s.aa.map bm.row) 0 false):=fun h=>(by rw [←hB0,dg (by simpa using h)]);have b0_n: ∀k,k≠xT→k≠vH→k≠yj→B0.get k=none:=fun k h1 h2 h3=>(by rw [←hB0,bE h3];simp [h1,h2]);have b0_12:=b0_n 12 (by decide) (by decide) (by decide);obtain⟨B1,hB1⟩: ∃B1,B0.ins 12 (FU (H.length+1) s)=B1:=⟨_,rfl⟩;have o1: ∀k,k≠12→B1.get k=B0.get k:=fun k hk=>by rw [←hB1,Fr.aw _ hk]
   have M1:MR (H.length+1) B1 [] s:={
    gU:=by rw [←hB1];exact Fr.cB b0s
    qQ:=by rw [←hB1,Fr.a7]
    sc:=⟨⟨0,Nat.zero_le _,(o1 _ (by decide)).trans b0_1⟩,⟨0,Nat.zero_le _,(o1 _ (by decide)).trans b0_2⟩,fun h=>⟨0,Nat.zero_le _,(o1 _ (by decide)).trans (b0_3 h)⟩⟩
    LI:=fun h=>absurd rfl h
    Ks:=fun _=>(o1 80 (by decide)).trans (b0_n 80 (by decide) (by decide) (by decide))}
   cases b with
   |false=>
    have L2:=fun Q=>HX (H:=H) hS hW hF (o:=cH (H.length,92) 3 (out.map az.row)) (F:=iU false r s out) (by unfold iU;rw [bE (by decide)];rfl) (by unfold iU;rw [bE (by decide)];rfl) ai hal hA e hgl (fun f3 f2 f1=>by simp) (fun f2 f1=>by simp) Q gr.length i B1 [] [] s (by omega) (Nat.zero_le _) M1 (fun x=>by simp) ⟨fun a ha=>by simp at ha,by simp⟩ rfl;simp only [List.map_nil,ff,hsl]at L2;have hle:i≤e:=(by omega);have hsr:s.row=[.slice (s.ah.map aE), .slice (s.aq.map aF.row), .slice (s.aa.map bm.row)]:=rfl;rw [hsr]at O;apply ax;conv=>arg 4;whnf
    simp [hia];refine L1 _ ?_;clear L1;have gF3:(iU false r s out).get 3=some (aD r):=(by unfold iU;rw [bE (by decide)];rfl);have gF4:(iU false r s out).get 4=some (je s):=(by unfold iU;rw [bE (by decide)];rfl);have iF4: ∀x,(iU false r s out).ins 4 (je x)=iU false r x out:=fun x=>(by unfold iU;rw [r8 (by decide)];rfl);have iF4n: ∀x,(iU false r s out).ins 4 (qA x)=iU true r x out:=fun x=>(by unfold iU;rw [r8 (by decide)];rfl);simp only [je]at gF4 iF4;simp only [qA]at iF4n;simp only [FU]at hB1;simp only [Ar]at O;generalize hRF:iU false r s out=RF at O L2 gF3 gF4 iF4 iF4n⊢;simp [ne1,ne2,gF4,O,b0_12,Fr.a7,Fr.fe,hB1];refine L2 _ (fun he B' bs' M'=> ?_) (fun he B'=> ?_)
    ·clear L2;rw [hsh.2.1]at he;obtain⟨hG,hx1⟩:=hgood he;obtain⟨x1,x2,x3⟩:=m;simp only at he hx1 h1 h2 hsh;subst he;rw [hsh.1]at M';have hS1:gz r x1:=(by rw [hx1];exact hG.snd hS);have hF1:=kT hS hS1 hF;simp only [ne_eq,not_true_eq_false,if_false]at h1 h2;have edr:(a::ai.drop (i+1)).drop gr.length=ai.drop (i+gr.length):=(by rw [←ed,List.drop_drop]);rw [edr,hee]at h1 h2;have ihb:=fun b' hb'=>ih e b' x1 (out++[x1]) (by omega) hgl (by simp;omega) hS1 hF1 hb' (fun h=>by rw [List.append_assoc];exact h1 h) (fun h=>h2 h);have qQ:=M'.qQ;obtain⟨v1,a1,b1⟩:=M'.sc.h1;obtain⟨v2,a2,b2⟩:=M'.sc.h2;have h3:=M'.sc.h3;have G21: ∀x,(B'.ins xT x).get vH=B'.get vH:=fun x=>Fr.aw _ (by decide) _;have G31: ∀x y,((B'.ins xT x).ins vH y).get yj=B'.get yj:=fun x y=>(by rw [Fr.aw _ (by decide),Fr.aw _ (by decide)]);have t1:List.take x1.ah.length (x1.ah.map aE)=x1.ah.map aE:=List.take_of_length_le (by simp);have t2:List.take x1.aq.length (x1.aq.map aF.row)=x1.aq.map aF.row:=List.take_of_length_le (by simp);have t3:List.take x1.aa.length (x1.aa.map bm.row)=x1.aa.map bm.row:=List.take_of_length_le (by simp);simp only [FU]at qQ;by_cases t0:x1.aa=[]
     ·have ih':=ihb true (fun _=>t0);have AP:=fun(f0:Fr)=>vR (H:=H) (l:=H.length) (key:=92) (es:=3) (bytes:=72) (rows:=out.map az.row) (r:=x1.row) (fr:=[(3,aD r),(4,qA x1)]) (f0:=f0) rfl rfl (by simp;omega);have gx4:(iU true r x1 out).get 4=some (qA x1):=(by unfold iU;rw [bE (by decide)];rfl);have eqF: ∀f0:Fr,f0::eG 92 3 (out.map az.row++[x1.row]) [(3,aD r),(4,qA x1)]::H=f0::iU true r x1 (out++[x1])::H:=fun f0=>(by simp [iU,Az]);have eqF0: ∀f0:Fr,f0::eG 92 3 (out.map az.row) [(3,aD r),(4,qA x1)]::H=f0::iU true r x1 out::H:=fun f0=>(by simp [iU,Az]);simp only [eqF,eqF0]at AP;simp only [az.row]at AP;simp only [qA]at gx4;have iF4':=iF4n x1;simp only [t0,List.map_nil,ff]at qQ AP;simp [ne1,ne2,ne3,qQ,b1,b2,a1,a2,G21,t1,t2,gF4,aI,iF4',gx4,AP];simpa [az.row,t0]using ih'
     ·obtain⟨v3,a3,b3⟩:=h3 t0;have ih':=ihb false (fun h=>by cases h);have AP:=fun(f0:Fr)=>vR (H:=H) (l:=H.length) (key:=92) (es:=3) (bytes:=72) (rows:=out.map az.row) (r:=x1.row) (fr:=[(3,aD r),(4,je x1)]) (f0:=f0) rfl rfl (by simp;omega);have gx4:(iU false r x1 out).get 4=some (je x1):=(by unfold iU;rw [bE (by decide)];rfl);have eqF: ∀f0:Fr,f0::eG 92 3 (out.map az.row++[x1.row]) [(3,aD r),(4,je x1)]::H=f0::iU false r x1 (out++[x1])::H:=fun f0=>(by simp [iU,Az]);have eqF0: ∀f0:Fr,f0::eG 92 3 (out.map az.row) [(3,aD r),(4,je x1)]::H=f0::iU false r x1 out::H:=fun f0=>(by simp [iU,Az]);simp only [eqF,eqF0]at AP;simp only [az.row]at AP;simp only [je]at gx4;have iF4':=iF4 x1;have eS:cH (H.length+1,yj) 2 (x1.aa.map bm.row)= .aZ (H.length+1,yj) 2 x1.aa.length 0 x1.aa.length:=by
       unfold cH;rw [if_neg (by simpa using t0)];simp
      rw [eS]at qQ;simp [ne1,ne2,ne3,qQ,b1,b2,b3,a1,a2,a3,G21,G31,t1,t2,t3,gF4,aI,iF4',gx4,AP];simpa [az.row]using ih'
    ·clear L2;rw [hsh.2.1]at he;rw [hsh.2.1,hsh.2.2 he];have he':m.2.2≠0:=he;rw [if_pos he']at h2;have h2':=h2 he';simp only at h2';rw [Int.add_comm]at h2';simp [ne1,ne2];exact h2' _ _
   |true=>
    have hst:=hb rfl;have L2:=fun Q=>Er (H:=H) hS hW hF (o:=cH (H.length,92) 3 (out.map az.row)) (F:=iU true r s out) (by unfold iU;rw [bE (by decide)];rfl) hst (by unfold iU;rw [bE (by decide)];rfl) ai hal hA e hgl (fun f3 f2 f1=>by simp) (fun f2 f1=>by simp) Q gr.length i B1 [] [] s (by omega) (Nat.zero_le _) M1 (fun x=>by simp) ⟨fun a ha=>by simp at ha,by simp⟩ rfl;simp only [List.map_nil,ff,hsl]at L2;have hle:i≤e:=(by omega);have hsr:s.row=[.slice (s.ah.map aE), .slice (s.aq.map aF.row), .slice (s.aa.map bm.row)]:=rfl;rw [hsr]at O;simp only [hst,List.map_nil]at O;have O:=(af8 (c:=42) (f:=50) (by rfl)).trans O;apply ax;conv=>arg 4;whnf
    simp [hia];refine L1 _ ?_;clear L1;have gF3:(iU true r s out).get 3=some (aD r):=(by unfold iU;rw [bE (by decide)];rfl);have gF4:(iU true r s out).get 4=some (qA s):=(by unfold iU;rw [bE (by decide)];rfl);have iF4: ∀x,(iU true r s out).ins 4 (je x)=iU false r x out:=fun x=>(by unfold iU;rw [r8 (by decide)];rfl);have iF4n: ∀x,(iU true r s out).ins 4 (qA x)=iU true r x out:=fun x=>(by unfold iU;rw [r8 (by decide)];rfl);simp only [je]at iF4;simp only [qA]at gF4 iF4n;simp only [FU]at hB1;simp only [Ar]at O;generalize hRF:iU true r s out=RF at O L2 gF3 gF4 iF4 iF4n⊢;simp [ne1,ne2,gF4,O,b0_12,Fr.a7,Fr.fe,hB1];refine L2 _ (fun he B' bs' M'=> ?_) (fun he B'=> ?_)
    ·clear L2;rw [hsh.2.1]at he;obtain⟨hG,hx1⟩:=hgood he;obtain⟨x1,x2,x3⟩:=m;simp only at he hx1 h1 h2 hsh;subst he;rw [hsh.1]at M';have hS1:gz r x1:=(by rw [hx1];exact hG.snd hS);have hF1:=kT hS hS1 hF;simp only [ne_eq,not_true_eq_false,if_false]at h1 h2;have edr:(a::ai.drop (i+1)).drop gr.length=ai.drop (i+gr.length):=(by rw [←ed,List.drop_drop]);rw [edr,hee]at h1 h2;have ihb:=fun b' hb'=>ih e b' x1 (out++[x1]) (by omega) hgl (by simp;omega) hS1 hF1 hb' (fun h=>by rw [List.append_assoc];exact h1 h) (fun h=>h2 h);have qQ:=M'.qQ;obtain⟨v1,a1,b1⟩:=M'.sc.h1;obtain⟨v2,a2,b2⟩:=M'.sc.h2;have h3:=M'.sc.h3;have G21: ∀x,(B'.ins xT x).get vH=B'.get vH:=fun x=>Fr.aw _ (by decide) _;have G31: ∀x y,((B'.ins xT x).ins vH y).get yj=B'.get yj:=fun x y=>(by rw [Fr.aw _ (by decide),Fr.aw _ (by decide)]);have t1:List.take x1.ah.length (x1.ah.map aE)=x1.ah.map aE:=List.take_of_length_le (by simp);have t2:List.take x1.aq.length (x1.aq.map aF.row)=x1.aq.map aF.row:=List.take_of_length_le (by simp);have t3:List.take x1.aa.length (x1.aa.map bm.row)=x1.aa.map bm.row:=List.take_of_length_le (by simp);simp only [FU]at qQ;by_cases t0:x1.aa=[]
     ·have ih':=ihb true (fun _=>t0);have AP:=fun(f0:Fr)=>vR (H:=H) (l:=H.length) (key:=92) (es:=3) (bytes:=72) (rows:=out.map az.row) (r:=x1.row) (fr:=[(3,aD r),(4,qA x1)]) (f0:=f0) rfl rfl (by simp;omega);have gx4:(iU true r x1 out).get 4=some (qA x1):=(by unfold iU;rw [bE (by decide)];rfl);have eqF: ∀f0:Fr,f0::eG 92 3 (out.map az.row++[x1.row]) [(3,aD r),(4,qA x1)]::H=f0::iU true r x1 (out++[x1])::H:=fun f0=>(by simp [iU,Az]);have eqF0: ∀f0:Fr,f0::eG 92 3 (out.map az.row) [(3,aD r),(4,qA x1)]::H=f0::iU true r x1 out::H:=fun f0=>(by simp [iU,Az]);simp only [eqF,eqF0]at AP;simp only [az.row]at AP;simp only [qA]at gx4;have iF4':=iF4n x1;simp only [t0,List.map_nil,ff]at qQ AP;simp [ne1,ne2,ne3,qQ,b1,b2,a1,a2,G21,t1,t2,gF4,aI,iF4',gx4,AP];simpa [az.row,t0]using ih'
     ·obtain⟨v3,a3,b3⟩:=h3 t0;have ih':=ihb false (fun h=>by cases h);have AP:=fun(f0:Fr)=>vR (H:=H) (l:=H.length) (key:=92) (es:=3) (bytes:=72) (rows:=out.map az.row) (r:=x1.row) (fr:=[(3,aD r),(4,je x1)]) (f0:=f0) rfl rfl (by simp;omega);have gx4:(iU false r x1 out).get 4=some (je x1):=(by unfold iU;rw [bE (by decide)];rfl);have eqF: ∀f0:Fr,f0::eG 92 3 (out.map az.row++[x1.row]) [(3,aD r),(4,je x1)]::H=f0::iU false r x1 (out++[x1])::H:=fun f0=>(by simp [iU,Az]);have eqF0: ∀f0:Fr,f0::eG 92 3 (out.map az.row) [(3,aD r),(4,je x1)]::H=f0::iU false r x1 out::H:=fun f0=>(by simp [iU,Az]);simp only [eqF,eqF0]at AP;simp only [az.row]at AP;simp only [je]at gx4;have iF4':=iF4 x1;have eS:cH (H.length+1,yj) 2 (x1.aa.map bm.row)= .aZ (H.length+1,yj) 2 x1.aa.length 0 x1.aa.length:=by
       unfold cH;rw [if_neg (by simpa using t0)];simp
      rw [eS]at qQ;simp [ne1,ne2,ne3,qQ,b1,b2,b3,a1,a2,a3,G21,G31,t1,t2,t3,gF4,aI,iF4',gx4,AP];simpa [az.row]using ih'
    ·clear L2;rw [hsh.2.1]at he;rw [hsh.2.1,hsh.2.2 he];have he':m.2.2≠0:=he;rw [if_pos he']at h2;have h2':=h2 he';simp only at h2';rw [Int.add_comm]at h2';simp [ne1,ne2];exact h2' _ _
  ·have e:ai.drop i=[]:=List.drop_of_length_le (by omega);rw [e]at h1;apply ax;conv=>arg 4;whnf
   simp [bM]at h1;simp [hia]
   cases b with
   |true=>simpa using h1.2
   |false=>simpa using h1.1
end
section
variable {c:Nat} {H:aj}
theorem Es (r:aC)(s:az)(hn:s.aq.length≤1000000)(Q:GX→bN→Prop): ∀k i:Nat,i+k=s.aq.length→
  ((∀j,i≤j→j<s.aq.length→s.aq.getD j bH=empty)→Q (.exit 0) ⟨[(2, .aA (H.length,2) 0),(3, .aA (H.length,3) 0),(4,aN)],[(2,aD r),(3,je s)]::H,47⟩)→
  (¬(∀j,i≤j→j<s.aq.length→s.aq.getD j bH=empty)→Q .ret ⟨[(2, .aA (H.length,2) 0),(3, .aA (H.length,3) 0),(4, .pure (.bool false))],[(2,aD r),(3,je s)]::H,47⟩)→
  fM KC au 98 (lp Tryz.f98 0) [2,3,5] [2,3,4] Q [(2, .aA (H.length,2) 0),(3, .aA (H.length,3) 0),(5, .pure (.int .i64 i))] ([(2,aD r),(3,je s)]::H) 47:=by
 intro k
 induction k with
 |zero=>
  intro i hi h1 h2;apply ax;conv=>arg 4;whnf
  have: ¬i<s.aq.length:=(by omega);simp [this,aD,je];simpa [aD,je]using h1 (fun j a b=>by omega)
 |succ k ih=>
  intro i hi h1 h2;have hia:i<s.aq.length:=(by omega);have hw:=cU (x:=(i:Int)+1) (by omega) (by omega);have hg:=bf (d:=bH) hia;apply ax;conv=>arg 4;whnf
  by_cases e1:s.aq[i].l= -1
  ·by_cases e2:s.aq[i].r= -1
   ·have he:s.aq.getD i bH=empty:=(by rw [hg];cases hh:s.aq[i];rw [hh]at e1 e2;simp only at e1 e2;rw [e1,e2];rfl);have ih':=ih (i+1) (by omega) (fun h=>h1 fun j a b=>by
     by_cases e:j=i
     ·rw [e];exact he
     ·exact h j (by omega) b) (fun h=>h2 fun h'=>h fun j a b=>h' j (by omega) b)
    simp [hia,aF.row,hw,aD,je,e1,e2];simpa [aF.row,aD,je]using ih'
   ·have e2':(s.aq[i].r== -1)=false:=(by simpa using e2);simp [hia,aF.row,aD,je,e1,e2'];simpa [aD,je]using h2 fun h'=>by
     have:=h' i (Nat.le_refl _) hia;rw [hg]at this;rw [this]at e2;exact e2 rfl
  ·have e1':(s.aq[i].l== -1)=false:=(by simpa using e1);simp [hia,aF.row,aD,je,e1'];simpa [aD,je]using h2 fun h'=>by
    have:=h' i (Nat.le_refl _) hia;rw [hg]at this;rw [this]at e1;exact e1 rfl
theorem Et (r:aC)(s:az)(hn:r.aa.length≤1000000)(hst:s.aa.length=r.aa.length)(Q:GX→bN→Prop): ∀k i:Nat,i+k=r.aa.length→
  ((∀j,i≤j→j<r.aa.length→s.aa.getD j aV=⟨(r.aa.getD j cK).home,(r.aa.getD j cK).want⟩)→Q (.exit 2) ⟨[(4,aN)],[(2,aD r),(3,je s)]::H,47⟩)→
  (¬(∀j,i≤j→j<r.aa.length→s.aa.getD j aV=⟨(r.aa.getD j cK).home,(r.aa.getD j cK).want⟩)→Q .ret ⟨[(4, .pure (.bool false))],[(2,aD r),(3,je s)]::H,47⟩)→
  fM KC au 98 (lp Tryz.f98 1) [2,3,6] [4] Q [(2, .aA (H.length,2) 0),(3, .aA (H.length,3) 0),(6, .pure (.int .i64 i))] ([(2,aD r),(3,je s)]::H) 47:=by
 intro k
 induction k with
 |zero=>
  intro i hi h1 h2;apply ax;conv=>arg 4;whnf
  have: ¬i<r.aa.length:=(by omega);simp [this,aD,je];simpa [aD,je]using h1 (fun j a b=>by omega)
 |succ k ih=>
  intro i hi h1 h2;have hia:i<r.aa.length:=(by omega);have his:i<s.aa.length:=(by omega);have hw:=cU (x:=(i:Int)+1) (by omega) (by omega);have hg:=bf (d:=cK) hia;have hg2:=bf (d:=aV) his;apply ax;conv=>arg 4;whnf
  by_cases e1:s.aa[i].cell=r.aa[i].home
  ·by_cases e2:s.aa[i].state=r.aa[i].want
   ·have he:s.aa.getD i aV=⟨(r.aa.getD i cK).home,(r.aa.getD i cK).want⟩:=(by rw [hg,hg2,←e1,←e2]);have ih':=ih (i+1) (by omega) (fun h=>h1 fun j a b=>by
     by_cases e:j=i
     ·rw [e];exact he
     ·exact h j (by omega) b) (fun h=>h2 fun h'=>h fun j a b=>h' j (by omega) b)
    simp [hia,his,aY.row,bm.row,hw,aD,je,e1,e2];simpa [aY.row,bm.row,aD,je]using ih'
   ·have e2':(s.aa[i].state==r.aa[i].want)=false:=(by simpa using e2);simp [hia,his,aY.row,bm.row,aD,je,e1,e2'];simpa [aD,je]using h2 fun h'=>by
     have:=h' i (Nat.le_refl _) hia;rw [hg,hg2]at this;rw [this]at e2;exact e2 rfl
  ·have e1':(s.aa[i].cell==r.aa[i].home)=false:=(by simpa using e1);simp [hia,his,aY.row,bm.row,aD,je,e1'];simpa [aD,je]using h2 fun h'=>by
    have:=h' i (Nat.le_refl _) hia;rw [hg,hg2]at this;rw [this]at e1;exact e1 rfl
theorem uW (r:aC)(s:az)(hn:r.aa.length≤1000000)(hn2:s.aq.length≤1000000)(hst:s.aa.length=r.aa.length)(hH:0<H.length):
  aL KC (aG KC) 98 [.pure (.agg r.row), .pure (.agg s.row)] c H=some (.pure (.bool (kU r s)),H):=by
 refine dp rfl rfl rfl rfl rfl hH fun H hH=> ?_;refine aM (aH KC au Tryz.func98 rfl rfl WW (by simp) hH ?_);have hd:=sI r s;have eh:(∀j,0≤j→j<s.aq.length→s.aq.getD j bH=empty)↔PT s:=by
  unfold PT;constructor
  ·intro h;refine List.ext_getElem (by simp) fun j h1 h2=> ?_;have:=h j (Nat.zero_le _) h1;rw [bf h1]at this;simp [this]
  ·intro h j _ hj;rw [bf hj];have:s.aq[j]'hj=(s.aq.map fun _=>empty)[j]'(by simpa using hj):=(by congr 1);rw [this];simp
 have et:(∀j,0≤j→j<r.aa.length→s.aa.getD j aV=⟨(r.aa.getD j cK).home,(r.aa.getD j cK).want⟩)↔ad5 r s:=⟨fun h i hi=>h i (Nat.zero_le _) hi,fun h i _ hi=>h i hi⟩;have L1:=fun Q=>Es (H:=H) r s hn2 Q s.aq.length 0 (by omega);rw [eh]at L1;have L2:=fun Q=>Et (H:=H) r s hn hst Q r.aa.length 0 (by omega);rw [et]at L2;rw [cI];unfold az.row;simp;simp [aD,je]at L1 L2;refine L1 _ (fun h=> ?_) (fun h=> ?_)
 ·simp;refine L2 _ (fun h2=> ?_) (fun h2=> ?_)
  ·have:kU r s=true:=(by rw [hd,decide_eq_true (p:=s.aq=s.aq.map fun _=>empty) h,Bool.true_and];exact decide_eq_true (p:= ∀i,i<r.aa.length→s.aa.getD i aV=⟨(r.aa.getD i cK).home,(r.aa.getD i cK).want⟩) h2);simp [ae,this]
  ·have:kU r s=false:=by
    rw [hd,Bool.and_eq_false_iff];right;exact decide_eq_false (p:= ∀i,i<r.aa.length→s.aa.getD i aV=⟨(r.aa.getD i cK).home,(r.aa.getD i cK).want⟩) h2
   simp [ae,this]
 ·have:kU r s=false:=by
   rw [hd,Bool.and_eq_false_iff];left;exact decide_eq_false (p:=s.aq=s.aq.map fun _=>empty) h
  simp [ae,this]
theorem Eu (r:aC) (hp0:r.ah≠[]) (ht0:r.aa=[]) (hpl:r.ah.length≤1000000) (htl:r.aa.length≤1000000) (hH:0<H.length)
  (hf1:H.get (H.length-1,ao c 22)=none) (hf2:H.get (H.length-1,ao c 27)=none):
  bF KC (aG KC) 48 [.pure (.agg r.row)] c H=some (.agg [.aZ (H.length-1,ao c 22) 1 (ay r).ah.length 0 (ay r).ah.length, .aZ (H.length-1,ao c 27) 2 (ay r).aq.length 0 (ay r).aq.length, .aR],
   ((H.set (H.length-1,ao c 22) (.arr 1 ((ay r).ah.map aE) 0 false)).set (H.length-1,ao c 27) (.arr 2 ((ay r).aq.map aF.row) 0 false))):=by
 refine aM (aH KC au Tryz.func48 rfl rfl I3 (by simp) hH ?_);rw [cI];have lp0:0<r.ah.length:=List.length_pos_iff.2 hp0;have jP:ao c 22≠ao c 27:=(by unfold ao;omega);have L1:=fun Q=>uX (H:=H) r hpl Q (r.ah.length-1) 1 [r.ah[0].cell] [empty] (by omega) rfl rfl (by omega);have ep:r.ah[0].cell::(r.ah.drop 1).map (fun p=>p.cell)=r.ah.map (fun p=>p.cell):=pJ (fun p:aS=>p.cell) r.ah lp0;have eh:empty::((r.ah.drop 1).map fun _=>empty)=r.ah.map fun _=>empty:=pJ (fun _:aS=>empty) r.ah lp0;simp only [List.singleton_append,ep,eh]at L1;simp [PU,aD,aE,aF.row,empty]at L1;simp;apply ax;conv=>arg 4;whnf
 simp [lp0,aS.row];refine L1 _ ?_;clear L1;simp;apply ax;conv=>arg 4;whnf
 simp [PU,aD,ht0];have k1:(H.length-1,ao c 27)≠((H.length-1,ao c 22):Nm):=fun e=>jP (Prod.mk.inj e).2.symm;have g2: ∀b,(H.set (H.length-1,ao c 22) b).get (H.length-1,ao c 27)=none:=fun b=>(aj.aK b k1).trans hf2;simp [bS,refs,dM,dn,cr,dC,dD,dedup,cL,cd,tD,hf1,g2,vn,jW,im,ay,ht0,dm,bC,aE,aF.row,empty,bm.row,gC]
theorem xn {rg:GV} (r:aC) (hR:mC H rg (.agg r.row)) (hp0:r.ah≠[]) (ht0:r.aa=[]) (hpl:r.ah.length≤1000000) (htl:r.aa.length≤1000000) (hH:0<H.length)
  (hf1:H.get (H.length-1,ao c 22)=none) (hf2:H.get (H.length-1,ao c 27)=none):
  aL KC (aG KC) 48 [rg] c H=some (.agg [.aZ (H.length-1,ao c 22) 1 (ay r).ah.length 0 (ay r).ah.length, .aZ (H.length-1,ao c 27) 2 (ay r).aq.length 0 (ay r).aq.length, .aR],
   (H.set (H.length-1,ao c 22) (.arr 1 ((ay r).ah.map aE) 0 false)).set (H.length-1,ao c 27) (.arr 2 ((ay r).aq.map aF.row) 0 false)):=by
 rw [qa KC rfl rfl,Pt hR];have F:=Eu (c:=c) (H:=gw H) r hp0 ht0 hpl htl (by rw [cW];exact hH) (j0 _ _) (j0 _ _);simp only [cW]at F;have hL:H.length-1<(gw H).length:=(by rw [cW];omega);have hL':H.length-1<H.length:=(by omega);have jP:ao c 22≠ao c 27:=(by unfold ao;omega);have k1:(H.length-1,ao c 27)≠((H.length-1,ao c 22):Nm):=fun e=>jP (Prod.mk.inj e).2.symm;generalize hE:(((gw H).set (H.length-1,ao c 22) (.arr 1 ((ay r).ah.map aE) 0 false)).set (H.length-1,ao c 27) (.arr 2 ((ay r).aq.map aF.row) 0 false))=E at F;have q1:E.get (H.length-1,ao c 22)=some (.arr 1 ((ay r).ah.map aE) 0 false):=(by rw [←hE,aj.aK _ k1.symm];exact aj.gf hL);have q2:E.get (H.length-1,ao c 27)=some (.arr 2 ((ay r).aq.map aF.row) 0 false):=(by rw [←hE];exact aj.gf (by rw [aj.length_set];exact hL));have g2: ∀b,(H.set (H.length-1,ao c 22) b).get (H.length-1,ao c 27)=none:=fun b=>(aj.aK b k1).trans hf2;have fr1: ∀l:List Int,eY (l.map aE)=true:=fun l=>by induction l with|nil=>rfl|cons a l ih=>simp [eY,kE,iO,aE,ih]
 have fr2: ∀l:List aF,eY (l.map aF.row)=true:=fun l=>by induction l with|nil=>rfl|cons a l ih=>simp [eY,kE,iO,aF.row,ih]
 unfold iG;simp [my,F,kP,uz,rq,yJ,oW,oB,refs,dM,dn,dedup,kQ,jP,jP.symm,q1,q2,hf1,g2,fr1,fr2]
end
section
section
variable {r0:aC} {ai:List ak} {s:az}
end
end
section
theorem FW {w d:Int}(h1:1≤w*d)(h2:w*d≤1000000):ct w d=w*d-1:=by
 rw [vV,cU (x:=w*d) (by omega) (by omega),cU (x:=w*d-1) (by omega) (by omega)]
section
variable {r0:aC} {ai:List ak} {s:az} {m:Nat}
end
end
theorem jH {g:Nat→Int}: ∀{k i:Nat},bB g k i=0→ ∀j,i≤j→j<i+k→g j=0
 |0,_,_=>fun j a b=>by omega
 |k+1,i,h=>fun j a b=>by
  unfold bB at h;by_cases h0:g i=0
  ·by_cases e:j=i
   ·rw [e];exact h0
   ·refine jH (k:=k) (i:=i+1) ?_ j (by omega) (by omega);simpa [h0]using h
  ·simp [h0]at h
theorem iL {x lo hi:Int}(h:cC x lo hi≠false):lo≤x∧x≤hi:=by
 cases e:cC x lo hi with
 |false=>exact absurd e h
 |true=>exact nz.1 e
theorem cF {p:Prop} [Decidable p]{a b:Int}(ha:a≠0)(h:(if p then a else b)=0): ¬p∧b=0:=by
 by_cases hp:p
 ·rw [if_pos hp]at h;exact absurd h ha
 ·rw [if_neg hp]at h;exact⟨hp,h⟩
theorem ite_self {a b:Int}(h:(if a≠0 then a else b)=0):a=0∧b=0:=by
 by_cases hp:a≠0
 ·rw [if_pos hp]at h;exact absurd h hp
 ·rw [if_neg hp]at h;exact⟨by simpa using hp,h⟩
structure xo (r:aC):Prop where
 w:1≤r.wide∧r.wide≤6
 d:1≤r.deep∧r.deep≤6
 p0:r.ah≠[]
 p4:r.ah.length≤4
 t8:r.aa.length≤8
 pc: ∀p∈r.ah,0≤p.cell∧p.cell<r.wide*r.deep
 pn:(r.ah.map (·.cell)).Nodup
 tc: ∀t∈r.aa,(0≤t.cell∧t.cell<r.wide*r.deep)∧0≤t.state∧t.state<16
 ls: ∀x∈r.aP,1≤x∧x≤3
theorem xo.AD {r:aC}(h:xo r):1≤r.wide*r.deep∧r.wide*r.deep≤36:=by
 have h1:=h.w;have h2:=h.d;constructor
 ·have:=Int.mul_le_mul h1.1 h2.1 (by omega) (by omega);omega
 ·have:=Int.mul_le_mul h1.2 h2.2 (by omega) (by omega);omega
theorem PW {r:aC}(h:oQ r=0):xo r:=by
 rw [tE]at h;obtain⟨h1,h⟩:=cF (by decide) h;obtain⟨h2,h⟩:=cF (by decide) h;obtain⟨h3,h⟩:=cF (by decide) h;obtain⟨h4,h⟩:=ite_self h;obtain⟨h5,h⟩:=cF (by decide) h;obtain⟨h6,h⟩:=ite_self h;obtain⟨h7,h8⟩:=ite_self h;have w:=iL (fun e=>h1 (.inl e));have d:=iL (fun e=>h1 (.inr e));have ar:1≤r.wide*r.deep∧r.wide*r.deep≤36:=by
  constructor
  ·have:=Int.mul_le_mul w.1 d.1 (by omega) (by omega);omega
  ·have:=Int.mul_le_mul w.2 d.2 (by omega) (by omega);omega
 have top:ct r.wide r.deep=r.wide*r.deep-1:=FW ar.1 (by omega);rw [top]at h4 h6;have P: ∀j (hj:j<r.ah.length),(0≤r.ah[j].cell∧r.ah[j].cell<r.wide*r.deep)∧dh r.ah j r.ah[j].cell=false:=fun j hj=>by
  have e:=jH h4 j (Nat.zero_le _) (by omega);rw [oP,bf hj]at e;obtain⟨_,e⟩:=cF (by decide) e;obtain⟨e2,e⟩:=cF (by decide) e;obtain⟨e3,_⟩:=cF (by decide) e;have:=iL e2;exact⟨⟨this.1,by omega⟩,by simpa using e3⟩
 refine⟨w,d,fun e=>h2 (by rw [e];rfl),by omega,by omega,fun p hp=> ?_, ?_,fun t ht=> ?_,fun x hx=> ?_⟩
 ·obtain⟨j,hj,rfl⟩:=List.getElem_of_mem hp;exact(P j hj).1
 ·rw [List.Nodup,List.pairwise_iff_getElem];intro i j hi hj hij;simp only [List.length_map]at hi hj;simp only [List.getElem_map];intro e;have:=(P j hj).2;unfold dh at this;rw [List.any_eq_false]at this;exact this r.ah[i] (List.mem_take_iff_getElem.2 ⟨i,by omega,rfl⟩) (by simpa using e)
 ·obtain⟨j,hj,rfl⟩:=List.getElem_of_mem ht;have e:=jH h6 j (Nat.zero_le _) (by omega);rw [qT,bf hj]at e;obtain⟨e1,e⟩:=cF (by decide) e;obtain⟨e2,_⟩:=cF (by decide) e;have a:=iL (fun x=>e1 (.inl x));have b:=iL (fun x=>e2 (.inl x));exact⟨⟨a.1,by omega⟩,b.1,by omega⟩
 ·obtain⟨j,hj,rfl⟩:=List.getElem_of_mem hx;have e:=jH h8 j (Nat.zero_le _) (by omega);rw [sa,bf hj]at e;obtain⟨e1,_⟩:=cF (by decide) e;exact iL e1
theorem PX {r:aC}(h:xo r){a:ak}(hw:0≤a.aQ∧a.aQ<r.ah.length)(hf:eJ (ct r.wide r.deep) r.aa.length r.ah.length a=0):AB r a.aQ.toNat a:=by
 have ar:=h.AD;rw [FW ar.1 (by omega),pK]at hf;obtain⟨h1,hf⟩:=cF (by decide) hf;obtain⟨h2,hf⟩:=cF (by decide) hf;obtain⟨h3,hf⟩:=cF (by decide) hf;obtain⟨h4,hf⟩:=cF (by decide) hf;obtain⟨h5,hf⟩:=cF (by decide) hf;obtain⟨h6,hf⟩:=cF (by decide) hf;obtain⟨h7,_⟩:=cF (by decide) hf;have k:=iL h1;have hd:=iL h4;refine⟨by omega,by omega,by omega,k,fun e=> ?_,fun e=> ?_,fun e=> ?_,by simpa using h2⟩
 ·have:=iL (fun x=>h5 ⟨e,x⟩);exact⟨a.bh.toNat,by omega,by omega⟩
 ·have:=iL (fun x=>h6 ⟨e,x⟩);have h7': ¬a.other=a.aQ:=fun x=>h7 ⟨e,x⟩;exact⟨a.other.toNat,by omega,by omega,by omega⟩
 ·have:=iL (fun x=>h3 ⟨e,x⟩);exact⟨this.1,by omega⟩
structure ad6 (r:aC):Prop where
 n:r.ai.length≤40
 ab: ∀a∈r.ai,AB r a.aQ.toNat a
 tm: ∀a∈r.ai,0≤a.bc∧a.bc≤1000
 pw:r.ai.Pairwise fun a b=>a.bc≤b.bc∧(a.bc=b.bc→a.aQ≠b.aQ)
theorem vI {r:aC}(h:cv r=0):xo r∧ad6 r:=by
 rw [rI]at h;obtain⟨h1,h⟩:=ite_self h;obtain⟨h2,h⟩:=cF (by decide) h;have R:=PW h1;have A: ∀j (hj:j<r.ai.length),AB r r.ai[j].aQ.toNat r.ai[j]∧(0≤r.ai[j].bc∧r.ai[j].bc≤1000)∧(0<j→(r.ai.getD (j-1) cA).bc≤r.ai[j].bc)∧(r.ai.take j).any (fB r.ai[j])=false:=fun j hj=>by
  have e:=jH h j (Nat.zero_le _) (by omega);rw [xp,bf hj]at e;obtain⟨e1,e⟩:=cF (by decide) e;obtain⟨e2,e⟩:=cF (by decide) e;obtain⟨e3,e⟩:=cF (by decide) e;obtain⟨e4,e⟩:=cF (by decide) e;obtain⟨e5,e⟩:=ite_self e;have w:=iL e3;refine⟨PX R ⟨w.1,by omega⟩ e5,iL e1,fun h0=> ?_,by simpa using e4⟩;have: ¬r.ai[j].bc<(r.ai.getD (j-1) cA).bc:=fun x=>e2 ⟨h0,x⟩;omega
 have mono: ∀i j (hi:i<r.ai.length) (hj:j<r.ai.length),i<j→r.ai[i].bc≤r.ai[j].bc:=fun i j=>by
  induction j with
  |zero=>intro _ _ h;omega
  |succ j ih=>
   intro hi hj hij;have s:=(A (j+1) hj).2.2.1 (by omega);rw [Nat.add_sub_cancel,bf (by omega)]at s;by_cases e:i=j
   ·subst e;exact s
   ·have:=ih hi (by omega) (by omega);omega
 refine⟨R,by omega,fun a ha=> ?_,fun a ha=> ?_, ?_⟩
 ·obtain⟨j,hj,rfl⟩:=List.getElem_of_mem ha;exact(A j hj).1
 ·obtain⟨j,hj,rfl⟩:=List.getElem_of_mem ha;exact(A j hj).2.1
 ·rw [List.pairwise_iff_getElem];intro i j hi hj hij;refine⟨mono i j hi hj hij,fun e1 e2=> ?_⟩;have:=(A j hj).2.2.2;rw [List.any_eq_false]at this;refine this r.ai[i] (List.mem_take_iff_getElem.2 ⟨i,by omega,rfl⟩) ?_;unfold fB;simp [e1,e2]
theorem Ew {r:aC}(h:xo r):gz r (ay r):=by
 have ce: ∀l:List aS,∀t:Nat,kF (l.map fun _=>empty) t=0:=fun l t=>by
  induction l with
  |nil=>rfl
  |cons a l ih=>
   have: ¬(-1:Int)=t:=(by omega);simp only [List.map_cons,kF,ih];simp [Ac,empty,this]
 refine {pl:=by simp [ay],hl:=by simp [ay],tl:=by simp [ay],hr:=fun i hi=> ?_,pr:=fun x hx=> ?_,pn:=h.pn,th:=fun t ht=> ?_,st:=fun t ht=> ?_}
 ·simp only [ay,List.getElem_map,empty,List.length_map];omega
 ·simp only [ay,List.mem_map]at hx;obtain⟨p,hp,rfl⟩:=hx;exact h.pc p hp
 ·have ht':t<r.aa.length:=(by simpa [ay]using ht);have e:((ay r).aa.getD t aV)=gC r.aa[t]:=by
   rw [bf ht];simp [ay]
  rw [e];exact .inr ⟨ce _ _,(h.tc _ (List.getElem_mem ht')).1.1,(h.tc _ (List.getElem_mem ht')).1.2⟩
 ·have ht':t<r.aa.length:=(by simpa [ay]using ht);have e:((ay r).aa.getD t aV)=gC r.aa[t]:=by
   rw [bf ht];simp [ay]
  rw [e];exact⟨(h.tc _ (List.getElem_mem ht')).2.1,(h.tc _ (List.getElem_mem ht')).2.2⟩
theorem vJ {r:aC}(h:cv r=0)(sh:eL r):D7 r:=by
 obtain⟨R,A⟩:=vI h;have ar:=R.AD;have w:=R.w;have:=R.p4;have:=R.t8;have:=A.n;exact {w:=⟨w.1,by omega,by omega,by omega,by omega⟩,snd:=Ew R,p0:=R.p0,al:=by omega,ab:=A.ab,sh:=sh,ck:=h}
section
variable {c:Nat} {H:aj}
noncomputable def Ex (q:List az×az×Int×Int):PV:= .tuple (if q.2.2.2=0 then [.slice (q.1.map az.row), .int .i64 (-1), .int .i64 0]else [.slice [], .int .i64 q.2.2.1, .int .i64 q.2.2.2])
theorem pL {r:aC}(hW:WB r)(ai:List ak)(hal:ai.length≤1000000)(hA: ∀a∈ai,AB r a.aQ.toNat a){s:az}(hS:gz r s)(hF:Full s)(hH:0<H.length):
  bF KC (aG KC) 80 [.pure (.agg r.row), .pure (.agg s.row), .pure (.slice (ai.map ak.row))] c H=some (.pure (Ex (bM r ai.length s ai 0)),H):=by
 refine aM (aH KC au Tryz.func80 rfl rfl WG (by simp) hH ?_);have L1:=fun Q=>Kt (H:=H) hW ai hal hA Q ai.length 0 false s [] (by omega) (by omega) (by simp) hS hF (fun h=>by cases h);simp only [List.drop_zero,List.nil_append]at L1;generalize bM r ai.length s ai 0=q at L1⊢;obtain⟨l,s',bc,e⟩:=q;simp only at L1;unfold Ex;have e0:iU false r s []=[(3,aD r),(4,je s)]:=rfl;rw [e0]at L1;simp only [List.map_nil,ff,aD,je]at L1;rw [cI];unfold az.row;simp;refine L1 _ (fun h b'=> ?_) (fun h g F'=> ?_)
 ·subst h;have hnl: ¬H.length≤H.length-1:=(by omega);by_cases hl:l=[]
  ·subst hl;simp [iU,ja,ff];rw [ae (by simp)];simp
  ·have hr:l.map az.row≠[]:=(by simpa using hl);have g92:(iU b' r s' l).get 92=some (.arr 3 (l.map az.row) 0 false):=(by unfold iU;rw [dg hr]);have eS:cH (H.length,92) 3 (l.map az.row)= .aZ (H.length,92) 3 l.length 0 l.length:=(by unfold cH;rw [if_neg hr];simp);have tk:List.take l.length (l.map az.row)=l.map az.row:=List.take_of_length_le (by simp);rw [eS];generalize iU b' r s' l=F at g92⊢;simp;rw [ae (by simp)];simp [hnl,g92,tk];exact fun _ _=>rfl
 ·simp;rw [ae (by simp)];simp [h]
theorem nd {r:aC}: ∀(k:Nat) (s:az) (ai:List ak) (i:Nat),(s::(bM r k s ai i).1).getD (bM r k s ai i).1.length s=(bM r k s ai i).2.1
 |0,s,_,_=>rfl
 |_+1,s,[],_=>rfl
 |k+1,s,a::rest,i=>by
  unfold bM;simp only;split
  ·rfl
  ·rename_i h;have:=nd (r:=r) k (cj r s ((a::rest).takeWhile (a8 a)) [] s 0).1 ((a::rest).drop ((a::rest).takeWhile (a8 a)).length) (i+((a::rest).takeWhile (a8 a)).length);rw [←this];simp [List.getD_eq_getElem?_getD]
def PY (r:aC)(L:Nat)(ro:Bool):Fr:=[(1,aD r),(5, .box [.aZ (L,90123) 1 (ay r).ah.length 0 (ay r).ah.length, .aZ (L,110603) 2 (ay r).aq.length 0 (ay r).aq.length, .aZ (L,217099) 2 (ay r).aa.length 0 (ay r).aa.length]),(90123, .arr 1 ((ay r).ah.map aE) 0 ro),(110603, .arr 2 ((ay r).aq.map aF.row) 0 ro),(217099, .arr 2 ((ay r).aa.map bm.row) 0 ro)]
theorem HY {r:aC}{ro:Bool}:bL (PY r H.length ro::H) [.aZ (H.length,90123) 1 (ay r).ah.length 0 (ay r).ah.length, .aZ (H.length,110603) 2 (ay r).aq.length 0 (ay r).aq.length, .aZ (H.length,217099) 2 (ay r).aa.length 0 (ay r).aa.length]=
  ([.slice ((ay r).ah.map aE), .slice ((ay r).aq.map aF.row), .slice ((ay r).aa.map bm.row)],PY r H.length true::H):=by
 have t1:List.take (ay r).ah.length ((ay r).ah.map aE)=(ay r).ah.map aE:=List.take_of_length_le (by simp);have t2:List.take (ay r).aq.length ((ay r).aq.map aF.row)=(ay r).aq.map aF.row:=List.take_of_length_le (by simp);have t3:List.take (ay r).aa.length ((ay r).aa.map bm.row)=(ay r).aa.map bm.row:=List.take_of_length_le (by simp);simp [bL,PY,t1,t2,t3]
theorem Ey {r:aC}(h:sJ r):aL KC (aG KC) 80 [.pure (.agg r.row), .agg [.aZ (H.length,90123) 1 (ay r).ah.length 0 (ay r).ah.length, .aZ (H.length,110603) 2 (ay r).aq.length 0 (ay r).aq.length, .aZ (H.length,217099) 2 (ay r).aa.length 0 (ay r).aa.length], .pure (.slice (r.ai.map ak.row))] c (PY r H.length false::H)=
  some (.pure (Ex (bM r r.ai.length (ay r) r.ai 0)),PY r H.length true::H):=by
 rw [gZ rfl rfl rfl];have t1:List.take (ay r).ah.length ((ay r).ah.map aE)=(ay r).ah.map aE:=List.take_of_length_le (by simp);have t2:List.take (ay r).aq.length ((ay r).aq.map aF.row)=(ay r).aq.map aF.row:=List.take_of_length_le (by simp);have t3:List.take (ay r).aa.length ((ay r).aa.map bm.row)=(ay r).aa.map bm.row:=List.take_of_length_le (by simp);have e:bu (PY r H.length false::H) [.pure (.agg r.row), .agg [.aZ (H.length,90123) 1 (ay r).ah.length 0 (ay r).ah.length, .aZ (H.length,110603) 2 (ay r).aq.length 0 (ay r).aq.length, .aZ (H.length,217099) 2 (ay r).aa.length 0 (ay r).aa.length], .pure (.slice (r.ai.map ak.row))]=([.pure (.agg r.row), .pure (.agg (ay r).row), .pure (.slice (r.ai.map ak.row))],PY r H.length true::H):=by
  simp [bu,dr,fO,dH,PY,t1,t2,t3,az.row]
 rw [e];exact pL h.w r.ai h.al h.ab h.snd ⟨by simpa [ay]using h.p0,by simpa [ay]using h.p0,by simp [ay];exact h.w.pl,by simp [ay];exact h.w.pl,by simp [ay];exact h.w.tl⟩ (by simp)
end
section
variable {c:Nat} {H:aj}
theorem pM {r:aC}: ∀(k:Nat) (s:az) (ai:List ak) (i:Nat),(bM r k s ai i).1.length≤k
 |0,s,_,_=>Nat.le_refl _
 |_+1,s,[],_=>Nat.zero_le _
 |k+1,s,a::rest,i=>by
  unfold bM;simp only;split
  ·exact Nat.zero_le _
  ·have:=pM (r:=r) k (cj r s ((a::rest).takeWhile (a8 a)) [] s 0).1 ((a::rest).drop ((a::rest).takeWhile (a8 a)).length) (i+((a::rest).takeWhile (a8 a)).length);simp only [List.length_cons];omega
theorem PZ {r:aC}(h:sJ r)(ht0:r.aa≠[])(hH:0<H.length):
  aL KC (aG KC) 61 [.pure (.agg r.row)] c H=
   some (.pure (.tuple (if (du r).2.2.2=0 then [.slice ((du r).1.map az.row), .int .i64 (-1), .int .i64 0]else [.slice [], .int .i64 (du r).2.2.1, .int .i64 (du r).2.2.2])),H):=by
 refine aM (aW KC au Tryz.func61 rfl rfl I5 rfl rfl rfl (by simp) hH ?_);have k1:ao 10 22=90123:=(by decide);have k2:ao 10 27=110603:=(by decide);have k3:ao 10 53=217099:=(by decide);have C:=tS (c:=10) (H:=[(1,aD r)]::H) r (rg:= .pure (.agg r.row)) rfl h.p0 ht0 h.w.pl h.w.tl (by simp) (by simp [k1]) (by simp [k2]) (by simp [k3]);simp only [List.length_cons,Nat.add_sub_cancel,k1,k2,k3]at C;have hC:cn ([(1,aD r)]::H) (H.length,90123) (H.length,110603) (H.length,217099) 0 0 0 (ay r)=[(1,aD r),(90123, .arr 1 ((ay r).ah.map aE) 0 false),(110603, .arr 2 ((ay r).aq.map aF.row) 0 false),(217099, .arr 2 ((ay r).aa.map bm.row) 0 false)]::H:=by
  simp [cn]
 rw [hC]at C;have S:=fun c=>Ey (c:=c) (H:=H) h;have PC:=HY (H:=H) (r:=r) (ro:=true);have hlast:=nd (r:=r) r.ai.length (ay r) r.ai 0;have hsn:=jD r.ai.length (ay r) r.ai 0 h.snd h.ab;obtain⟨q,hq⟩: ∃q,bM r r.ai.length (ay r) r.ai 0=q:=⟨_,rfl⟩;have ha:du r=(ay r::q.1,q.2.1,if q.2.2.2=0∧kU r q.2.1=false then ((r.ai.length:Int),11)else q.2.2):=(by unfold du;simp only [hq]);rw [hq]at S hlast hsn;rw [ha];have hll:q.1.length≤1000000:=(by rw [←hq];exact Nat.le_trans (pM ..) h.al);obtain⟨l,s,bc,e⟩:=q;simp only [Ex]at S hlast hsn hll⊢;have OR:=fun c (H:aj) (hH:0<H.length)=>uW (c:=c) (H:=H) r s h.w.tl (by rw [hsn.1.hl];exact h.w.pl) hsn.1.tl hH;rw [cI]at C S OR⊢;simp only [kK,aD,PY]at C S PC⊢;generalize ay r=fi at C S PC hlast⊢;by_cases he:e=0
 ·subst he;simp only [if_true]at S;have hg:((fi::l).map az.row)[l.length]'(by simp)=s.row:=by
   rw [List.getElem_map];congr 1;rw [←hlast];simp [List.getD_eq_getElem?_getD]
  simp only [List.map_cons]at hg;by_cases hl:l=[]
  ·subst hl;have hfs:fi=s:=(by simpa using hlast);subst hfs;unfold az.row at OR
   cases ho:kU r fi with
   |true=>
    rw [ho]at OR;simp [C,S,PC,OR];rw [ae (by simp)];have hnl: ¬H.length≤H.length-1:=(by omega);simp [hnl,az.row]
   |false=>
    rw [ho]at OR;simp [C,S,PC,OR];rw [ae (by simp)];simp
  ·have hb:(l.length+1)*72≤1099511627776:=(by omega);have hb2:(1+l.length)*72≤1099511627776:=(by omega);have hall: ∀x:az,x.row.length=3:=fun _=>rfl;have hw:IntKind.i64.wrap ((1:Int)+(l.length:Int)-1)=(l.length:Int):=by
    rw [show (1:Int)+(l.length:Int)-1=(l.length:Int)by omega]
    exact cU (by omega) (by omega)
   have hlt:(l.length:Int)<1+(l.length:Int):=(by omega);have hlt2:l.length<l.length+1:=(by omega);have hle:1+l.length≤l.length+1:=(by omega);have hg':([PV.slice (fi.ah.map aE),PV.slice (fi.aq.map aF.row),PV.slice (fi.aa.map bm.row)]::l.map az.row)[l.length]'(by simp)=s.row:=hg;have tk3:List.take 3 s.row=s.row:=rfl;have hs3:3≤s.row.length:=Nat.le_refl _;have hnl: ¬H.length≤H.length-1:=(by omega);have tka:List.take (1+l.length) ([PV.slice (fi.ah.map aE),PV.slice (fi.aq.map aF.row),PV.slice (fi.aa.map bm.row)]::l.map az.row)=[PV.slice (fi.ah.map aE),PV.slice (fi.aq.map aF.row),PV.slice (fi.aa.map bm.row)]::l.map az.row:=List.take_of_length_le (by simp;omega)
   cases ho:kU r s with
   |true=>
    rw [ho]at OR;simp [C,S,PC,hl,hb,hb2,hall,hw,hlt,hlt2,hle,hg',tk3,OR];rw [ae (by simp)];simp [hnl,hle,tka];rfl
   |false=>
    rw [ho]at OR;simp [C,S,PC,hl,hb,hb2,hall,hw,hlt,hlt2,hle,hg',tk3,OR];rw [ae (by simp)];simp
 ·have he':(e==0)=false:=(by simpa using he);simp only [he,if_false]at S;simp [C,S,he,he'];rw [ae (by simp)];simp
end
section
variable {c:Nat} {H:aj}
def P0 (r:aC)(L:Nat)(ro:Bool):Fr:=[(1,aD r),(5, .box [.aZ (L,90123) 1 (ay r).ah.length 0 (ay r).ah.length, .aZ (L,110603) 2 (ay r).aq.length 0 (ay r).aq.length, .aR]),(90123, .arr 1 ((ay r).ah.map aE) 0 ro),(110603, .arr 2 ((ay r).aq.map aF.row) 0 ro)]
theorem HZ {r:aC}{ro:Bool}:bL (P0 r H.length ro::H) [.aZ (H.length,90123) 1 (ay r).ah.length 0 (ay r).ah.length, .aZ (H.length,110603) 2 (ay r).aq.length 0 (ay r).aq.length, .aR]=
  ([.slice ((ay r).ah.map aE), .slice ((ay r).aq.map aF.row), .slice []],P0 r H.length true::H):=by
 have t1:List.take (ay r).ah.length ((ay r).ah.map aE)=(ay r).ah.map aE:=List.take_of_length_le (by simp);have t2:List.take (ay r).aq.length ((ay r).aq.map aF.row)=(ay r).aq.map aF.row:=List.take_of_length_le (by simp);simp [bL,P0,t1,t2]
theorem Ez {r:aC}(h:sJ r)(ht0:r.aa=[]):aL KC (aG KC) 80 [.pure (.agg r.row), .agg [.aZ (H.length,90123) 1 (ay r).ah.length 0 (ay r).ah.length, .aZ (H.length,110603) 2 (ay r).aq.length 0 (ay r).aq.length, .aR], .pure (.slice (r.ai.map ak.row))] c (P0 r H.length false::H)=
  some (.pure (Ex (bM r r.ai.length (ay r) r.ai 0)),P0 r H.length true::H):=by
 rw [gZ rfl rfl rfl];have t1:List.take (ay r).ah.length ((ay r).ah.map aE)=(ay r).ah.map aE:=List.take_of_length_le (by simp);have t2:List.take (ay r).aq.length ((ay r).aq.map aF.row)=(ay r).aq.map aF.row:=List.take_of_length_le (by simp);have e:bu (P0 r H.length false::H) [.pure (.agg r.row), .agg [.aZ (H.length,90123) 1 (ay r).ah.length 0 (ay r).ah.length, .aZ (H.length,110603) 2 (ay r).aq.length 0 (ay r).aq.length, .aR], .pure (.slice (r.ai.map ak.row))]=([.pure (.agg r.row), .agg [.pure (.slice ((ay r).ah.map aE)), .pure (.slice ((ay r).aq.map aF.row)), .aR], .pure (.slice (r.ai.map ak.row))],P0 r H.length true::H):=by
  simp [bu,dr,fO,dH,P0,t1,t2]
 have e2:(ay r).row=[.slice ((ay r).ah.map aE), .slice ((ay r).aq.map aF.row), .slice []]:=(by simp [az.row,ay,ht0]);rw [e,qM (b:=[.pure (.agg r.row), .pure (.agg (ay r).row), .pure (.slice (r.ai.map ak.row))]) (by rw [e2];rfl)];exact pL h.w r.ai h.al h.ab h.snd ⟨by simpa [ay]using h.p0,by simpa [ay]using h.p0,by simp [ay];exact h.w.pl,by simp [ay];exact h.w.pl,by simp [ay];exact h.w.tl⟩ (by simp)
theorem P1 {r:aC}(h:sJ r)(ht0:r.aa=[])(hH:0<H.length):
  aL KC (aG KC) 61 [.pure (.agg r.row)] c H=
   some (.pure (.tuple (if (du r).2.2.2=0 then [.slice ((du r).1.map az.row), .int .i64 (-1), .int .i64 0]else [.slice [], .int .i64 (du r).2.2.1, .int .i64 (du r).2.2.2])),H):=by
 refine aM (aW KC au Tryz.func61 rfl rfl I5 rfl rfl rfl (by simp) hH ?_);have k1:ao 10 22=90123:=(by decide);have k2:ao 10 27=110603:=(by decide);have C:=xn (c:=10) (H:=[(1,aD r)]::H) r (rg:= .pure (.agg r.row)) rfl h.p0 ht0 h.w.pl h.w.tl (by simp) (by simp [k1]) (by simp [k2]);simp only [List.length_cons,Nat.add_sub_cancel,k1,k2]at C;have hC:aj.set (aj.set ([(1,aD r)]::H) (H.length,90123) (.arr 1 ((ay r).ah.map aE) 0 false)) (H.length,110603) (.arr 2 ((ay r).aq.map aF.row) 0 false)=[(1,aD r),(90123, .arr 1 ((ay r).ah.map aE) 0 false),(110603, .arr 2 ((ay r).aq.map aF.row) 0 false)]::H:=by
  simp
 rw [hC]at C;have S:=fun c=>Ez (c:=c) (H:=H) h ht0;have PC:=HZ (H:=H) (r:=r) (ro:=true);have hlast:=nd (r:=r) r.ai.length (ay r) r.ai 0;have hsn:=jD r.ai.length (ay r) r.ai 0 h.snd h.ab;obtain⟨q,hq⟩: ∃q,bM r r.ai.length (ay r) r.ai 0=q:=⟨_,rfl⟩;have ha:du r=(ay r::q.1,q.2.1,if q.2.2.2=0∧kU r q.2.1=false then ((r.ai.length:Int),11)else q.2.2):=(by unfold du;simp only [hq]);rw [hq]at S hlast hsn;rw [ha];have hll:q.1.length≤1000000:=(by rw [←hq];exact Nat.le_trans (pM ..) h.al);obtain⟨l,s,bc,e⟩:=q;simp only [Ex]at S hlast hsn hll⊢;have OR:=fun c (H:aj) (hH:0<H.length)=>uW (c:=c) (H:=H) r s h.w.tl (by rw [hsn.1.hl];exact h.w.pl) hsn.1.tl hH;rw [cI]at C S OR⊢;simp only [kK,aD,P0]at C S PC⊢;have hft:(ay r).aa=[]:=(by simp [ay,ht0]);generalize ay r=fi at C S PC hlast hft⊢;by_cases he:e=0
 ·subst he;simp only [if_true]at S;have hg:((fi::l).map az.row)[l.length]'(by simp)=s.row:=by
   rw [List.getElem_map];congr 1;rw [←hlast];simp [List.getD_eq_getElem?_getD]
  simp only [List.map_cons]at hg;by_cases hl:l=[]
  ·subst hl;have hfs:fi=s:=(by simpa using hlast);subst hfs;unfold az.row at OR;simp only [hft,List.map_nil]at OR
   cases ho:kU r fi with
   |true=>
    rw [ho]at OR;simp [C,S,PC,OR];rw [ae (by simp)];have hnl: ¬H.length≤H.length-1:=(by omega);simp [hnl,az.row,hft]
   |false=>
    rw [ho]at OR;simp [C,S,PC,OR];rw [ae (by simp)];simp
  ·have hb:(l.length+1)*72≤1099511627776:=(by omega);have hb2:(1+l.length)*72≤1099511627776:=(by omega);have hall: ∀x:az,x.row.length=3:=fun _=>rfl;have hw:IntKind.i64.wrap ((1:Int)+(l.length:Int)-1)=(l.length:Int):=by
    rw [show (1:Int)+(l.length:Int)-1=(l.length:Int)by omega]
    exact cU (by omega) (by omega)
   have hlt:(l.length:Int)<1+(l.length:Int):=(by omega);have hlt2:l.length<l.length+1:=(by omega);have hle:1+l.length≤l.length+1:=(by omega);have e3:fi.row=[PV.slice (fi.ah.map aE),PV.slice (fi.aq.map aF.row),PV.slice []]:=(by simp [az.row,hft]);simp only [e3]at hg;have hg':([PV.slice (fi.ah.map aE),PV.slice (fi.aq.map aF.row),PV.slice []]::l.map az.row)[l.length]'(by simp)=s.row:=hg;have tk3:List.take 3 s.row=s.row:=rfl;have hs3:3≤s.row.length:=Nat.le_refl _;have hnl: ¬H.length≤H.length-1:=(by omega);have tka:List.take (1+l.length) ([PV.slice (fi.ah.map aE),PV.slice (fi.aq.map aF.row),PV.slice []]::l.map az.row)=[PV.slice (fi.ah.map aE),PV.slice (fi.aq.map aF.row),PV.slice []]::l.map az.row:=List.take_of_length_le (by simp;omega)
   cases ho:kU r s with
   |true=>
    rw [ho]at OR;simp [C,S,PC,hl,hb,hb2,hall,hw,hlt,hlt2,hle,hg',tk3,OR];rw [ae (by simp)];simp [hnl,hle,tka,e3]
   |false=>
    rw [ho]at OR;simp [C,S,PC,hl,hb,hb2,hall,hw,hlt,hlt2,hle,hg',tk3,OR];rw [ae (by simp)];simp
 ·have he':(e==0)=false:=(by simpa using he);simp only [he,if_false]at S;simp [C,S,he,he'];rw [ae (by simp)];simp
theorem AE {r:aC}(h:sJ r)(hH:0<H.length):
  aL KC (aG KC) 61 [.pure (.agg r.row)] c H=
   some (.pure (.tuple (if (du r).2.2.2=0 then [.slice ((du r).1.map az.row), .int .i64 (-1), .int .i64 0]else [.slice [], .int .i64 (du r).2.2.1, .int .i64 (du r).2.2.2])),H):=by
 by_cases t0:r.aa=[]
 ·exact P1 h t0 hH
 ·exact PZ h t0 hH
end
section
variable {c:Nat} {H:aj}
noncomputable def H4 (r:aC):PV:= .tuple (if cv r=0 then (if (du r).2.2.2=0 then [.agg (du r).2.1.row, .int .i64 (-1), .int .i64 0]else [.agg [.slice [], .slice [], .slice []], .int .i64 (du r).2.2.1, .int .i64 (du r).2.2.2])else [.agg [.slice [], .slice [], .slice []], .int .i64 0, .int .i64 (cv r)])
noncomputable def P2 (r:aC):PV:= .tuple (if cv r=0 then (if (du r).2.2.2=0 then [.slice ((du r).1.map az.row), .int .i64 0]else [.slice [], .int .i64 (du r).2.2.2])else [.slice [], .int .i64 (cv r)])
theorem Cy {r:aC}(sh:eL r)(hH:0<H.length):bF KC (aG KC) 15 [.pure (.agg r.row)] c H=some (.pure (H4 r),H):=by
 unfold H4;by_cases h0:cv r=0
 ·rw [if_pos h0];exact PH (vJ h0 sh) hH
 ·rw [if_neg h0];refine aM (aH KC au Tryz.func15 rfl rfl IZ (by simp) hH ?_);have C:=fun c (H:aj) (hH:0<H.length)=>Cg (c:=c) (H:=H) r sh.s sh.l sh.p sh.t sh.a hH;have he':(cv r !=0)=true:=(by simpa using h0);rw [cI]at C⊢;simp [C,he',aI];rw [ae (by simp)];simp
theorem Cz {r:aC}(sh:eL r)(hH:0<H.length):aL KC (aG KC) 18 [.pure (.agg r.row)] c H=some (.pure (P2 r),H):=by
 unfold P2;refine aM (aW KC au Tryz.func18 rfl rfl VZ rfl rfl rfl (by simp) hH ?_);have C:=fun c (H:aj) (hH:0<H.length)=>rF (c:=c) (H:=H) (g:= .pure (.agg r.row)) r sh rfl hH;by_cases h0:cv r=0
 ·rw [if_pos h0];have R:=fun c (H:aj) (hH:0<H.length)=>AE (c:=c) (H:=H) (vJ h0 sh).tosJ hH;rw [h0]at C;generalize du r=q at R⊢;obtain⟨l,s,bc,e⟩:=q;simp only at R⊢;rw [cI]at C R⊢;by_cases he:e=0
  ·subst he;simp only [if_true]at R;simp [C,R];rw [ae (by simp)];simp
  ·simp only [he,if_false]at R;simp [C,R,he];rw [ae (by simp)];simp
 ·rw [if_neg h0];have he':(cv r !=0)=true:=(by simpa using h0);rw [cI]at C⊢;simp [C,he'];rw [ae (by simp)];simp
theorem Ku {r:aC}(sh:eL r)(hH:0<H.length):aL KC (aG KC) 16 [.pure (.agg r.row)] c H=some (.pure (H4 r),H):=by
 unfold H4;refine aM (aW KC au Tryz.func16 rfl rfl VY rfl rfl rfl (by simp) hH ?_);have C:=fun c (H:aj) (hH:0<H.length)=>rF (c:=c) (H:=H) (g:= .pure (.agg r.row)) r sh rfl hH;by_cases h0:cv r=0
 ·rw [if_pos h0];have hr:=vJ h0 sh;have R:=fun c (H:aj) (hH:0<H.length)=>AE (c:=c) (H:=H) hr.tosJ hH;rw [h0]at C;have hlast:(du r).1.getD ((du r).1.length-1) (ay r)=(du r).2.1:=by
   unfold du;simpa using nd (r:=r) r.ai.length (ay r) r.ai 0
  have hpos:0<(du r).1.length:=(by unfold du;simp);have hlen:(du r).1.length≤1000001:=by
   unfold du;simp only [List.length_cons];have:=pM (r:=r) r.ai.length (ay r) r.ai 0;have:=hr.al;omega
  generalize du r=q at R hlast hpos hlen⊢;obtain⟨l,s,bc,e⟩:=q;simp only at R hlast hpos hlen⊢;rw [cI]at C R⊢;by_cases he:e=0
  ·subst he;simp only [if_true]at R;have hlt:l.length-1<l.length:=(by omega);have hg:l[l.length-1]=s:=(by rw [←hlast,List.getD_eq_getElem?_getD,List.getElem?_eq_getElem hlt];rfl);have hw:IntKind.i64.wrap ((l.length:Int)-1)=((l.length-1:Nat):Int):=by
    rw [show (l.length:Int)-1=((l.length-1:Nat):Int)by omega]
    exact cU (by omega) (by omega)
   obtain⟨n,hn⟩: ∃n,l.length-1=n:=⟨_,rfl⟩;simp only [hn]at hg hw hlt;simp [C,R,hw,hlt,hg,aI,az.row];rw [ae (by simp)];simp
  ·simp only [he,if_false]at R;have he':(e !=0)=true:=(by simpa using he);simp [C,R,he,he',aI];rw [ae (by simp)];simp
 ·rw [if_neg h0];have he':(cv r !=0)=true:=(by simpa using h0);rw [cI]at C⊢;simp [C,he',aI];rw [ae (by simp)];simp
end
section
variable {c:Nat} {H:aj}
theorem zi {rows:List (List PV)}:cJ (if rows=[]then .aR else .pure (.slice rows))= .pure (.slice rows):=by
 split
 ·rename_i h;subst h;rfl
 ·rfl
theorem P3 (r:aC)(h:eL r)(ai:List ak)(hal:ai.length≤1000000)(hH:0<H.length):
  aL KC (aG KC) 67 [.pure (.agg r.row), .pure (.slice (ai.map ak.row))] c H=some (.pure (.agg ({r with ai:=ai}:aC).row),H):=by
 refine aM (aW KC au Tryz.func67 rfl rfl Wr rfl rfl rfl (by simp) hH ?_);rw [cI];have h1:=h.p;have h2:=h.t;have h4:=h.s;have h5:=h.l;have b1:r.ah.length*16≤1099511627776:=(by omega);have b2:r.aa.length*40≤1099511627776:=(by omega);have b3:r.seen.length*8≤1099511627776:=(by omega);have b4:r.aP.length*8≤1099511627776:=(by omega);have b5:ai.length*72≤1099511627776:=(by omega);have l1: ∀x:aS,x.row.length=2:=fun x=>rfl;have l2: ∀x:aY,x.row.length=5:=fun x=>rfl;have l3: ∀x:ak,x.row.length=9:=fun x=>rfl;have l4: ∀x:Int,(aE x).length=1:=fun x=>rfl;have A1:=fun fr hf=>jI (H:=H) (l:=H.length) (key:=8) (es:=2) (bytes:=16) (rows:=r.ah.map aS.row) (fr:=fr) rfl hf (by simpa using b1);have A2:=fun fr hf=>jI (H:=H) (l:=H.length) (key:=12) (es:=5) (bytes:=40) (rows:=r.aa.map aY.row) (fr:=fr) rfl hf (by simpa using b2);have A3:=fun fr hf=>jI (H:=H) (l:=H.length) (key:=18) (es:=1) (bytes:=8) (rows:=r.seen.map aE) (fr:=fr) rfl hf (by simpa using b3);have A4:=fun fr hf=>jI (H:=H) (l:=H.length) (key:=22) (es:=1) (bytes:=8) (rows:=r.aP.map aE) (fr:=fr) rfl hf (by simpa using b4);have A5:=fun fr hf=>jI (H:=H) (l:=H.length) (key:=27) (es:=9) (bytes:=72) (rows:=ai.map ak.row) (fr:=fr) rfl hf (by simpa using b5);simp [A1,A2,A3,A4,A5,l1,l2,l3,l4,aI];generalize hx:dF.box [.pure (.int .i64 r.wide), .pure (.int .i64 r.deep),cH (H.length,8) 2 (r.ah.map aS.row),cH (H.length,12) 5 (r.aa.map aY.row),cH (H.length,18) 1 (r.seen.map aE),cH (H.length,22) 1 (r.aP.map aE),cH (H.length,27) 9 (ai.map ak.row)]=x;obtain⟨F,hF⟩: ∃F,eG 27 9 (ai.map ak.row) (eG 22 1 (r.aP.map aE) (eG 18 1 (r.seen.map aE) (eG 12 5 (r.aa.map aY.row) (eG 8 2 (r.ah.map aS.row) [(2,x),(4,x)]))))=F:=⟨_,rfl⟩;have g1:r.ah.map aS.row≠[]→F.get 8=some (.arr 2 (r.ah.map aS.row) 0 false):=fun h=>by
  rw [←hF,bE (by decide),bE (by decide),bE (by decide),bE (by decide),dg h]
 have g2:r.aa.map aY.row≠[]→F.get 12=some (.arr 5 (r.aa.map aY.row) 0 false):=fun h=>by
  rw [←hF,bE (by decide),bE (by decide),bE (by decide),dg h]
 have g3:r.seen.map aE≠[]→F.get 18=some (.arr 1 (r.seen.map aE) 0 false):=fun h=>by
  rw [←hF,bE (by decide),bE (by decide),dg h]
 have g4:r.aP.map aE≠[]→F.get 22=some (.arr 1 (r.aP.map aE) 0 false):=fun h=>by
  rw [←hF,bE (by decide),dg h]
 have g5:ai.map ak.row≠[]→F.get 27=some (.arr 9 (ai.map ak.row) 0 false):=fun h=>by
  rw [←hF,dg h]
 rw [hF,ae (by simp),gS];have lt:H.length-1<H.length:=(by omega);rw [qb];have e:canon (dm ([.pure (.int .i64 r.wide), .pure (.int .i64 r.deep),cH (H.length,8) 2 (r.ah.map aS.row),cH (H.length,12) 5 (r.aa.map aY.row),cH (H.length,18) 1 (r.seen.map aE),cH (H.length,22) 1 (r.aP.map aE),cH (H.length,27) 9 (ai.map ak.row)].map (cP (F::H) (H.length-1))))= .pure (.agg ({r with ai:=ai}:aC).row):=by
  refine pk ?_;simp only [List.map_cons,List.map_nil,mc,dz rfl lt g1,dz rfl lt g2,dz rfl lt g3,dz rfl lt g4,dz rfl lt g5,zi];rfl
 rw [e]
end
section
variable {c:Nat} {H:aj}
theorem Kv (l:List ak)(hn:l.length≤1000000){F:Fr}(hf:F.get (ao c 7)=none):
  aL KC (aG KC) 75 [.pure (.slice (l.map ak.row))] c (F::H)=some (cH (H.length,ao c 7) 9 (l.map ak.row),eG (ao c 7) 9 (l.map ak.row) F::H):=by
 by_cases h:l=[]
 ·subst h;unfold aL;rw [show KC.xS 75=true from rfl]
  simp [mX,ff,ja]
 ·have h':l.map ak.row≠[]:=(by simpa using h);rw [uK (c:=c) (H:=F::H) l h hn (by simp) (by simpa using hf)];unfold cH eG;rw [if_neg h',if_neg h'];simp
end
section
variable {c:Nat} {H:aj}
end
section
variable {c:Nat} {H:aj}
end
section
variable {c:Nat} {H:aj}
end
theorem rdO {F:Fr} {H:aj} {n2 n3 n7:Nat} {r:aC} (h2:r.ah.map aS.row≠[]→F.get n2=some (.arr 2 (r.ah.map aS.row) 0 false)) (h3:r.aa.map aY.row≠[]→F.get n3=some (.arr 5 (r.aa.map aY.row) 0 false))
  (h7:r.ai.map ak.row≠[]→F.get n7=some (.arr 9 (r.ai.map ak.row) 0 false)):mC (F::H) (yi (H.length,n2) (H.length,n3) (H.length,n7) r) (.agg r.row):=by
 have g: ∀k,aj.get (F::H) (H.length,k)=F.get k:=fun k=>(by simp);rw [cI];unfold yi;rw [qj];simp only [mT,qi,mR,and_true,true_and];exact⟨og fun h=>(g _).trans (h2 h),og fun h=>(g _).trans (h3 h),og fun h=>(g _).trans (h7 h)⟩
section
variable {c:Nat} {H:aj}
def rJ (f f':Fr):Prop:=(f.gU→f'.gU)∧ ∀k,f'.get k=f.get k∨ ∃es rows v ro,f.get k=some (.arr es rows v ro)∧f'.get k=some (.arr es rows v true)
theorem rJ.refl (f:Fr):rJ f f:=⟨id,fun _=> .inl rfl⟩
theorem rJ.trans {a b d:Fr}(h1:rJ a b)(h2:rJ b d):rJ a d:=by
 refine⟨fun h=>h2.1 (h1.1 h),fun k=> ?_⟩;rcases h1.2 k with e1|⟨es,rows,v,ro,x1,y1⟩
 ·rcases h2.2 k with e2|⟨es,rows,v,ro,x2,y2⟩
  ·exact .inl (e2.trans e1)
  ·exact .inr ⟨es,rows,v,ro,e1▸x2,y2⟩
 ·rcases h2.2 k with e2|⟨es',rows',v',ro',x2,y2⟩
  ·exact .inr ⟨es,rows,v,ro,x1,e2.trans y1⟩
  ·rw [y1]at x2;cases x2;exact .inr ⟨es,rows,v,ro,x1,y2⟩
theorem rJ.box {f f':Fr}(h:rJ f f'){k:Nat}{cs:List GV}(hk:f.get k=some (.box cs)):f'.get k=some (.box cs):=by
 rcases h.2 k with e|⟨es,rows,v,ro,x,y⟩
 ·rw [e,hk]
 ·rw [hk]at x;cases x
theorem rJ.none {f f':Fr}(h:rJ f f'){k:Nat}(hk:f.get k=none):f'.get k=none:=by
 rcases h.2 k with e|⟨es,rows,v,ro,x,y⟩
 ·rw [e,hk]
 ·rw [hk]at x;cases x
theorem rJ.empty {f':Fr}(h:rJ [] f'):f'=[]:=by
 cases f' with
 |nil=>rfl
 |cons x r=>
  obtain⟨k,b⟩:=x;have:=h.none (k:=k) rfl;simp at this
inductive mm:aj→aj→Prop
 |nil:mm [] []
 |cons {f f':Fr} {H H':aj} (h:rJ f f') (t:mm H H'):mm (f::H) (f'::H')
theorem mm.refl: ∀H:aj,mm H H
 | []=> .nil
 |f::H=> .cons (rJ.refl f) (mm.refl H)
theorem mm.trans {A B D:aj}(h1:mm A B)(h2:mm B D):mm A D:=by
 induction h1 generalizing D with
 |nil=>exact h2
 |cons h t ih=>cases h2 with|cons h' t'=>exact .cons (h.trans h') (ih t')
theorem mm.len {A B:aj}(h:mm A B):B.length=A.length:=by
 induction h with
 |nil=>rfl
 |cons _ _ ih=>simp [ih]
theorem mm.get {A B:aj}(h:mm A B)(nm:Nm):B.get nm=A.get nm∨ ∃es rows v ro,A.get nm=some (.arr es rows v ro)∧B.get nm=some (.arr es rows v true):=by
 induction h with
 |nil=>exact .inl rfl
 | @cons f f' H H' h t ih=>
  have hl:=t.len;rw [aj.gX,aj.gX,hl];by_cases e:nm.1=H.length
  ·rw [if_pos e,if_pos e];exact h.2 nm.2
  ·rw [if_neg e,if_neg e];exact ih
theorem mm.sim {A B:aj}(h:mm A B):jr A B:=fun nm es rows v ro hg=>by
 rcases h.get nm with e|⟨es',rows',v',ro',x,y⟩
 ·exact⟨ro,e.trans hg⟩
 ·rw [hg]at x;cases x;exact⟨true,y⟩
theorem rJ.ins {f:Fr}{k es:Nat}{rows:List (List PV)}{v:Nat}{ro:Bool}(h:f.get k=some (.arr es rows v ro)):rJ f (f.ins k (.arr es rows v true)):=by
 refine⟨fun hs=>Fr.cB hs,fun j=> ?_⟩;by_cases e:j=k
 ·subst e;exact .inr ⟨es,rows,v,ro,h,Fr.a7 ..⟩
 ·exact .inl (Fr.aw _ e _)
theorem mm.set {nm:Nm}{es:Nat}{rows:List (List PV)}{v:Nat}{ro:Bool}: ∀{H:aj},H.get nm=some (.arr es rows v ro)→mm H (H.set nm (.arr es rows v true))
 | [],h=>by simp [aj.get]at h
 |f::H,h=>by
  rw [aj.gX]at h;simp only [aj.set];by_cases e:nm.1=H.length
  ·rw [if_pos e]at h⊢;exact .cons (rJ.ins h) (mm.refl H)
  ·rw [if_neg e]at h⊢;exact .cons (rJ.refl f) (mm.set h)
theorem xq (H:aj)(g:GV):mm H (dH H g).2:=by
 cases g with
 |aZ nm es top lo len=>
  simp only [dH,dI]
  cases hg:H.get nm with
  |none=>exact mm.refl H
  |some b=>
   cases b with
   |arr es' elems vf ro=>
    simp only;split
    ·exact mm.set hg
    ·exact mm.refl H
   |_=>exact mm.refl H
 |_=>exact mm.refl H
theorem uY: ∀(l:List GV) (H:aj),mm H (fO H l).2
 | [],H=>mm.refl H
 |g::l,H=>(xq H g).trans (uY l _)
theorem zn (H:aj)(g:GV):mm H (dr H g).2:=by
 cases g with
 |agg l=>exact uY l H
 |_=>exact xq H _
theorem sT: ∀(l:List PV) (H:aj),bu H (l.map .pure)=(l.map .pure,H)
 | [],H=>rfl
 |p::l,H=>by
  rw [List.map_cons];simp only [bu];have e:dr H (.pure p)=(.pure p,H):=rfl;rw [e];simp only [sT l H]
theorem Yd {l:List GV}{m:List PV}(h:C9 H l m):mC H (dm l) (.agg m):=by
 rw [tJ]
 cases hl:bC l with
 |none=>exact h
 |some ps=>
  have e:=nP hl;subst e;have: ∀(ps m:List PV),C9 H (ps.map .pure) m→ps=m:=fun ps=>by
   induction ps with
   |nil=>intro m h;cases m with|nil=>rfl|cons _ _=>exact h.elim
   |cons p ps ih=>intro m h;cases m with|nil=>exact h.elim|cons q m=>rw [List.map_cons]at h;rw [show p=q from h.1,ih m h.2]
  show PV.agg ps= .agg m
  rw [this ps m h]
end
section
variable {c:Nat} {H:aj}
theorem ku {f:FuncId}(h1:KC.xS f=false)(h2:KC.Be f=false)(h3:KC.ID f=true)(ps:List PV):aL KC (aG KC) f (ps.map .pure) c H=bF KC (aG KC) f (ps.map .pure) c H:=by
 rw [gZ h1 h2 h3,sT]
end
section
variable {c:Nat} {H:aj}
noncomputable def lL:aC→Int:=mI fun r=>if cv r=0 then (du r).2.2.2 else cv r
theorem pN (r:aC):lL r=if cv r=0 then (du r).2.2.2 else cv r:=by rw [lL,cO]
theorem EB {r:aC}: ∃(s:az) (n:Int),H4 r= .tuple [.agg s.row, .int .i64 n, .int .i64 (lL r)]:=by
 unfold H4;rw [pN];by_cases h0:cv r=0
 ·rw [if_pos h0,if_pos h0];by_cases he:(du r).2.2.2=0
  ·rw [if_pos he,he];exact⟨_,_,rfl⟩
  ·rw [if_neg he];exact⟨⟨[],[],[]⟩,_,rfl⟩
 ·rw [if_neg h0,if_neg h0];exact⟨⟨[],[],[]⟩,0,rfl⟩
theorem Ye {r:aC}:P2 r= .tuple [.slice (if lL r=0 then (du r).1.map az.row else []), .int .i64 (lL r)]:=by
 unfold P2;rw [pN];by_cases h0:cv r=0
 ·rw [if_pos h0,if_pos h0];by_cases he:(du r).2.2.2=0
  ·rw [if_pos he,if_pos he,he]
  ·rw [if_neg he,if_neg he]
 ·rw [if_neg h0,if_neg h0,if_neg h0]
noncomputable def El:aC→Int→Int→Int:=mI fun r act kind=>
 if lL r≠0 then lL r else if cC act 0 ((r.ai.length:Int)-1)=false then 7 else if cC kind 1 3=false then 4 else if kind=2∧(r.ai.getD act.toNat cA).kind=1 then 3 else 0
theorem vK (r:aC)(act kind:Int):El r act kind=if lL r≠0 then lL r else if cC act 0 ((r.ai.length:Int)-1)=false then 7 else if cC kind 1 3=false then 4 else if kind=2∧(r.ai.getD act.toNat cA).kind=1 then 3 else 0:=by rw [El,cO]
theorem xr {r:aC}(sh:eL r)(act kind:Int)(hH:0<H.length):
  bF KC (aG KC) 69 [.pure (.agg r.row), .pure (.int .i64 act), .pure (.int .i64 kind)] c H=some (.pure (.int .i64 (El r act kind)),H):=by
 refine aM (aH KC au Tryz.func69 rfl rfl Wt (by simp) hH ?_);have R:=fun(c:Nat) (H:aj) (hH:0<H.length)=>(ku (f:=15) (c:=c) (H:=H) rfl rfl rfl [.agg r.row]).trans (Cy (c:=c) sh hH);obtain⟨s,n,hs⟩:=EB (r:=r);rw [hs]at R;have I:=fun(c:Nat) (x lo hi:Int) (H:aj) (hH:0<H.length)=>dx (c:=c) (x:=x) (lo:=lo) (hi:=hi) (H:=H) hH;have ha:=sh.a;have hw:IntKind.i64.wrap ((r.ai.length:Int)-1)=(r.ai.length:Int)-1:=cU (by omega) (by omega);simp only [List.map_cons,List.map_nil]at R;rw [cI]at R⊢;rw [vK];unfold az.row at R;by_cases he:lL r=0
 ·rw [he]at R⊢;by_cases h1:cC act 0 ((r.ai.length:Int)-1)=true
  ·obtain⟨a1,a2⟩:=nz.1 h1;obtain⟨k,rfl⟩:=Int.eq_ofNat_of_zero_le a1;have hk:k<r.ai.length:=(by omega);have hg:r.ai.getD k cA=r.ai[k]:=bf hk;by_cases h2:cC kind 1 3=true
   ·by_cases h3:kind=2
    ·subst h3;have h2':cC 2 1 3=true:=(by decide);by_cases h4:r.ai[k].kind=1
     ·simp [R,I,hw,h1,h2',hk,ak.row,h4,ae,aI,hg]
     ·have h4':(r.ai[k].kind==1)=false:=(by simpa using h4);simp [R,I,hw,h1,h2',hk,ak.row,h4,h4',ae,aI,hg]
    ·have h3':(kind==2)=false:=(by simpa using h3);simp [R,I,hw,h1,h2,h3,h3',ae,aI]
   ·have h2':cC kind 1 3=false:=(by simpa using h2);simp [R,I,hw,h1,h2',ae,aI]
  ·have h1':cC act 0 ((r.ai.length:Int)-1)=false:=(by simpa using h1);simp [R,I,hw,h1',ae,aI]
 ·have he':(lL r !=0)=true:=(by simpa using he);simp [R,he,he',ae,aI]
end
section
variable {c:Nat} {H:aj}
theorem FX (l:List ak): ∀n,jE l n≤n
 |0=>Nat.le_refl _
 |n+1=>by
  have:=FX l n;unfold jE;split<;>omega
def P4:dF:= .box [.aR, .aR, .aR]
theorem H5 (r:aC) {act:Nat} (l:PV) (h:act<r.ai.length) (hn:r.ai.length≤1000000) (Q:GX→bN→Prop)
  (h1:Q (.exit 0) ⟨[(1, .pure l),(6, .aA (H.length,6) 0),(7, .pure (.int .i64 (jE r.ai act)))],[(3,aD r),(6,P4)]::H,34⟩): ∀(k n:Nat),n+k=act→
  fM KC au 110 (lp Tryz.f110 0) [1,2,3,6,7,8] [1,6,7] Q [(1, .pure l),(2, .pure (.int .i64 act)),(3, .aA (H.length,3) 0),(6, .aA (H.length,6) 0),(7, .pure (.int .i64 (jE r.ai n))),(8, .pure (.int .i64 ((n:Int)+1)))] ([(3,aD r),(6,P4)]::H) 34:=by
 intro k
 induction k with
 |zero=>
  intro n hk;obtain rfl:n=act:=(by omega);have hlt: ¬(n:Int)+1≤n:=(by omega);apply ax;conv=>arg 4;whnf
  simp [hlt,aD,P4];simpa [aD,P4]using h1
 |succ k ih=>
  intro n hk;have hle:(n:Int)+1≤act:=(by omega);have h0:n<r.ai.length:=(by omega);have h2:n+1<r.ai.length:=(by omega);have g0:=bf (d:=cA) h0;have g2:=bf (d:=cA) h2;have jt:Int.toNat ((n:Int)+1)=n+1:=(by omega);have jn: ¬(n:Int)+1<0:=(by omega);have jl:(n:Int)+1<r.ai.length:=(by omega);have w2:=cU (x:=(n:Int)) (by omega) (by omega);have w3:=cU (x:=(n:Int)+1+1) (by omega) (by omega);have cl:=FX r.ai n;have w4:=cU (x:=(jE r.ai n:Int)+1) (by omega) (by omega);have ih':=ih (n+1) (by omega);by_cases hne:r.ai[n+1].bc=r.ai[n].bc
  ·have e:jE r.ai (n+1)=jE r.ai n:=by
    rw [jE,g0,g2,if_neg (by simpa using hne)];rfl
   rw [e]at ih';have hb:(r.ai[n+1].bc !=r.ai[n].bc)=false:=(by simpa using hne);apply ax;conv=>arg 4;whnf
   simp [hle,aD,P4,jt,jn,jl,h0,h2,w2,w3,ak.row,hb];simpa [aD,P4]using ih'
  ·have e:jE r.ai (n+1)=jE r.ai n+1:=by
    rw [jE,g0,g2,if_pos hne]
   rw [e]at ih';have hb:(r.ai[n+1].bc !=r.ai[n].bc)=true:=(by simpa using hne);apply ax;conv=>arg 4;whnf
   simp [hle,aD,P4,jt,jn,jl,h0,h2,w2,w3,w4,ak.row,hb];simpa [aD,P4]using ih'
theorem EC {r:aC}{act:Nat}(h:act<r.ai.length)(hn:r.ai.length≤1000000)(l:List az){s:az}(hs:l[jE r.ai act]? =some s)(hH:0<H.length):
  aL KC (aG KC) 110 [.pure (.agg r.row), .pure (.slice (l.map az.row)), .pure (.int .i64 act)] c H=some (.pure (.agg s.row),H):=by
 refine aM (aW KC au Tryz.func110 rfl rfl NT rfl rfl rfl (by simp) hH ?_);have L:=fun Q h1=>H5 (H:=H) r (.slice (l.map az.row)) h hn Q h1 act 0 (by omega);have c0:jE r.ai 0=0:=rfl;rw [c0]at L;rw [cI];simp [aD,P4]at L;have hl:jE r.ai act<l.length:=by
  rcases Nat.lt_or_ge (jE r.ai act) l.length with h|h
  ·exact h
  ·rw [List.getElem?_eq_none h]at hs;cases hs
 have hg:l[jE r.ai act]=s:=(by rw [List.getElem?_eq_getElem hl]at hs;simpa using hs);simp;refine L _ ?_;simp [hl,hg,az.row,aI];rw [ae (by simp)];simp [az.row]
end
section
variable {c:Nat} {H:aj}
theorem CA (hH:0<H.length):aL KC (aG KC) 111 [.aR] c H=some (.pure (.slice []),H):=by
 rw [gZ rfl rfl rfl];exact(mE (K:=KC) (b:=[.pure (.slice (([]:List ak).map ak.row))]) rfl).trans (uL (c:=c) [] (by simp) hH)
theorem ED (l:List ak)(hn:l.length≤1000000){nm:Nm}{v:Nat}(hg:H.get nm=some (.arr 9 (l.map ak.row) v false))(hv:v≤l.length)(hH:0<H.length):
  aL KC (aG KC) 111 [.aZ nm 9 l.length 0 l.length] c H=some (.pure (.slice ((cS l).map ak.row)),H.set nm (.arr 9 (l.map ak.row) v true)):=by
 rw [gZ rfl rfl rfl];have e:bu H [.aZ nm 9 l.length 0 l.length]=([.pure (.slice (l.map ak.row))],H.set nm (.arr 9 (l.map ak.row) v true)):=by
  have tl:List.take l.length (l.map ak.row)=l.map ak.row:=List.take_of_length_le (by simp);simp [bu,dr,dH,dI,hg,hv,tl]
 rw [e];exact uL (c:=c) l hn (by simpa using hH)
def pO (H:aj)(fr:Fr)(g:GV)(A:List ak):Prop:=
 (g= .aR∧A=[])∨(A≠[]∧ ∃key v,g= .aZ (H.length,key) 9 A.length 0 A.length∧fr.get key=some (.arr 9 (A.map ak.row) v false)∧v≤A.length)
theorem pO.el {fr:Fr}{g:GV}{A:List ak}(h:pO H fr g A): ∃H',hJ (fr::H) g=some (A.map ak.row,H')∧H'=fr::H:=by
 rcases h with ⟨rfl,rfl⟩|⟨hne,key,v,rfl,hg,hv⟩
 ·exact⟨_,by simp,rfl⟩
 ·have tl:List.take A.length (A.map ak.row)=A.map ak.row:=List.take_of_length_le (by simp);refine⟨_, ?_,rfl⟩;simp [hg,hv,tl]
theorem sU {fr:Fr}{gA:GV}{A B:List ak}(hA:pO H fr gA A)(hf:fr.get 83=none)(hn:A.length+B.length≤1000000)(R:GV×aj→Prop)(h: ∀fr',R (.pure (.slice ((cS (A++B)).map ak.row)),fr'::H)):
  kW (xR H.length 83 gA 9 72 (B.map ak.row) (fr::H)) fun x=>kW (aL KC (aG KC) 111 [x.1] 84 x.2) R:=by
 have N:=fun fr=>CA (c:=84) (H:=fr::H) (by simp);have S:=fun l hn fr nm v hg hv=>ED (c:=84) (H:=fr::H) l hn (nm:=nm) (v:=v) hg hv (by simp);rcases hA with ⟨rfl,rfl⟩|⟨hne,key,v,rfl,hg,hv⟩
 ·by_cases hB:B=[]
  ·subst hB;have h':=h fr;have e:cS ([]++[])=[]:=rfl;rw [e]at h';simp [N];exact h'
  ·have hm: ¬H.length+1≤H.length:=(by omega);have hb:B.length*72≤1099511627776:=(by simp at hn;omega);have S':=fun fr hg=>S B (by simpa using hn) fr (H.length,83) 0 hg (Nat.zero_le _);simp at S';simp [hB,hf,hm,hb];rw [S' _ (Fr.a7 _ _ _)];simpa using h _
 ·by_cases hB:B=[]
  ·subst hB;have S':=S A (by simpa using hn) fr (H.length,key) v (by simpa using hg) hv;have hb:A.length*72≤1099511627776:=(by simp at hn;omega);simp [hg,hv,hb,S'];simpa using h _
  ·have hb:(A.length+B.length)*72≤1099511627776:=(by omega);have S':=fun fr hg=>S (A++B) (by simpa using hn) fr (H.length,key) v hg (by simp;omega);simp at S';simp [hB,hg,hv,hb];rw [S' _ (Fr.a7 _ _ _)];simpa using h _
theorem lM {key:Nat} {fr:Fr} (A:List ak) (hf:fr.get key=none) (hn:A.length≤1000000) (R:GV×aj→Prop)
  (h: ∀g fr',pO H fr' g A→(∀q top,g= .aZ (H.length,q) 9 top 0 top→q=key)→(∀k,k≠key→fr'.get k=fr.get k)→R (g,fr'::H)):
  kW (xR H.length key .aR 9 72 (A.map ak.row) (fr::H)) R:=by
 by_cases hA:A=[]
 ·subst hA;have:=h .aR fr (Or.inl ⟨rfl,rfl⟩) (fun q top e=>by cases e) (fun _ _=>rfl);simpa using this
 ·have hm: ¬H.length+1≤H.length:=(by omega);have hb:A.length*72≤1099511627776:=(by omega);have:=h (.aZ (H.length,key) 9 A.length 0 A.length) (fr.ins key (.arr 9 (A.map ak.row) 0 false)) (Or.inr ⟨hA,key,0,rfl,Fr.a7 _ _ _,Nat.zero_le _⟩) (fun q top e=>by cases e;rfl) (fun k hk=>Fr.aw _ hk _);simp [hA,hf,hm,hb];exact this
theorem pO.frame {fr fr':Fr}{g:GV}{A:List ak}(h:pO H fr g A){k:Nat}(hk: ∀key top,g= .aZ (H.length,key) 9 top 0 top→key≠k)(hf: ∀q,q≠k→fr'.get q=fr.get q):pO H fr' g A:=by
 rcases h with h|⟨hne,key,v,rfl,hg,hv⟩
 ·exact Or.inl h
 ·exact Or.inr ⟨hne,key,v,rfl,by rw [hf _ (hk _ _ rfl)];exact hg,hv⟩
theorem sV {key:Nat} {fr:Fr} {g:GV} {A:List ak} (a:ak) (L:pO H fr g A) (hf:fr.get key=none) (hn:A.length+1≤1000000) (R:GV×aj→Prop)
  (h: ∀g' fr',pO H fr' g' (A++[a])→(∀q top,g'= .aZ (H.length,q) 9 top 0 top→q=key∨ ∃top,g= .aZ (H.length,q) 9 top 0 top)→(∀k,k≠key→(∀top,g≠ .aZ (H.length,k) 9 top 0 top)→fr'.get k=fr.get k)→R (g',fr'::H)):
  kW (xR H.length key g 9 72 [a.row] (fr::H)) R:=by
 rcases L with ⟨rfl,rfl⟩|⟨hne,dw,v,rfl,hg,hv⟩
 ·have hm: ¬H.length+1≤H.length:=(by omega);have:=h (.aZ (H.length,key) 9 1 0 1) (fr.ins key (.arr 9 [a.row] 0 false)) (Or.inr ⟨by simp,key,0,rfl,Fr.a7 _ _ _,Nat.zero_le _⟩) (fun q top e=>by cases e;exact Or.inl rfl) (fun k hk _=>Fr.aw _ hk _);simp [hf,hm];exact this
 ·have hb:(A.length+1)*72≤1099511627776:=(by omega);have:=h (.aZ (H.length,dw) 9 (A.length+1) 0 (A.length+1)) (fr.ins dw (.arr 9 (A.map ak.row++[a.row]) v false)) (Or.inr ⟨by simp,dw,v,by simp,by rw [Fr.a7];simp,by simp;omega⟩) (fun q top e=>by cases e;exact Or.inr ⟨_,rfl⟩) (fun k _ hk=>Fr.aw _ (fun e=>by subst e;exact hk _ rfl) _);simp [hg,hv,hb];exact this
theorem P6 (B:List ak)(aQ:Int):kN B 0 aQ=B.map (late aQ):=by simp [kN]
theorem pO.cl {fr:Fr}{g:GV}{A:List ak}(h:pO H fr g A)(X:aj):clean X H.length g=g:=by
 rcases h with ⟨rfl,rfl⟩|⟨hne,key,v,rfl,hg,hv⟩<;>simp
theorem H6 {g3:GV} (hc: ∀X,clean X H.length g3=g3) {a:ak} {B:List ak} (hB:B≠[]) (hn:B.length≤1000000) (tm: ∀b∈B,0≤b.bc∧b.bc≤1000000) {fr0:Fr} (g9:fr0.get 9=some (.box (a.row.map .pure))) (Q:GX→bN→Prop)
  (h1: ∀fr g,pO H fr g (B.map (late a.aQ))→(∀k,k≠30→fr.get k=fr0.get k)→Q (.exit 1) ⟨[(10,g3),(11,g)],fr::H,85⟩): ∀(k i v:Nat) (fr:Fr),i+k=B.length→v≤B.length→fr.get 30=some (.arr 9 ((gF B 0 a.aQ i).map ak.row) v false)→(∀k,k≠30→fr.get k=fr0.get k)→
  fM KC au 72 (lp Tryz.f72 0) [9,10,11,12] [10,11] Q [(9, .aA (H.length,9) 0),(10,g3),(11, .aZ (H.length,30) 9 B.length 0 B.length),(12, .pure (.int .i64 i))] (fr::H) 85:=by
 intro k
 induction k with
 |zero=>
  intro i v fr hi hv hf hk;have e:i=B.length:=(by omega);subst e;rw [FL _ _ _ (by omega),P6]at hf;have h1':=h1 fr (.aZ (H.length,30) 9 B.length 0 B.length) (Or.inr ⟨by simpa using hB,30,v,by simp,hf,by simpa using hv⟩) hk;apply ax;conv=>arg 4;whnf
  simp [hc];exact h1'
 |succ k ih=>
  intro i v fr hi hv hf hk;have hia:i<B.length:=(by omega);have hw:=cU (x:=(i:Int)+1) (by omega) (by omega);have hml:=yX B 0 a.aQ (by omega) i (by omega);have g:=yY B 0 a.aQ (by omega) hia;have gs:=wZ B 0 a.aQ (by omega) (Nat.zero_le _) hia;have tmi:=tm _ (List.getElem_mem hia);have hwt:=cU (x:=B[i].bc+1) (by omega) (by omega);have G: ∀h,(gF B 0 a.aQ i)[i]'h=B[i]:=fun h=>(by rw [List.getElem?_eq_getElem h]at g;simpa using g);have g9':fr.get 9=some (.box (a.row.map .pure)):=(by rw [hk 9 (by decide)];exact g9);simp only [ak.row,List.map_cons,List.map_nil]at g9';by_cases hwho:B[i].aQ=a.aQ
  ·have ih':=ih (i+1) B.length (fr.ins 30 (.arr 9 ((gF B 0 a.aQ (i+1)).map ak.row) B.length false)) (by omega) (Nat.le_refl _) (Fr.a7 _ _ _) (fun q hq=>by rw [Fr.aw _ hq];exact hk q hq);rw [←gs]at ih';have el:late a.aQ B[i]={B[i]with bc:=B[i].bc+1}:=(by unfold late;rw [if_pos hwho]);rw [el]at ih';generalize gF B 0 a.aQ i=R at G hml ih' hf⊢;have hwb:(B[i].aQ==a.aQ)=true:=(by simpa using hwho);have gi: ∀(q:Nat) (x:dF) (f:Fr),(f.ins q x).get q=some x:=fun q x f=>Fr.a7 q x f;apply ax;conv=>arg 4;whnf
   simp [hia,hml,hv,G,hw,hwt,hwb,hwho,ak.row,aI,hf,g9',gi,hc];simpa [ak.row,hwho,List.map_set]using ih'
  ·have ih':=ih (i+1) v fr (by omega) hv (by
    rw [←gs];have el:late a.aQ B[i]=B[i]:=(by unfold late;rw [if_neg hwho]);rw [el];have es:(gF B 0 a.aQ i).set i B[i]=gF B 0 a.aQ i:=by
     have hil:i<(gF B 0 a.aQ i).length:=(by omega);conv=>lhs;rw [←G hil]
     exact List.set_getElem_self hil
    rw [es];exact hf) hk
   generalize gF B 0 a.aQ i=R at G hml hf⊢;have hwb:(B[i].aQ==a.aQ)=false:=(by simpa using hwho);apply ax;conv=>arg 4;whnf
   simp [hia,hml,hv,G,hw,hwb,ak.row,hf,g9',hc];simpa using ih'
theorem EE {r:aC}(hr:D7 r){act:Nat}(h:act<r.ai.length)(hp:r.ai.Pairwise fun a b=>a.bc≤b.bc)(tm: ∀a∈r.ai,0≤a.bc∧a.bc≤1000000)(hn:r.ai.length≤1000000){kind:Int}(hk2:kind=2→r.ai[act].kind≠1)(sc:List az)(hs:sc[jE r.ai act]? =some (yg r r.ai[act]))(hH:0<H.length):
  aL KC (aG KC) 72 [.pure (.agg r.row), .pure (.slice (sc.map az.row)), .pure (.int .i64 act), .pure (.int .i64 kind)] c H=some (.pure (.slice ((fQ r act kind).map ak.row)),H):=by
 have hne:r.ai≠[]:=fun e=>(by rw [e]at h;simp at h);have hg:r.ai.getD act cA=r.ai[act]:=bf h;refine aM (aW KC au Tryz.func72 rfl rfl Ww rfl rfl rfl (by simp) hH ?_);have hw:=cU (x:=(act:Int)+1) (by omega) (by omega);have hnl: ¬H.length≤H.length-1:=(by omega);have B:=fun(c:Nat) (H:aj) (hH:0<H.length)=>EC (c:=c) (H:=H) h hn sc hs hH;rw [cI]at B⊢;unfold fQ;rw [hg];by_cases e2:kind=2
 ·have t1:List.take act (r.ai.map ak.row)=(r.ai.take act).map ak.row:=(by rw [List.map_take]);have t2:List.drop (act+1) (r.ai.map ak.row)=(r.ai.drop (act+1)).map ak.row:=(by rw [List.map_drop]);have r9: ∀l:List ak,(∀x:ak,x∈l→x.row.length=9)=True:=fun l=>eq_true fun x _=>rfl;have t3:List.drop (act+1) (List.take r.ai.length (r.ai.map ak.row))=(r.ai.drop (act+1)).map ak.row:=(by rw [List.take_of_length_le (by simp),t2]);have jn: ¬(act:Int)+1<0:=(by omega);have jl:act+1≤r.ai.length:=h;subst e2;rw [if_pos rfl];have hab:=hr.ab _ (List.getElem_mem h);have hfl:=hab.flip (hk2 rfl);have hhand:(r.ai[act]'h).hand=0∨(r.ai[act]'h).hand=1:=hab.hand;have hwh:IntKind.i64.wrap (1-(r.ai[act]'h).hand)=1-(r.ai[act]'h).hand:=cU (by omega) (by omega);simp [hw,h,ak.row,Nat.le_of_lt h,-List.map_take,-List.map_drop,t1,-dc];refine lM (key:=23) (r.ai.take act) (by simp) (by simp;omega) _ fun g1 fr1 L1 k1 f1=> ?_;have g4:fr1.get 4=some (aD r):=(by rw [f1 4 (by decide)];simp [aD]);have g30:fr1.get 30=none:=(by rw [f1 30 (by decide)];simp);simp [g4,aD,hw,-List.map_take,-List.map_drop,-dc,jn,jl,h,t3,r9];refine lM (key:=30) (r.ai.drop (act+1)) g30 (by simp;omega) _ fun g2 fr2 L2 k2 f2=> ?_;have L1':=L1.frame (k:=30) (fun q top e=>by rw [k1 q top e];decide) f2;have g9:fr2.get 9=some (.box ((r.ai[act]'h).row.map .pure)):=(by rw [f2 9 (by decide),f1 9 (by decide)];simp [ak.row]);have g4':fr2.get 4=some (aD r):=(by rw [f2 4 (by decide)];exact g4);have gi: ∀(q:Nat) (x:dF) (f:Fr),(f.ins q x).get q=some x:=fun q x f=>Fr.a7 q x f;have go: ∀(x:dF) (f:Fr),(f.ins 9 x).get 4=f.get 4:=fun x f=>Fr.aw x (by decide) f;obtain⟨a',ha'⟩: ∃a':ak,{(r.ai[act]'h)with hand:=1-(r.ai[act]'h).hand}=a':=⟨_,rfl⟩;have hpW:=hr.w.w1;have hww:r.wide≠0:=(by omega);have P:=fun(c:Nat) (H:aj) (hH:0<H.length)=>jG (c:=c) (H:=H) (Ci hr (r.ai[act]'h)).toHe hfl.wl hr.w.pl hww (Ay hfl) hH;have hrow:[PV.int .i64 (r.ai[act]'h).bc, .int .i64 (r.ai[act]'h).aQ, .int .i64 (r.ai[act]'h).kind, .int .i64 (1-(r.ai[act]'h).hand), .int .i64 (r.ai[act]'h).bh, .int .i64 (r.ai[act]'h).cell, .int .i64 (r.ai[act]'h).other, .int .i64 (r.ai[act]'h).cY, .int .i64 (r.ai[act]'h).jV]=a'.row:=(by rw [←ha'];rfl);have hbox:[GV.pure (.int .i64 (r.ai[act]'h).bc), .pure (.int .i64 (r.ai[act]'h).aQ), .pure (.int .i64 (r.ai[act]'h).kind), .pure (.int .i64 (1-(r.ai[act]'h).hand)), .pure (.int .i64 (r.ai[act]'h).bh), .pure (.int .i64 (r.ai[act]'h).cell), .pure (.int .i64 (r.ai[act]'h).other), .pure (.int .i64 (r.ai[act]'h).cY), .pure (.int .i64 (r.ai[act]'h).jV)]=a'.row.map .pure:=(by rw [←ha'];rfl);rw [cI,ha']at P;rw [←hrow]at P;have g83:fr2.get 83=none:=(by rw [f2 83 (by decide),f1 83 (by decide)];simp);have g48:fr2.get 48=none:=(by rw [f2 48 (by decide),f1 48 (by decide)];simp);have L1'':=L1'.frame (fr':=fr2.ins 9 (.box (a'.row.map .pure))) (k:=9) (fun q top e=>by rw [k1 q top e];decide) (fun q hq=>Fr.aw _ hq _);have L2':=L2.frame (fr':=fr2.ins 9 (.box (a'.row.map .pure))) (k:=9) (fun q top e=>by rw [k2 q top e];decide) (fun q hq=>Fr.aw _ hq _);simp only [ha']
  cases hpos:bW r (yg r r.ai[act]) r.ai[act].aQ.toNat a' with
  |true=>
   rw [hpos]at P;simp [g9,g4',aD,ak.row,hwh,-List.map_take,-List.map_drop,-dc,gi,go,B,P];rw [hbox,hrow];refine sV (key:=48) a' L1'' (by rw [Fr.aw _ (by decide)];exact g48) (by simp;omega) _ fun g3 fr3 L3 k3 f3=> ?_;have L2'':pO H fr3 g2 (r.ai.drop (act+1)):=by
    rcases L2' with h0|⟨hne,key,v,rfl,hg,hv⟩
    ·exact Or.inl h0
    ·have:=k2 key _ rfl;subst this;exact Or.inr ⟨hne,_,v,rfl,by rw [f3 _ (by decide) (fun top e=>absurd (k1 _ top e) (by decide))];exact hg,hv⟩
   obtain⟨H',he,rfl⟩:=L2''.el;simp [he,-List.map_take,-List.map_drop,-dc,r9];refine sU L3 (by rw [f3 83 (by decide) (fun top e=>absurd (k1 _ top e) (by decide)),Fr.aw _ (by decide)];exact g83) (by simp;omega) _ fun fr4=> ?_;have es:r.ai.set act a'=(r.ai.take act++[a'])++r.ai.drop (act+1):=by
    rw [List.set_eq_take_append_cons_drop,if_pos h];simp
   have hps:(r.ai.set act a').Pairwise fun a b=>a.bc≤b.bc:=by
    have e1:(r.ai.set act a').map ak.bc=r.ai.map ak.bc:=by
     rw [List.map_set,←ha'];have e2:(r.ai.map ak.bc)[act]'(by simpa using h)=(r.ai[act]'h).bc:=(by simp);rw [show ({(r.ai[act]'h)with hand:=1-(r.ai[act]'h).hand}:ak).bc=(r.ai.map ak.bc)[act]'(by simpa using h)from e2.symm]
     exact List.set_getElem_self _
    have e3:=List.pairwise_map.2 hp;rw [←e1]at e3;exact List.pairwise_map.1 e3
   rw [←es,nV hps];rw [ae (by simp)];simp;rfl
  |false=>
   rw [hpos]at P;simp [g9,g4',aD,ak.row,hwh,-List.map_take,-List.map_drop,-dc,gi,go,B,P];rw [hbox];obtain⟨H',he,rfl⟩:=L2'.el;simp [he,-List.map_take,-List.map_drop,-dc,r9];refine sU L1'' (by rw [Fr.aw _ (by decide)];exact g83) (by simp;omega) _ fun fr3=> ?_;have ee:r.ai.eraseIdx act=r.ai.take act++r.ai.drop (act+1):=List.eraseIdx_eq_take_drop_succ ..;rw [←ee,nV (hp.sublist (List.eraseIdx_sublist ..))];rw [ae (by simp)];simp
 ·have e2':(kind==2)=false:=(by simpa using e2);rw [if_neg e2];by_cases e3:kind=3
  ·have t1:List.take act (r.ai.map ak.row)=(r.ai.take act).map ak.row:=(by rw [List.map_take]);have t2:List.drop (act+1) (r.ai.map ak.row)=(r.ai.drop (act+1)).map ak.row:=(by rw [List.map_drop]);have r9: ∀l:List ak,(∀x:ak,x∈l→x.row.length=9)=True:=fun l=>eq_true fun x _=>rfl;have t3:List.drop (act+1) (List.take r.ai.length (r.ai.map ak.row))=(r.ai.drop (act+1)).map ak.row:=(by rw [List.take_of_length_le (by simp),t2]);have jn: ¬(act:Int)+1<0:=(by omega);have jl:act+1≤r.ai.length:=h;have wa:=cU (x:=(r.ai[act]'h).bc+1) (by have:=tm _ (List.getElem_mem h);omega) (by have:=tm _ (List.getElem_mem h);omega);subst e3;rw [if_pos rfl];simp [hw,h,ak.row,Nat.le_of_lt h,-List.map_take,-List.map_drop,t1,-dc];refine lM (key:=23) (r.ai.take act) (by simp) (by simp;omega) _ fun g1 fr1 L1 k1 f1=> ?_;have g4:fr1.get 4=some (aD r):=(by rw [f1 4 (by decide)];simp [aD]);have g30:fr1.get 30=none:=(by rw [f1 30 (by decide)];simp);simp [g4,aD,hw,-List.map_take,-List.map_drop,-dc,jn,jl,h,t3,r9];refine lM (key:=30) (r.ai.drop (act+1)) g30 (by simp;omega) _ fun g2 fr2 L2 k2 f2=> ?_;have L1':=L1.frame (k:=30) (fun q top e=>by rw [k1 q top e];decide) f2;have g9:fr2.get 9=some (.box ((r.ai[act]'h).row.map .pure)):=(by rw [f2 9 (by decide),f1 9 (by decide)];simp [ak.row]);have gi: ∀(q:Nat) (x:dF) (f:Fr),(f.ins q x).get q=some x:=fun q x f=>Fr.a7 q x f;have L2':=L2.frame (fr':=fr2.ins 9 (.box (({(r.ai[act]'h)with bc:=(r.ai[act]'h).bc+1}:ak).row.map .pure))) (k:=9) (fun q top e=>by rw [k2 q top e];decide) (fun q hq=>Fr.aw _ hq _);have L1'':=L1'.frame (fr':=fr2.ins 9 (.box (({(r.ai[act]'h)with bc:=(r.ai[act]'h).bc+1}:ak).row.map .pure))) (k:=9) (fun q top e=>by rw [k1 q top e];decide) (fun q hq=>Fr.aw _ hq _);simp [ak.row]at L1'' L2';simp [g9,ak.row,wa,-List.map_take,-List.map_drop,-dc,gi];have g58:fr2.get 58=none:=(by rw [f2 58 (by decide),f1 58 (by decide)];simp);have g83:fr2.get 83=none:=(by rw [f2 83 (by decide),f1 83 (by decide)];simp);have hlt:late (r.ai[act]'h).aQ (r.ai[act]'h)={(r.ai[act]'h)with bc:=(r.ai[act]'h).bc+1}:=(by unfold late;rw [if_pos rfl]);have aZ:r.ai.drop act=r.ai[act]::r.ai.drop (act+1):=List.drop_eq_getElem_cons h;rw [aZ,List.map_cons,hlt];obtain⟨a',ha'⟩: ∃a':ak,{(r.ai[act]'h)with bc:=(r.ai[act]'h).bc+1}=a':=⟨_,rfl⟩;have hw':a'.aQ=(r.ai[act]'h).aQ:=(by rw [←ha']);have hrow:[PV.int .i64 ((r.ai[act]'h).bc+1), .int .i64 (r.ai[act]'h).aQ, .int .i64 (r.ai[act]'h).kind, .int .i64 (r.ai[act]'h).hand, .int .i64 (r.ai[act]'h).bh, .int .i64 (r.ai[act]'h).cell, .int .i64 (r.ai[act]'h).other, .int .i64 (r.ai[act]'h).cY, .int .i64 (r.ai[act]'h).jV]=a'.row:=(by rw [←ha'];rfl);have hbox:[GV.pure (.int .i64 ((r.ai[act]'h).bc+1)), .pure (.int .i64 (r.ai[act]'h).aQ), .pure (.int .i64 (r.ai[act]'h).kind), .pure (.int .i64 (r.ai[act]'h).hand), .pure (.int .i64 (r.ai[act]'h).bh), .pure (.int .i64 (r.ai[act]'h).cell), .pure (.int .i64 (r.ai[act]'h).other), .pure (.int .i64 (r.ai[act]'h).cY), .pure (.int .i64 (r.ai[act]'h).jV)]=a'.row.map .pure:=(by rw [←ha'];rfl);rw [hbox]at L1'' L2'⊢;rw [hrow,ha',←hw'];refine sV (key:=58) a' L1'' (by rw [Fr.aw _ (by decide)];exact g58) (by simp;omega) _ fun g3 fr3 L3 k3 f3=> ?_;have k3': ∀q top,g3= .aZ (H.length,q) 9 top 0 top→q=58∨q=23:=fun q top e=>by
    rcases k3 q top e with e|⟨t,e⟩
    ·exact Or.inl e
    ·exact Or.inr (k1 q t e)
   have hf3: ∀q,q≠58→q≠23→fr3.get q=(fr2.ins 9 (.box (a'.row.map .pure))).get q:=fun q h1 h2=>f3 q h1 fun top e=>h2 (k1 q top e);have g9':fr3.get 9=some (.box (a'.row.map .pure)):=(by rw [hf3 9 (by decide) (by decide),Fr.a7]);have g83':fr3.get 83=none:=(by rw [hf3 83 (by decide) (by decide),Fr.aw _ (by decide)];exact g83);have fin: ∀(fr:Fr) (g:GV),pO H fr g ((r.ai.drop (act+1)).map (late a'.aQ))→(∀k,k≠30→fr.get k=fr3.get k)→kW (xR H.length 83 g3 9 72 (((r.ai.drop (act+1)).map (late a'.aQ)).map ak.row) (fr::H)) fun x=>kW (aL KC (aG KC) 111 [x.1] 84 x.2) fun x=>kW (gn KC 72 c x.1 x.2) fun r_1=>r_1=(.pure (.slice ((cS (r.ai.take act++a'::(r.ai.drop (act+1)).map (late a'.aQ))).map ak.row)),H):=fun fr g Lg hk=>by
    refine sU (A:=r.ai.take act++[a']) (L3.frame (k:=30) (fun q top e=>by rcases k3' q top e with e|e<;>rw [e]<;>decide) hk) (by rw [hk 83 (by decide)];exact g83') (by simp;omega) _ fun fr'=> ?_
    rw [ae (by simp)];simp
   have L2'':pO H fr3 g2 (r.ai.drop (act+1)):=by
    rcases L2' with h0|⟨hne,key,v,rfl,hg,hv⟩
    ·exact Or.inl h0
    ·have:=k2 key _ rfl;subst this;exact Or.inr ⟨hne,_,v,rfl,by rw [hf3 _ (by decide) (by decide)];exact hg,hv⟩
   have tmB: ∀b∈r.ai.drop (act+1),0≤b.bc∧b.bc≤1000000:=fun b hb=>tm b (List.mem_of_mem_drop hb);obtain⟨Bd,hBd⟩: ∃Bd,r.ai.drop (act+1)=Bd:=⟨_,rfl⟩;have hBl:Bd.length≤1000000:=(by rw [←hBd];simp;omega);rw [hBd]at L2'' fin tmB⊢;have cl:=L3.cl;rcases L2'' with ⟨rfl,rfl⟩|⟨hne,key,v,rfl,hg2,hv⟩
   ·have f0:=fin fr3 .aR (Or.inl ⟨rfl,rfl⟩) (fun _ _=>rfl);apply ax;conv=>arg 4;whnf
    simp [cl,-dc];exact f0
   ·have:=k2 key _ rfl;subst this;refine H6 cl hne hBl tmB g9' _ (fun fr g Lg hk=> ?_) Bd.length 0 v fr3 (by omega) hv (by rw [FK _ _ _ (by omega)];exact hg2) (fun _ _=>rfl);have f0:=fin fr g Lg hk;obtain⟨H',he,rfl⟩:=Lg.el;have r9':(∀x:ak,x∈Bd→(late a'.aQ x).row.length=9)=True:=eq_true fun x _=>rfl;simp [he,r9',-List.map_map,-dc];exact f0
  ·have e3':(kind==3)=false:=(by simpa using e3);rw [if_neg e3];have ee:r.ai.eraseIdx act=r.ai.take act++r.ai.drop (act+1):=List.eraseIdx_eq_take_drop_succ ..;have t1:List.take act (r.ai.map ak.row)=(r.ai.take act).map ak.row:=(by rw [List.map_take]);have t2:List.drop (act+1) (r.ai.map ak.row)=(r.ai.drop (act+1)).map ak.row:=(by rw [List.map_drop]);simp [e2',e3',hw,h,ak.row,Nat.le_of_lt h,-List.map_take,-List.map_drop,t1,-dc];refine lM (key:=23) (r.ai.take act) (by simp) (by simp;omega) _ fun g1 fr1 L1 k1 f1=> ?_;have g4:fr1.get 4=some (aD r):=(by rw [f1 4 (by decide)];simp [aD]);have g30:fr1.get 30=none:=(by rw [f1 30 (by decide)];simp);have g83:fr1.get 83=none:=(by rw [f1 83 (by decide)];simp);have jn: ¬(act:Int)+1<0:=(by omega);have r9: ∀l:List ak,(∀x:ak,x∈l→x.row.length=9)=True:=fun l=>eq_true fun x _=>rfl;have t3:List.drop (act+1) (List.take r.ai.length (r.ai.map ak.row))=(r.ai.drop (act+1)).map ak.row:=(by rw [List.take_of_length_le (by simp),t2]);have jl:act+1≤r.ai.length:=h;simp [g4,aD,hw,-List.map_take,-List.map_drop,-dc,jn,jl,h,t3,r9];refine lM (key:=30) (r.ai.drop (act+1)) g30 (by simp;omega) _ fun g2 fr2 L2 k2 f2=> ?_;have L1':=L1.frame (k:=30) (fun q top e=>by rw [k1 q top e];decide) f2;obtain⟨H',he,rfl⟩:=L2.el;simp [he,-List.map_take,-List.map_drop,-dc,r9];refine sU L1' (by rw [f2 83 (by decide)];exact g83) (by simp;omega) _ fun fr3=> ?_;rw [←ee,nV (hp.sublist (List.eraseIdx_sublist ..))];rw [ae (by simp)];simp
end
section
variable {c:Nat} {H:aj}
theorem EF {r:aC}{act:Nat}(h:act<r.ai.length)(ht:0≤r.ai[act].bc∧r.ai[act].bc≤1000000)(kind:Int)(hH:0<H.length):
  bF KC (aG KC) 78 [.pure (.agg r.row), .pure (.int .i64 act), .pure (.int .i64 kind)] c H=some (.pure (.int .i64 (fa r act kind)),H):=by
 refine aM (aH KC au Tryz.func78 rfl rfl WD (by simp) hH ?_);have hl:=bf (d:=cA) h;have hw:=cU (x:=(r.ai[act]'h).bc+1) (by omega) (by omega);rw [cI];unfold fa;rw [hl];by_cases hk:kind=3
 ·subst hk;simp [h,ak.row,hw];rw [ae (by simp)];simp
 ·have hk':(kind==3)=false:=(by simpa using hk);simp [h,ak.row,hk,hk'];rw [ae (by simp)];simp
theorem H7 {r:aC}{act:Nat}(h:act<r.ai.length)(ht:0≤r.ai[act].bc∧r.ai[act].bc≤1000000)(kind:Int)(hH:0<H.length):
  aL KC (aG KC) 78 [.pure (.agg r.row), .pure (.int .i64 act), .pure (.int .i64 kind)] c H=some (.pure (.int .i64 (fa r act kind)),H):=
 (ku (f:=78) (c:=c) (H:=H) rfl rfl rfl [.agg r.row, .int .i64 act, .int .i64 kind]).trans (EF (c:=c) h ht kind hH)
noncomputable def clO (r:aC)(act kind:Int):PV:= .tuple [.slice (if El r act kind=0 then (du r).1.map az.row else []), .int .i64 (El r act kind)]
theorem oI {r:aC}(sh:eL r)(act kind:Int)(hH:0<H.length):
  bF KC (aG KC) 71 [.pure (.agg r.row), .pure (.int .i64 act), .pure (.int .i64 kind)] c H=some (.pure (clO r act kind),H):=by
 refine aM (aH KC au Tryz.func71 rfl rfl Wv (by simp) hH ?_);have R:=fun(c:Nat) (H:aj) (hH:0<H.length)=>Cz (c:=c) (H:=H) sh hH;rw [Ye]at R;have I:=fun(c:Nat) (x lo hi:Int) (H:aj) (hH:0<H.length)=>a9 (c:=c) (x:=x) (lo:=lo) (hi:=hi) (H:=H) hH;have Y:=fun(c:Nat) (x:Int) (H:aj) (hH:0<H.length)=>cV (c:=c) (k:=x) (H:=H) hH;have ha:=sh.a;have hw:IntKind.i64.wrap ((r.ai.length:Int)-1)=(r.ai.length:Int)-1:=cU (by omega) (by omega);unfold clO;rw [cI]at R⊢;rw [vK];by_cases he:lL r=0
 ·rw [he]at R⊢;by_cases h1:cC act 0 ((r.ai.length:Int)-1)=true
  ·obtain⟨a1,a2⟩:=nz.1 h1;obtain⟨k,rfl⟩:=Int.eq_ofNat_of_zero_le a1;have hk:k<r.ai.length:=(by omega);have hg:r.ai.getD k cA=r.ai[k]:=bf hk;by_cases h2:cC kind 1 3=true
   ·by_cases h3:kind=2
    ·subst h3;have h2':cC 2 1 3=true:=(by decide);by_cases h4:r.ai[k].kind=1
     ·simp [R,I,Y,hw,h1,h2',hk,ak.row,h4,ae,aI,hg]
     ·have h4':(r.ai[k].kind==1)=false:=(by simpa using h4);simp [R,I,Y,hw,h1,h2',hk,ak.row,h4,h4',ae,aI,hg]
    ·have h3':(kind==2)=false:=(by simpa using h3);simp [R,I,Y,hw,h1,h2,h3,h3',ae,aI]
   ·have h2':cC kind 1 3=false:=(by simpa using h2);simp [R,I,Y,hw,h1,h2',ae,aI]
  ·have h1':cC act 0 ((r.ai.length:Int)-1)=false:=(by simpa using h1);simp [R,I,Y,hw,h1',ae,aI]
 ·have he':(lL r !=0)=true:=(by simpa using he);simp [R,he,he',ae,aI]
end
section
variable {c:Nat} {H:aj}
theorem vL {key:Nat} {fr X:Fr} {g:GV} {A:List ak} (a:ak) (L:pO H fr g A) (hf:g= .aR→fr.get key=none) (hn:A.length+1≤1000000) (R:GV×aj→Prop)
  (h: ∀g' fr',pO H fr' g' (A++[a])→(∀q top,g'= .aZ (H.length,q) 9 top 0 top→q=key∨ ∃top,g= .aZ (H.length,q) 9 top 0 top)→(∀k,k≠key→(∀top,g≠ .aZ (H.length,k) 9 top 0 top)→fr'.get k=fr.get k)→R (g',X::fr'::H)):
  kW (xR H.length key g 9 72 [a.row] (X::fr::H)) R:=by
 rcases L with ⟨rfl,rfl⟩|⟨hne,dw,v,rfl,hg,hv⟩
 ·have hm: ¬H.length+1+1≤H.length:=(by omega);have:=h (.aZ (H.length,key) 9 1 0 1) (fr.ins key (.arr 9 [a.row] 0 false)) (Or.inr ⟨by simp,key,0,rfl,Fr.a7 _ _ _,Nat.zero_le _⟩) (fun q top e=>by cases e;exact Or.inl rfl) (fun k hk _=>Fr.aw _ hk _);simp [hf rfl,hm];exact this
 ·have hb:(A.length+1)*72≤1099511627776:=(by omega);have:=h (.aZ (H.length,dw) 9 (A.length+1) 0 (A.length+1)) (fr.ins dw (.arr 9 (A.map ak.row++[a.row]) v false)) (Or.inr ⟨by simp,dw,v,by simp,by rw [Fr.a7];simp,by simp;omega⟩) (fun q top e=>by cases e;exact Or.inr ⟨_,rfl⟩) (fun k _ hk=>Fr.aw _ (fun e=>by subst e;exact hk _ rfl) _);simp [hg,hv,hb];exact this
def inK (H:aj)(ks:List Nat)(g:GV):Prop:= ∀q top,g= .aZ (H.length,q) 9 top 0 top→q∈ks
theorem Yf {ai:List ak} {m:Int} {w:PV} (hn:ai.length≤1000000) (Q:GX→bN→Prop)
  (h1: ∀g fr,pO H fr g (cf m ai)→inK H [31] g→fr.get 52=none→fr.get 72=none→Q (.exit 0) ⟨[(0, .pure (.slice (ai.map ak.row))),(1, .pure (.int .i64 m)),(2, .pure w),(7,g),(8, .pure (.int .i64 (cf m ai).length))],fr::H,74⟩): ∀(k n:Nat) (g:GV) (fr:Fr),n+k=(cf m ai).length→pO H fr g (ai.take n)→inK H [31] g→fr.get 52=none→fr.get 72=none→(g= .aR→fr.get 31=none)→
  fM KC au 77 (lp Tryz.f77 0) [0,1,2,7,8] [0,1,2,7,8] Q [(0, .pure (.slice (ai.map ak.row))),(1, .pure (.int .i64 m)),(2, .pure w),(7,g),(8, .pure (.int .i64 n))] (fr::H) 74:=by
 have hle:(cf m ai).length≤ai.length:=(List.takeWhile_sublist _).length_le;intro k
 induction k with
 |zero=>
  intro n g fr hk L hK f52 f72 fn;have e:n=(cf m ai).length:=(by omega);have et:ai.take n=cf m ai:=by
   rw [e];obtain⟨U,hU⟩: ∃U,cf m ai=U:=⟨_,rfl⟩;have:=js m ai;rw [hU]at this⊢;rw [←this];exact List.take_left
  rw [et]at L;have h1':=h1 g fr L hK f52 f72;have cl:=L.cl;rw [←e]at h1';by_cases hl:n<ai.length
  ·have hout:=mW (fun a:ak=>decide (a.bc≤m)) ai (by rw [show (ai.takeWhile fun a:ak=>decide (a.bc≤m)).length=n from e.symm];exact hl)
   have hout': ¬ai[n].bc≤m:=by
    have e2:(ai.takeWhile fun a:ak=>decide (a.bc≤m)).length=n:=e.symm;simp only [e2]at hout;simpa using hout
   apply ax;conv=>arg 4;whnf
   simp [hl,ak.row,hout',cl];simpa using h1'
  ·apply ax;conv=>arg 4;whnf
   simp [hl,cl];simpa using h1'
 |succ k ih=>
  intro n g fr hk L hK f52 f72 fn;have hl:n<ai.length:=(by omega);have hin:=pH (fun a:ak=>decide (a.bc≤m)) ai n hl (by show n<(cf m ai).length;omega)
  have hin':ai[n].bc≤m:=(by simpa using hin);have hw:=cU (x:=(n:Int)+1) (by omega) (by omega);have cl:=L.cl;apply ax;conv=>arg 4;whnf
  simp [hl,ak.row,hin',hw,-dc];have et:ai.take (n+1)=ai.take n++[ai[n]]:=(by rw [List.take_add_one,List.getElem?_eq_getElem hl];rfl);refine vL (key:=31) ai[n] L fn (by simp;omega) _ fun g' fr' L' k' f'=> ?_;rw [←et]at L';have hK':inK H [31] g':=fun q top e=>by
   rcases k' q top e with e|⟨t,e⟩
   ·simp [e]
   ·exact hK q t e
  have nk: ∀q,q≠31→ ∀top,g≠ .aZ (H.length,q) 9 top 0 top:=fun q hq top e=>hq (by simpa using hK q top e);have ih':=ih (n+1) g' fr' (by omega) L' hK' (by rw [f' 52 (by decide) (nk 52 (by decide))];exact f52) (by rw [f' 72 (by decide) (nk 72 (by decide))];exact f72) (fun e=>by
   rcases L' with ⟨_,h0⟩|⟨_,key,v,h0,_⟩
   ·have hz:(ai.take (n+1)).length=0:=(by rw [h0];rfl);rw [List.length_take]at hz;omega
   ·rw [h0]at e;cases e)
  have cl':=L'.cl;simp [cl'];simpa using ih'
theorem xt (a:ak): ∀(l:List ak) (m:Int),cT m (l++[a])=cT m l++[{a with bc:=m+1+l.length}]
 | [],m=>by simp [cT]
 |b::l,m=>by
  have:=xt a l (m+1);simp only [List.cons_append,cT,this,List.length_cons];rw [show m+1+1+(l.length:Int)=m+1+((l.length+1:Nat):Int)by omega]
theorem qn: ∀(l:List ak) (m:Int),(cT m l).length=l.length
 | [],m=>rfl
 |b::l,m=>by simp [cT,qn l]
theorem P7 {ai mend A:List ak} {m:Int} {n:Nat} (hm:mend.length≤400000) (hA:A.length≤400000) (hmm: -1000000≤m∧m≤1000000000) (Q:GX→bN→Prop)
  (h1: ∀g fr,pO H fr g (A++cT m mend)→inK H [31,52] g→fr.get 72=none→Q (.exit 2) ⟨[(0, .pure (.slice (ai.map ak.row))),(2, .pure (.slice (mend.map ak.row))),(7,g),(8, .pure (.int .i64 n))],fr::H,74⟩): ∀(k i:Nat) (g:GV) (fr:Fr),i+k=mend.length→pO H fr g (A++cT m (mend.take i))→inK H [31,52] g→fr.get 72=none→(g= .aR→fr.get 52=none)→
  fM KC au 77 (lp Tryz.f77 1) [0,1,2,7,8,9] [0,2,7,8] Q [(0, .pure (.slice (ai.map ak.row))),(1, .pure (.int .i64 m)),(2, .pure (.slice (mend.map ak.row))),(7,g),(8, .pure (.int .i64 n)),(9, .pure (.int .i64 i))] (fr::H) 74:=by
 intro k
 induction k with
 |zero=>
  intro i g fr hk L hK f72 fn;have e:i=mend.length:=(by omega);rw [List.take_of_length_le (by omega)]at L;have h1':=h1 g fr L hK f72;have cl:=L.cl;subst e;apply ax;conv=>arg 4;whnf
  simp [cl];simpa using h1'
 |succ k ih=>
  intro i g fr hk L hK f72 fn;have hl:i<mend.length:=(by omega);have hw:=cU (x:=(i:Int)+1) (by omega) (by omega);have hw1:=cU (x:=m+1) (by omega) (by omega);have hw2:=cU (x:=m+1+i) (by omega) (by omega);have et:cT m (mend.take (i+1))=cT m (mend.take i)++[{(mend[i]'hl)with bc:=m+1+i}]:=by
   rw [List.take_add_one,List.getElem?_eq_getElem hl];have:=xt mend[i] (mend.take i) m;rw [List.length_take,Nat.min_eq_left (by omega)]at this;exact this
  have cl:=L.cl;apply ax;conv=>arg 4;whnf
  simp [hl,ak.row,hw,hw1,hw2,-dc];have hml:(cT m (mend.take i)).length=i:=(by rw [qn,List.length_take];omega);refine vL (key:=52) {(mend[i]'hl)with bc:=m+1+i} L fn (by rw [List.length_append,hml];omega) _ fun g' fr' L' k' f'=> ?_;rw [List.append_assoc,←et]at L';have hK':inK H [31,52] g':=fun q top e=>by
   rcases k' q top e with e|⟨t,e⟩
   ·simp [e]
   ·exact hK q t e
  have nk: ∀q,q≠31→q≠52→ ∀top,g≠ .aZ (H.length,q) 9 top 0 top:=fun q hq hq2 top e=>by
   have:=hK q top e;simp at this;omega
  have ih':=ih (i+1) g' fr' (by omega) L' hK' (by rw [f' 72 (by decide) (nk 72 (by decide) (by decide))];exact f72) (fun e=>by
   rcases L' with ⟨_,h0⟩|⟨_,key,v,h0,_⟩
   ·have hz:(A++cT m (mend.take (i+1))).length=0:=(by rw [h0];rfl);rw [List.length_append,qn,List.length_take]at hz;omega
   ·rw [h0]at e;cases e)
  have cl':=L'.cl;simp [cl'];simpa using ih'
theorem P8 {ai mend A:List ak} {u:Nat} (hm:mend.length≤400000) (hA:A.length≤500000) (hn:ai.length≤400000) (tm: ∀a∈ai,0≤a.bc∧a.bc≤1000000000) (Q:GX→bN→Prop)
  (h1: ∀g fr,pO H fr g (A++(ai.drop u).map fun a=>{a with bc:=a.bc+mend.length})→Q (.exit 4) ⟨[(7,g)],fr::H,74⟩): ∀(k n:Nat) (g:GV) (fr:Fr),u≤n→n+k=ai.length→pO H fr g (A++((ai.take n).drop u).map fun a=>{a with bc:=a.bc+mend.length})→(g= .aR→fr.get 72=none)→
  fM KC au 77 (lp Tryz.f77 2) [0,2,7,8] [7] Q [(0, .pure (.slice (ai.map ak.row))),(2, .pure (.slice (mend.map ak.row))),(7,g),(8, .pure (.int .i64 n))] (fr::H) 74:=by
 intro k
 induction k with
 |zero=>
  intro n g fr hu hk L fn;have e:n=ai.length:=(by omega);rw [List.take_of_length_le (by omega)]at L;have h1':=h1 g fr L;have cl:=L.cl;subst e;apply ax;conv=>arg 4;whnf
  simp [cl];simpa using h1'
 |succ k ih=>
  intro n g fr hu hk L fn;have hl:n<ai.length:=(by omega);have tmi:=tm _ (List.getElem_mem hl);have hw:=cU (x:=(n:Int)+1) (by omega) (by omega);have hw1:=cU (x:=(ai[n]'hl).bc+mend.length) (by omega) (by omega);have et:(ai.take (n+1)).drop u=(ai.take n).drop u++[ai[n]]:=by
   rw [List.take_add_one,List.getElem?_eq_getElem hl,List.drop_append_of_le_length (by rw [List.length_take];omega)];rfl
  have cl:=L.cl;apply ax;conv=>arg 4;whnf
  simp [hl,ak.row,hw,hw1,-dc];refine vL (key:=72) {(ai[n]'hl)with bc:=(ai[n]'hl).bc+mend.length} L fn (by rw [List.length_append,List.length_map,List.length_drop,List.length_take];omega) _ fun g' fr' L' k' f'=> ?_;have L2:pO H fr' g' (A++((ai.take (n+1)).drop u).map fun a=>{a with bc:=a.bc+mend.length}):=by
   rw [et,List.map_append,←List.append_assoc];exact L'
  have ih':=ih (n+1) g' fr' (by omega) (by omega) L2 (fun e=>by
   rcases L' with ⟨_,h0⟩|⟨_,key,v,h0,_⟩
   ·simp at h0
   ·rw [h0]at e;cases e)
  have cl':=L'.cl;simp [cl'];simpa using ih'
theorem CB {ai mend:List ak}{m:Int}(hm:mend.length≤100000)(hn:ai.length≤400000)(hmm: -1000000≤m∧m≤1000000000)(tm: ∀a∈ai,0≤a.bc∧a.bc≤1000000000)(hH:0<H.length):
  bF KC (aG KC) 77 [.pure (.slice (ai.map ak.row)), .pure (.int .i64 m), .pure (.slice (mend.map ak.row))] c H=some (.pure (.slice ((iY m ai mend).map ak.row)),H):=by
 refine aM (aH KC au Tryz.func77 rfl rfl WC (by simp) hH ?_);have hle:(cf m ai).length≤ai.length:=(List.takeWhile_sublist _).length_le;have hnl: ¬H.length≤H.length-1:=(by omega);have U:=fun Q h1=>Yf (H:=H) (ai:=ai) (m:=m) (w:= .slice (mend.map ak.row)) (by omega) Q h1 (cf m ai).length 0 .aR [] (by omega) (Or.inl ⟨rfl,by simp⟩) (fun q top e=>by cases e) rfl rfl (fun _=>rfl);simp;refine U _ fun g fr L hK f52 f72=> ?_;have M:=fun Q h1=>P7 (H:=H) (ai:=ai) (mend:=mend) (A:=cf m ai) (m:=m) (n:=(cf m ai).length) (by omega) (by omega) hmm Q h1 mend.length 0 g fr (by omega) (by simpa [cT]using L) (fun q top e=>by have:=hK q top e;simp at this⊢;exact Or.inl this) f72 (fun _=>f52);simp [L.cl];refine M _ fun g2 fr2 L2 hK2 f722=> ?_;have d0:(ai.take (cf m ai).length).drop (cf m ai).length=[]:=List.drop_of_length_le (by rw [List.length_take];omega);have db:ai.drop (cf m ai).length=behind m ai:=by
  have e:=js m ai;obtain⟨V,hV⟩: ∃V,behind m ai=V:=⟨_,rfl⟩;obtain⟨U,hU⟩: ∃U,cf m ai=U:=⟨_,rfl⟩;rw [hU,hV]at e;rw [hU,hV,←e];exact List.drop_left
 have E:=fun Q h1=>P8 (H:=H) (ai:=ai) (mend:=mend) (A:=cf m ai++cT m mend) (u:=(cf m ai).length) (by omega) (by rw [List.length_append,qn];omega) hn tm Q h1 (ai.length-(cf m ai).length) (cf m ai).length g2 fr2 (Nat.le_refl _) (by omega) (by rw [d0];simpa using L2) (fun _=>f722);rw [db]at E;simp [L2.cl];refine E _ fun g3 fr3 L3=> ?_;simp [L3.cl];obtain⟨W,hW⟩: ∃W,iY m ai mend=W:=⟨_,rfl⟩;rw [show (cf m ai++cT m mend)++(behind m ai).map (fun a=>{a with bc:=a.bc+mend.length})=W from hW]at L3
 rw [hW];rcases L3 with ⟨rfl,rfl⟩|⟨hne,key,v,rfl,hg,hv⟩
 ·rw [ae (by simp)];simp
 ·have tl:List.take W.length (W.map ak.row)=W.map ak.row:=List.take_of_length_le (by simp);rw [ae (by simp)];simp [hnl,hg,hv,tl]
theorem EG {ai mend:List ak}{m:Int}(hm:mend.length≤100000)(hn:ai.length≤400000)(hmm: -1000000≤m∧m≤1000000000)(tm: ∀a∈ai,0≤a.bc∧a.bc≤1000000000)(hH:0<H.length):
  aL KC (aG KC) 77 [.pure (.slice (ai.map ak.row)), .pure (.int .i64 m), .pure (.slice (mend.map ak.row))] c H=some (.pure (.slice ((iY m ai mend).map ak.row)),H):=
 (ku (f:=77) (c:=c) (H:=H) rfl rfl rfl [.slice (ai.map ak.row), .int .i64 m, .slice (mend.map ak.row)]).trans (CB (c:=c) hm hn hmm tm hH)
theorem xu {r:aC}(sh:eL r)(act kind:Int)(hH:0<H.length):
  aL KC (aG KC) 71 [.pure (.agg r.row), .pure (.int .i64 act), .pure (.int .i64 kind)] c H=some (.pure (clO r act kind),H):=by
 first
  |exact(ku (f:=71) (c:=c) (H:=H) rfl rfl rfl [.agg r.row, .int .i64 act, .int .i64 kind]).trans (oI (c:=c) sh act kind hH)
  |exact(oV KC rfl rfl rfl).trans (oI (c:=c) sh act kind hH)
end
end Go.Gh
