/- Texts joined: the evaluator over ghost values, its soundness, the walks. Spaces struck and names made short by a program, for the size. -/
import Derived.Test.YtkcmcjohoockcaaGreatGc5f
namespace Go.Gh
open Go.Proofs
set_option linter.unusedVariables false
set_option linter.unusedSimpArgs false
set_option linter.unnecessarySimpa false
set_option maxRecDepth 100000
set_option maxHeartbeats 8000000
section
variable {c:Nat} {H:aj}
def mU (a:ak):Bool:=
 if a.kind=1 then decide (a.hand=0∧a.bh=0∧a.other=0)
 else if a.kind=2 then decide (a.cell=0∧a.other=0)
 else if a.kind=4 then decide (a.bh=0∧a.cell=0)
 else decide (a.bh=0∧a.cell=0∧a.other=0)
noncomputable def eJ:Int→Int→Int→ak→Int:=mI fun t nt np a=>
 if cC a.kind 1 8=false then 4 else if mU a=false then 3 else if a.kind=1∧cC a.cell 0 t=false then 7 else if cC a.hand 0 1=false then 2
 else if a.kind=2∧cC a.bh 0 (nt-1)=false then 7 else if a.kind=4∧cC a.other 0 (np-1)=false then 7 else if a.kind=4∧a.other=a.aQ then 3 else 0
theorem pK (t nt np:Int)(a:ak):eJ t nt np a=
 if cC a.kind 1 8=false then 4 else if mU a=false then 3 else if a.kind=1∧cC a.cell 0 t=false then 7 else if cC a.hand 0 1=false then 2
 else if a.kind=2∧cC a.bh 0 (nt-1)=false then 7 else if a.kind=4∧cC a.other 0 (np-1)=false then 7 else if a.kind=4∧a.other=a.aQ then 3 else 0:=by rw [eJ,cO]
theorem xH (k:Int):k=1∨k=2∨k=4∨(k=3∨k=5∨k=6∨k=7∨k=8)∨(cC k 1 8=false∧k≠1∧k≠2∧k≠3∧k≠4∧k≠5∧k≠6∧k≠7∧k≠8):=by
 by_cases h:1≤k∧k≤8
 ·omega
 ·refine .inr (.inr (.inr (.inr ⟨?_,by omega,by omega,by omega,by omega,by omega,by omega,by omega,by omega⟩)));simp [cC];omega
theorem xI {r:aC}{q1 q2 kind hand bh cell other q3 q4:Int}(h1:r.ah.length≤1000000)(h2:r.aa.length≤1000000)(hH:0<H.length):
  aL KC (aG KC) 73 [.pure (.agg r.row), .pure (.agg [.int .i64 q1, .int .i64 q2, .int .i64 kind, .int .i64 hand, .int .i64 bh, .int .i64 cell, .int .i64 other, .int .i64 q3, .int .i64 q4])] c H=
   some (.pure (.int .i64 (eJ (ct r.wide r.deep) r.aa.length r.ah.length ⟨q1,q2,kind,hand,bh,cell,other,q3,q4⟩)),H):=by
 refine dp rfl rfl rfl rfl rfl hH fun H hH=> ?_;refine aM (aH KC au Tryz.func73 rfl rfl Wx (by simp) hH ?_);have hr:=pK (ct r.wide r.deep) r.aa.length r.ah.length ⟨q1,q2,kind,hand,bh,cell,other,q3,q4⟩;simp only [mU]at hr;rw [cI];have w1:=cU (x:=(r.ah.length:Int)-1) (by omega) (by omega);have w2:=cU (x:=(r.aa.length:Int)-1) (by omega) (by omega);have i0:cC 0 0 1=true:=rfl;rcases xH kind with rfl|rfl|rfl|hk|⟨hk,n1,n2,n3,n4,n5,n6,n7,n8⟩
 ·have i1:cC 1 1 8=true:=rfl;by_cases a1:hand=0
  ·by_cases a2:bh=0
   ·by_cases a3:other=0
    ·subst a1;subst a2;subst a3
     cases a4:cC cell 0 (ct r.wide r.deep)with
     |false=>
      simp [a4,i1,i0]at hr;simp [dx,gq,a4,ae,hr]
     |true=>
      simp [a4,i1,i0]at hr;simp [dx,gq,a4,i0,ae,hr]
    ·have a3':(other==0)=false:=(by simpa using a3);subst a1;subst a2;simp [a3,i1]at hr;simp [a3',bne,ae,hr]
   ·have a2':(bh==0)=false:=(by simpa using a2);subst a1;simp [a2,i1]at hr;simp [a2',bne,ae,hr]
  ·have a1':(hand==0)=false:=(by simpa using a1);simp [a1,i1]at hr;simp [a1',bne,ae,hr]
 ·have i1:cC 2 1 8=true:=rfl;by_cases a1:cell=0
  ·by_cases a2:other=0
   ·subst a1;subst a2
    cases a3:cC hand 0 1 with
    |false=>
     simp [a3,i1]at hr;simp [dx,a3,ae,hr]
    |true=>
     cases a4:cC bh 0 ((r.aa.length:Int)-1)with
     |false=>
      simp [a3,a4,i1]at hr;simp [dx,a3,a4,w2,ae,hr]
     |true=>
      simp [a3,a4,i1]at hr;simp [dx,a3,a4,w2,ae,hr]
   ·have a2':(other==0)=false:=(by simpa using a2);subst a1;simp [a2,i1]at hr;simp [a2',bne,ae,hr]
  ·have a1':(cell==0)=false:=(by simpa using a1);simp [a1,i1]at hr;simp [a1',bne,ae,hr]
 ·have i1:cC 4 1 8=true:=rfl;by_cases a1:bh=0
  ·by_cases a2:cell=0
   ·subst a1;subst a2
    cases a3:cC hand 0 1 with
    |false=>
     simp [a3,i1]at hr;simp [dx,a3,ae,hr]
    |true=>
     cases a4:cC other 0 ((r.ah.length:Int)-1)with
     |false=>
      simp [a3,a4,i1]at hr;simp [dx,a3,a4,w1,ae,hr]
     |true=>
      by_cases a5:other=q2
      ·subst a5;simp [a3,a4,i1]at hr;simp [dx,a3,a4,w1,ae,hr]
      ·have a5':(other==q2)=false:=(by simpa using a5);simp [a3,a4,a5,i1]at hr;simp [dx,a3,a4,a5',w1,ae,hr]
   ·have a2':(cell==0)=false:=(by simpa using a2);subst a1;simp [a2,i1]at hr;simp [a2',bne,ae,hr]
  ·have a1':(bh==0)=false:=(by simpa using a1);simp [a1,i1]at hr;simp [a1',bne,ae,hr]
 ·have i1:cC kind 1 8=true:=(by simp [cC];omega);have m1:kind≠1:=(by omega);have m2:kind≠2:=(by omega);have m4:kind≠4:=(by omega);by_cases a1:bh=0
  ·by_cases a2:cell=0
   ·by_cases a3:other=0
    ·subst a1;subst a2;subst a3
     cases a4:cC hand 0 1 with
     |false=>
      simp [a4,i1,m1,m2,m4]at hr;rcases hk with rfl|rfl|rfl|rfl|rfl<;>simp [dx,a4,ae,hr]
     |true=>
      simp [a4,i1,m1,m2,m4]at hr;rcases hk with rfl|rfl|rfl|rfl|rfl<;>simp [dx,a4,ae,hr]
    ·have a3':(other==0)=false:=(by simpa using a3);subst a1;subst a2;simp [a3,i1,m1,m2,m4]at hr;rcases hk with rfl|rfl|rfl|rfl|rfl<;>simp [a3',bne,ae,hr]
   ·have a2':(cell==0)=false:=(by simpa using a2);subst a1;simp [a2,i1,m1,m2,m4]at hr;rcases hk with rfl|rfl|rfl|rfl|rfl<;>simp [a2',bne,ae,hr]
  ·have a1':(bh==0)=false:=(by simpa using a1);simp [a1,i1,m1,m2,m4]at hr;rcases hk with rfl|rfl|rfl|rfl|rfl<;>simp [a1',bne,ae,hr]
 ·have e1:(kind==1)=false:=(by simpa using n1);have e2:(kind==2)=false:=(by simpa using n2);have e3:(kind==3)=false:=(by simpa using n3);have e4:(kind==4)=false:=(by simpa using n4);have e5:(kind==5)=false:=(by simpa using n5);have e6:(kind==6)=false:=(by simpa using n6);have e7:(kind==7)=false:=(by simpa using n7);have e8:(kind==8)=false:=(by simpa using n8);simp [hk]at hr;simp [e1,e2,e3,e4,e5,e6,e7,e8,ae,hr]
end
section
variable {c:Nat} {H:aj}
def pC (p:Nat→Bool):Nat→Nat→Int
 |0,_=> -1
 |k+1,i=>if p i=true then (i:Int)else pC p k (i+1)
theorem pD {p:Nat→Bool}: ∀{k i:Nat},0≤pC p k i↔ ∃j,i≤j∧j<i+k∧p j=true
 |0,i=>by simp [pC];intro j h1 h2;omega
 |k+1,i=>by
  unfold pC;by_cases h:p i=true
  ·simp only [h,if_true];exact⟨fun _=>⟨i,Nat.le_refl _,by omega,h⟩,fun _=>by omega⟩
  ·rw [if_neg h,pD];constructor
   ·rintro⟨j,h1,h2,h3⟩;exact⟨j,by omega,by omega,h3⟩
   ·rintro⟨j,h1,h2,h3⟩;rcases Nat.lt_or_ge i j with h4|h4
    ·exact⟨j,h4,by omega,h3⟩
    ·have:j=i:=(by omega);subst this;exact absurd h3 h
def cA:ak:=⟨0,0,0,0,0,0,0,0,0⟩
@[simp] theorem ak.eta (a:ak):(⟨a.bc,a.aQ,a.kind,a.hand,a.bh,a.cell,a.other,a.cY,a.jV⟩:ak)=a:=rfl
def Ym (p:ak→Bool)(l:List ak)(j:Nat):Bool:=p (l.getD j cA)
theorem AV (p:ak→Bool)(l:List ak)(i:Nat)(h:i<l.length):Ym p l i=p l[i]:=by simp [Ym,List.getD_eq_getElem?_getD,h]
theorem KP (l:List ak) (hn:l.length≤4611686018427387904) (p:ak→Bool) (g:GV) (hg: ∀(x:ak) (c:Nat) (fr:Fr),ez KC (aG KC) g [.pure (.agg x.row)] c (fr::H)=some (.pure (.bool (p x)),fr::H))
  (hcl: ∀fr,clean (fr::H) (H.length-1) g=g) (Q:GX→bN→Prop) (hH:0<H.length): ∀k i:Nat,i+k=l.length→
  (pC (Ym p l) k i= -1→Q (.exit 0) ⟨[(4,aN)],H,19⟩)→(0≤pC (Ym p l) k i→Q .ret ⟨[(4, .pure (.int .i64 (pC (Ym p l) k i)))],H,19⟩)→
  fM KC au 126 (lp Tryz.f126 0) [0,1,7,8] [4] Q [(0, .pure (.slice (l.map ak.row))),(1,g),(7, .pure (.int .i64 l.length)),(8, .pure (.int .i64 i))] H 19:=by
 intro k
 induction k with
 |zero=>
  intro i hi h1 h2;apply ax;conv=>arg 4;whnf
  have: ¬i<l.length:=(by omega);simp [this,hH];exact h1 rfl
 |succ k ih=>
  intro i hi h1 h2;have hia:i<l.length:=(by omega);have hw:=cU (x:=(i:Int)+1) (by omega) (by omega);have ih':=ih (i+1) (by omega);unfold pC at h1 h2;rw [AV p l i hia]at h1 h2;have hg':=hg l[i];simp only [ak.row]at hg';apply ax;conv=>arg 4;whnf
  cases hp:p l[i]with
  |true=>
   simp [hp]at h1 h2;simp [hia,hH,ak.row,hg',hp];exact h2
  |false=>
   simp only [hp,Bool.false_eq_true,if_false]at h1 h2;simp [hia,hH,ak.row,hg',hp,hw,hcl];have:=ih' h1 h2;simpa [ak.row]using this
theorem KQ (l:List ak) (hn:l.length≤4611686018427387904) (p:ak→Bool) (g:GV) (hcan:canon g=g) (hfz: ∀H,dr H g=(g,H)) (hg: ∀(x:ak) (c:Nat) (f0 fr:Fr),ez KC (aG KC) g [.pure (.agg x.row)] c (f0::fr::H)=some (.pure (.bool (p x)),f0::fr::H))
  (hcl: ∀f0 fr,clean (f0::fr::H) (H.length) g=g) (hH:0<H.length):
  aL KC (aG KC) 126 [.pure (.slice (l.map ak.row)),g] c H=some (.pure (.int .i64 (pC (Ym p l) l.length 0)),H):=by
 refine aM (aW KC au Tryz.func126 rfl rfl Oa (by simp [bu,hfz]) rfl rfl (by simp) hH ?_);simp [hcan];refine KP (H:=[]::H) l hn p g (fun x c fr=>hg x c fr []) (fun fr=>by simpa using hcl fr []) _ (by simp) l.length 0 (by omega) (fun h=> ?_) (fun h=> ?_)
 ·simp [h,ae]
 ·simp [ae]
theorem CO (l:List ak) (hn:l.length≤4611686018427387904) (p:ak→Bool) (g:GV) (hcan:canon g=g) (hfz: ∀H,dr H g=(g,H)) (hg: ∀(x:ak) (c:Nat) (f0 f1 fr:Fr),ez KC (aG KC) g [.pure (.agg x.row)] c (f0::f1::fr::H)=some (.pure (.bool (p x)),f0::f1::fr::H))
  (hcl: ∀f0 f1 fr,clean (f0::f1::fr::H) (H.length+1) g=g) (hH:0<H.length):
  aL KC (aG KC) 90 [.pure (.slice (l.map ak.row)),g] c H=some (.pure (.bool (l.any p)),H):=by
 refine aM (aW KC au Tryz.func90 rfl rfl WN (by simp [bu,hfz]) rfl rfl (by simp) hH ?_);have I:=fun c (fr:Fr)=>KQ (c:=c) (H:=fr::H) l hn p g hcan hfz (fun x c f0 f1=>hg x c f0 f1 fr) (fun f0 f1=>by simpa using hcl f0 f1 fr) (by simp);have e:(decide (0≤pC (Ym p l) l.length 0))=l.any p:=by
  rw [Bool.eq_iff_iff,decide_eq_true_eq,pD,List.any_eq_true];constructor
  ·rintro⟨j,_,h2,h3⟩;have hj:j<l.length:=(by omega);exact⟨l[j],List.getElem_mem hj,by rw [←AV p l j hj];exact h3⟩
  ·rintro⟨x,hx,hp⟩;obtain⟨j,hj,rfl⟩:=List.getElem_of_mem hx;exact⟨j,Nat.zero_le _,by omega,by rw [AV p l j hj];exact hp⟩
 simp [hcan,I,ae,e]
def bR (a:ak):dF:= .box [.pure (.int .i64 a.bc), .pure (.int .i64 a.aQ), .pure (.int .i64 a.kind), .pure (.int .i64 a.hand), .pure (.int .i64 a.bh), .pure (.int .i64 a.cell), .pure (.int .i64 a.other), .pure (.int .i64 a.cY), .pure (.int .i64 a.jV)]
def fB (a b:ak):Bool:=b.bc==a.bc && b.aQ==a.aQ
theorem KR (a b:ak){nm:Nm}(hg:H.get nm=some (bR a)):aL KC (aG KC) 91 [.pure (.agg b.row), .aA nm 0] c H=some (.pure (.bool (fB a b)),H):=by
 have hl:nm.1<H.length:=aj.bP hg;have hne: ¬nm.1=H.length:=(by omega);refine aM (aW KC au Tryz.func91 rfl rfl WO rfl rfl rfl (by simp) (by omega) ?_);unfold bR at hg;unfold fB
 cases h1:(b.bc==a.bc)with
 |true=>simp [ae,hg,hne,ak.row,h1]
 |false=>simp [ae,hg,hne,ak.row,h1]
noncomputable def ug:aC→Nat→Int:=mI fun r i=>
 if cC (r.ai.getD i cA).bc 0 1000=false then 2 else if 0<i∧(r.ai.getD i cA).bc<(r.ai.getD (i-1) cA).bc then 11
 else if cC (r.ai.getD i cA).aQ 0 ((r.ah.length:Int)-1)=false then 7 else if (r.ai.take i).any (fB (r.ai.getD i cA))=true then 12
 else if eJ (ct r.wide r.deep) r.aa.length r.ah.length (r.ai.getD i cA)≠0 then eJ (ct r.wide r.deep) r.aa.length r.ah.length (r.ai.getD i cA)
 else if cC (r.ai.getD i cA).cY 0 15=false∨cC (r.ai.getD i cA).jV 0 9=false then 2 else 0
theorem xp (r:aC)(i:Nat):ug r i=
 if cC (r.ai.getD i cA).bc 0 1000=false then 2 else if 0<i∧(r.ai.getD i cA).bc<(r.ai.getD (i-1) cA).bc then 11
 else if cC (r.ai.getD i cA).aQ 0 ((r.ah.length:Int)-1)=false then 7 else if (r.ai.take i).any (fB (r.ai.getD i cA))=true then 12
 else if eJ (ct r.wide r.deep) r.aa.length r.ah.length (r.ai.getD i cA)≠0 then eJ (ct r.wide r.deep) r.aa.length r.ah.length (r.ai.getD i cA)
 else if cC (r.ai.getD i cA).cY 0 15=false∨cC (r.ai.getD i cA).jV 0 9=false then 2 else 0:=by rw [ug,cO]
noncomputable def cv:aC→Int:=mI fun r=>if oQ r≠0 then oQ r else if 40<r.ai.length then 8 else bB (ug r) r.ai.length 0
theorem rI (r:aC):cv r=if oQ r≠0 then oQ r else if 40<r.ai.length then 8 else bB (ug r) r.ai.length 0:=by rw [cv,cO]
theorem KS (r:aC)(hl:r.ai.length≤40)(hp:r.ah.length≤1000000)(ht:r.aa.length≤1000000)(Q:GX→bN→Prop): ∀k i:Nat,i+k=r.ai.length→
  (bB (ug r) k i=0→Q (.exit 0) ⟨[(2,aN)],[(1,aD r)]::H,77⟩)→
  (bB (ug r) k i≠0→Q .ret ⟨[(2, .pure (.int .i64 (bB (ug r) k i)))],[(1,aD r)]::H,77⟩)→
  fM KC au 57 (lp Tryz.f57 0) [1,17,18,19] [2] Q
   [(1, .aA (H.length,1) 0),(17, .pure (.slice (r.ai.map ak.row))),(18, .pure (.int .i64 r.ai.length)),(19, .pure (.int .i64 i))] ([(1,aD r)]::H) 77:=by
 intro k
 induction k with
 |zero=>
  intro i hi h1 h2;apply ax;conv=>arg 4;whnf
  have: ¬i<r.ai.length:=(by omega);simp [this];exact h1 rfl
 |succ k ih=>
  intro i hi h1 h2;have hia:i<r.ai.length:=(by omega);have hw:=cU (x:=(i:Int)+1) (by omega) (by omega);have hw2:=cU (x:=(i:Int)-1) (by omega) (by omega);have hwp:=cU (x:=(r.ah.length:Int)-1) (by omega) (by omega);have ih':=ih (i+1) (by omega);unfold bB at h1 h2;have hf:=xp r i;have hgi:r.ai.getD i cA=r.ai[i]:=(by simp [List.getD_eq_getElem?_getD,hia]);rw [hgi]at hf;have hile:i≤r.ai.length:=(by omega);have hmin:min i r.ai.length=i:=(by omega);have C:=fun(c:Nat)=>CO (c:=c) (H:=[(5,bR r.ai[i])]::[(1,aD r)]::H) (r.ai.take i) (by simp;omega) (fB r.ai[i]) (.func 91 [] [.aA (H.length+1,5) 0]) rfl (fun _=>rfl) (fun x c f0 f1 fr=>by
   rw [se];exact KR r.ai[i] x (by simp)) (fun f0 f1 fr=>by simp) (by simp)
  simp [aD,bR]at C;have CF:=fun(c:Nat) (H:aj) (hH:0<H.length)=>xI (c:=c) (r:=r) (H:=H) (q1:=r.ai[i].bc) (q2:=r.ai[i].aQ) (kind:=r.ai[i].kind) (hand:=r.ai[i].hand) (bh:=r.ai[i].bh) (cell:=r.ai[i].cell) (other:=r.ai[i].other) (q3:=r.ai[i].cY) (q4:=r.ai[i].jV) hp ht hH;simp only [ak.eta,cI]at CF;apply ax;conv=>arg 4;whnf
  cases z1:cC r.ai[i].bc 0 1000 with
  |false=>
   simp [z1]at hf;simp [hf]at h1 h2;simp [hia,ak.row,aD,dx,z1];simpa [aD]using h2
  |true=>
  have ord:(0<i∧r.ai[i].bc<(r.ai.getD (i-1) cA).bc)∨ ¬(0<i∧r.ai[i].bc<(r.ai.getD (i-1) cA).bc):=Classical.em _;have step: ∀(Q':Prop),(0<i→ ∀h:i-1<r.ai.length,¬((i:Int)-1<0)→((i:Int)-1).toNat=i-1→(0:Int)<i→r.ai.getD (i-1) cA=r.ai[i-1]→Q')→(i=0→Q')→Q':=fun Q' a b=>by
   by_cases h0:0<i
   ·have hi1:i-1<r.ai.length:=(by omega);exact a h0 hi1 (by omega) (by omega) (by omega) (by simp [List.getD_eq_getElem?_getD,hi1])
   ·exact b (by omega)
  refine step _ (fun h0 hi1 hnn htn h0' hg1=> ?_) (fun h0=> ?_)
  ·rw [hg1]at hf;by_cases z2:r.ai[i].bc<r.ai[i-1].bc
   ·simp [z1,z2,h0]at hf;simp [hf]at h1 h2;simp [hia,ak.row,aD,dx,z1,h0',hw2,hnn,htn,hi1,z2,h0];simpa [aD]using h2
   ·cases z3:cC r.ai[i].aQ 0 ((r.ah.length:Int)-1)with
    |false=>
     simp [z1,z2,z3,h0]at hf;simp [hf]at h1 h2;simp [hia,ak.row,aD,dx,z1,h0',hw2,hnn,htn,hi1,z2,hwp,z3,h0];simpa [aD]using h2
    |true=>
    cases z4:(r.ai.take i).any (fB r.ai[i])with
    |true=>
     simp only [z1,z2,z3,z4,and_false,Bool.true_eq_false,if_false,if_true]at hf;simp [hf]at h1 h2;simp [hia,ak.row,aD,dx,z1,h0',hw2,hnn,htn,hi1,z2,hwp,z3,hile,C,z4,h0];simpa [aD]using h2
    |false=>
    by_cases z5:eJ (ct r.wide r.deep) r.aa.length r.ah.length r.ai[i]=0
    ·cases z6:cC r.ai[i].cY 0 15 with
     |false=>
      simp only [z1,z2,z3,z4,z5,z6,and_false,Bool.true_eq_false,Bool.false_eq_true,ne_eq,not_true_eq_false,true_or,if_false,if_true]at hf;simp [hf]at h1 h2;simp [hia,ak.row,aD,dx,z1,h0',hw2,hnn,htn,hi1,z2,hwp,z3,hile,C,z4,CF,z5,z6,h0];simpa [aD]using h2
     |true=>
     cases z7:cC r.ai[i].jV 0 9 with
     |false=>
      simp only [z1,z2,z3,z4,z5,z6,z7,and_false,Bool.true_eq_false,Bool.false_eq_true,ne_eq,not_true_eq_false,or_true,if_false,if_true]at hf;simp [hf]at h1 h2;simp [hia,ak.row,aD,dx,z1,h0',hw2,hnn,htn,hi1,z2,hwp,z3,hile,C,z4,CF,z5,z6,z7,h0];simpa [aD]using h2
     |true=>
      simp only [z1,z2,z3,z4,z5,z6,z7,and_false,Bool.true_eq_false,Bool.false_eq_true,ne_eq,not_true_eq_false,or_self,if_false,if_true]at hf;simp [hf]at h1 h2;simp [hia,ak.row,aD,dx,z1,h0',hw2,hnn,htn,hi1,z2,hwp,z3,hile,C,z4,CF,z5,z6,z7,hw,h0];simpa [aD,ak.row]using ih' h1 h2
    ·have z5':(eJ (ct r.wide r.deep) r.aa.length r.ah.length r.ai[i] !=0)=true:=(by simpa using z5);simp only [z1,z2,z3,z4,z5,and_false,Bool.true_eq_false,Bool.false_eq_true,ne_eq,not_false_eq_true,if_false,if_true]at hf;simp [hf,z5]at h1 h2;simp [hia,ak.row,aD,dx,z1,h0',hw2,hnn,htn,hi1,z2,hwp,z3,hile,C,z4,CF,z5,z5',h0];simpa [aD]using h2
  ·subst h0;simp at C;have z4:(r.ai.take 0).any (fB r.ai[0])=false:=by simp
   cases z3:cC r.ai[0].aQ 0 ((r.ah.length:Int)-1)with
   |false=>
    simp [z1,z3]at hf;simp [hf]at h1 h2;simp [hia,ak.row,aD,dx,z1,hwp,z3];simpa [aD]using h2
   |true=>
   by_cases z5:eJ (ct r.wide r.deep) r.aa.length r.ah.length r.ai[0]=0
   ·cases z6:cC r.ai[0].cY 0 15 with
    |false=>
     simp [z1,z3,z5,z6]at hf;simp [hf]at h1 h2;simp [hia,ak.row,aD,dx,z1,hwp,z3,C,CF,z5,z6];simpa [aD]using h2
    |true=>
    cases z7:cC r.ai[0].jV 0 9 with
    |false=>
     simp [z1,z3,z5,z6,z7]at hf;simp [hf]at h1 h2;simp [hia,ak.row,aD,dx,z1,hwp,z3,C,CF,z5,z6,z7];simpa [aD]using h2
    |true=>
     simp [z1,z3,z5,z6,z7]at hf;simp [hf]at h1 h2;simp [hia,ak.row,aD,dx,z1,hwp,z3,C,CF,z5,z6,z7,hw];simpa [aD,ak.row]using ih' h1 h2
   ·have z5':(eJ (ct r.wide r.deep) r.aa.length r.ah.length r.ai[0] !=0)=true:=(by simpa using z5);simp [z1,z3,z5]at hf;simp [hf,z5]at h1 h2;simp [hia,ak.row,aD,dx,z1,hwp,z3,C,CF,z5,z5'];simpa [aD]using h2
theorem Ir (r:aC)(h1:r.seen.length≤1000000)(h2:r.aP.length≤1000000)(h3:r.ah.length≤1000000)(h4:r.aa.length≤1000000)(h5:r.ai.length≤1000000)(hH:0<H.length):
  bF KC (aG KC) 57 [.pure (.agg r.row)] c H=some (.pure (.int .i64 (cv r)),H):=by
 refine aM (aH KC au Tryz.func57 rfl rfl Wl (by simp) hH ?_);have hr:=rI r;have R:=fun c (H:aj) (hH:0<H.length)=>zH (c:=c) (H:=H) r h1 h2 h3 h4 hH;rw [cI]at R⊢;by_cases z1:oQ r=0
 ·by_cases z2:40<r.ai.length
  ·have z2':(40:Int)<r.ai.length:=(by omega);simp [z1,z2]at hr;simp [R,z1,z2,z2',ae,hr]
  ·have z2': ¬(40:Int)<r.ai.length:=(by omega);simp only [z1,z2,ne_eq,not_true_eq_false,if_false]at hr;simp [R,z1,z2,z2'];have L:=fun Q=>KS (H:=H) r (by omega) h3 h4 Q r.ai.length 0 (by omega);simp [aD]at L;refine L _ (fun h=> ?_) (fun h=> ?_)
   ·simp [h]at hr;simp [ae,hr]
   ·simp [ae,hr]
 ·have z1':(oQ r !=0)=true:=(by simpa using z1);simp [z1]at hr;simp [R,z1,z1',ae,hr]
theorem Cg (r:aC)(h1:r.seen.length≤1000000)(h2:r.aP.length≤1000000)(h3:r.ah.length≤1000000)(h4:r.aa.length≤1000000)(h5:r.ai.length≤1000000)(hH:0<H.length):
  aL KC (aG KC) 57 [.pure (.agg r.row)] c H=some (.pure (.int .i64 (cv r)),H):=dp rfl rfl rfl rfl rfl hH fun H hH=>Ir r h1 h2 h3 h4 h5 hH
end
section
variable {c:Nat} {H:aj}
theorem cV {k:Int}(hH:0<H.length):aL KC (aG KC) 82 [.pure (.int .i64 k)] c H=some (.pure (.bool (k !=1)),H):=by
 refine dp rfl rfl rfl rfl rfl hH fun H hH=> ?_;refine aM (aH KC au Tryz.func82 rfl rfl WH (by simp) hH ?_);simp [ae]
theorem AW {r:aC}{q1 q2 kind hand bh cell other q3 q4:Int}(h1:r.ah.length≤1000000)(h2:r.aa.length≤1000000)(hH:0<H.length):
  aL KC (aG KC) 76 [.pure (.agg r.row), .pure (.agg [.int .i64 q1, .int .i64 q2, .int .i64 kind, .int .i64 hand, .int .i64 bh, .int .i64 cell, .int .i64 other, .int .i64 q3, .int .i64 q4])] c H=
   some (.pure (.int .i64 (eJ (ct r.wide r.deep) r.aa.length r.ah.length ⟨q1,q2,kind,hand,bh,cell,other,q3,q4⟩)),H):=by
 refine dp rfl rfl rfl rfl rfl hH fun H hH=> ?_;refine aM (aH KC au Tryz.func76 rfl rfl WA (by simp) hH ?_);have hr:=pK (ct r.wide r.deep) r.aa.length r.ah.length ⟨q1,q2,kind,hand,bh,cell,other,q3,q4⟩;simp only [mU]at hr;rw [cI];have w1:=cU (x:=(r.ah.length:Int)-1) (by omega) (by omega);have w2:=cU (x:=(r.aa.length:Int)-1) (by omega) (by omega);have i0:cC 0 0 1=true:=rfl;rcases xH kind with rfl|rfl|rfl|hk|⟨hk,n1,n2,n3,n4,n5,n6,n7,n8⟩
 ·have i1:cC 1 1 8=true:=rfl;by_cases a1:hand=0
  ·by_cases a2:bh=0
   ·by_cases a3:other=0
    ·subst a1;subst a2;subst a3
     cases a4:cC cell 0 (ct r.wide r.deep)with
     |false=>
      simp [a4,i1,i0]at hr;simp [a9,cV,hZ,a4,i1,ae,hr]
     |true=>
      simp [a4,i1,i0]at hr;simp [a9,cV,hZ,a4,i0,i1,ae,hr]
    ·have a3':(other==0)=false:=(by simpa using a3);subst a1;subst a2;simp [a3,i1]at hr;simp [a9,cV,i1,a3',bne,ae,hr]
   ·have a2':(bh==0)=false:=(by simpa using a2);subst a1;simp [a2,i1]at hr;simp [a9,cV,i1,a2',bne,ae,hr]
  ·have a1':(hand==0)=false:=(by simpa using a1);simp [a1,i1]at hr;simp [a9,cV,i1,a1',bne,ae,hr]
 ·have i1:cC 2 1 8=true:=rfl;by_cases a1:cell=0
  ·by_cases a2:other=0
   ·subst a1;subst a2
    cases a3:cC hand 0 1 with
    |false=>
     simp [a3,i1]at hr;simp [a9,cV,i1,a3,ae,hr]
    |true=>
     cases a4:cC bh 0 ((r.aa.length:Int)-1)with
     |false=>
      simp [a3,a4,i1]at hr;simp [a9,cV,i1,a3,a4,w2,ae,hr]
     |true=>
      simp [a3,a4,i1]at hr;simp [a9,cV,i1,a3,a4,w2,ae,hr]
   ·have a2':(other==0)=false:=(by simpa using a2);subst a1;simp [a2,i1]at hr;simp [a9,cV,i1,a2',bne,ae,hr]
  ·have a1':(cell==0)=false:=(by simpa using a1);simp [a1,i1]at hr;simp [a9,cV,i1,a1',bne,ae,hr]
 ·have i1:cC 4 1 8=true:=rfl;by_cases a1:bh=0
  ·by_cases a2:cell=0
   ·subst a1;subst a2
    cases a3:cC hand 0 1 with
    |false=>
     simp [a3,i1]at hr;simp [a9,cV,i1,a3,ae,hr]
    |true=>
     cases a4:cC other 0 ((r.ah.length:Int)-1)with
     |false=>
      simp [a3,a4,i1]at hr;simp [a9,cV,i1,a3,a4,w1,ae,hr]
     |true=>
      by_cases a5:other=q2
      ·subst a5;simp [a3,a4,i1]at hr;simp [a9,cV,i1,a3,a4,w1,ae,hr]
      ·have a5':(other==q2)=false:=(by simpa using a5);simp [a3,a4,a5,i1]at hr;simp [a9,cV,i1,a3,a4,a5',w1,ae,hr]
   ·have a2':(cell==0)=false:=(by simpa using a2);subst a1;simp [a2,i1]at hr;simp [a9,cV,i1,a2',bne,ae,hr]
  ·have a1':(bh==0)=false:=(by simpa using a1);simp [a1,i1]at hr;simp [a9,cV,i1,a1',bne,ae,hr]
 ·have i1:cC kind 1 8=true:=(by simp [cC];omega);have m1:kind≠1:=(by omega);have m2:kind≠2:=(by omega);have m4:kind≠4:=(by omega);have m1':(kind==1)=false:=(by simpa using m1);have m2':(kind==2)=false:=(by simpa using m2);have m4':(kind==4)=false:=(by simpa using m4);by_cases a1:bh=0
  ·by_cases a2:cell=0
   ·by_cases a3:other=0
    ·subst a1;subst a2;subst a3
     cases a4:cC hand 0 1 with
     |false=>
      simp [a4,i1,m1,m2,m4]at hr;simp [a9,cV,i1,m1',m2',m4',bne,a4,ae,hr]
     |true=>
      simp [a4,i1,m1,m2,m4]at hr;simp [a9,cV,i1,m1',m2',m4',bne,a4,ae,hr]
    ·have a3':(other==0)=false:=(by simpa using a3);subst a1;subst a2;simp [a3,i1,m1,m2,m4]at hr;simp [a9,cV,i1,m1',m2',m4',bne,a3',ae,hr]
   ·have a2':(cell==0)=false:=(by simpa using a2);subst a1;simp [a2,i1,m1,m2,m4]at hr;simp [a9,cV,i1,m1',m2',m4',bne,a2',ae,hr]
  ·have a1':(bh==0)=false:=(by simpa using a1);simp [a1,i1,m1,m2,m4]at hr;simp [a9,cV,i1,m1',m2',m4',bne,a1',ae,hr]
 ·simp [hk]at hr;simp [a9,hk,ae,hr]
theorem EX (r:aC)(n:Nat)(hn:n≤r.ah.length)(hl:r.ah.length≤4)(p:aS)(Q:GX→bN→Prop)(f0:Fr)(hf0:f0=[(4, .box [.pure (.int .i64 p.role), .pure (.int .i64 p.cell)])]):
  ∀k i:Nat,i+k=n→dh r.ah i p.cell=false→
  (dh r.ah n p.cell=false→Q (.exit 2) ⟨[(1, .aA (H.length,1) 0),(2,aN),(3, .pure (.int .i64 n))],f0::[(1,aD r)]::H,49⟩)→
  (dh r.ah n p.cell=true→Q .ret ⟨[(1, .aA (H.length,1) 0),(2, .pure (.int .i64 12)),(3, .pure (.int .i64 n))],f0::[(1,aD r)]::H,49⟩)→
  fM KC au 95 (lp Tryz.f95 1) [1,3,4,5] [1,2,3] Q
   [(1, .aA (H.length,1) 0),(3, .pure (.int .i64 n)),(4, .aA (H.length+1,4) 0),(5, .pure (.int .i64 i))] (f0::[(1,aD r)]::H) 49:=by
 subst hf0;intro k
 induction k with
 |zero=>
  intro i hi hs h1 h2;have e:i=n:=(by omega);subst e;apply ax;conv=>arg 4;whnf
  simp [aD];exact h1 hs
 |succ k ih=>
  intro i hi hs h1 h2;have hin:i<n:=(by omega);have hil:i<r.ah.length:=(by omega);have hw:=cU (x:=(i:Int)+1) (by omega) (by omega);have hs1:=qD r.ah i hil p.cell;apply ax;conv=>arg 4;whnf
  by_cases he:r.ah[i].cell=p.cell
  ·have ht:dh r.ah n p.cell=true:=by
    unfold dh;rw [List.any_eq_true];exact⟨r.ah[i],List.mem_take_iff_getElem.2 ⟨i,by omega,rfl⟩,by simp [he]⟩
   simp [hin,hil,hw,aD,aS.row,he];exact h2 ht
  ·have hs':dh r.ah (i+1) p.cell=false:=(by rw [hs1,hs];simpa using he);have he':(r.ah[i].cell==p.cell)=false:=(by simpa using he);simp [hin,hil,hw,aD,aS.row,he'];simpa [aD]using ih (i+1) (by omega) hs' h1 h2
theorem AX (r:aC)(hl:r.ah.length≤4)(Q:GX→bN→Prop): ∀k i:Nat,i+k=r.ah.length→
  (bB (ia (ct r.wide r.deep) r.ah) k i=0→Q (.exit 0) ⟨[(2,aN)],[(1,aD r)]::H,49⟩)→
  (bB (ia (ct r.wide r.deep) r.ah) k i≠0→Q .ret ⟨[(2, .pure (.int .i64 (bB (ia (ct r.wide r.deep) r.ah) k i)))],[(1,aD r)]::H,49⟩)→
  fM KC au 95 (lp Tryz.f95 0) [1,3] [2] Q
   [(1, .aA (H.length,1) 0),(3, .pure (.int .i64 i))] ([(1,aD r)]::H) 49:=by
 intro k
 induction k with
 |zero=>
  intro i hi h1 h2;apply ax;conv=>arg 4;whnf
  have: ¬i<r.ah.length:=(by omega);simp [this,aD];exact h1 rfl
 |succ k ih=>
  intro i hi h1 h2;have hia:i<r.ah.length:=(by omega);have hw:=cU (x:=(i:Int)+1) (by omega) (by omega);have ih':=ih (i+1) (by omega);unfold bB at h1 h2;have hf:=oP (ct r.wide r.deep) r.ah i;have hgi:r.ah.getD i ⟨0,0⟩=r.ah[i]:=(by simp [List.getD_eq_getElem?_getD,hia]);rw [hgi]at hf;apply ax;conv=>arg 4;whnf
  by_cases h3:cC r.ah[i].role 1 3=true
  ·by_cases h4:cC r.ah[i].cell 0 (ct r.wide r.deep)=true
   ·simp [hia,aS.row,aD,a9,hZ,h3,h4];have L:=fun Q=>EX (H:=H) r i (by omega) hl r.ah[i] Q _ rfl i 0 (by omega) (by simp [dh]);simp [aD]at L;refine L _ (fun h5=> ?_) (fun h5=> ?_)
    ·simp [h3,h4,h5]at hf;simp [hf]at h1 h2;simp [hw];simpa [aD]using ih' h1 h2
    ·simp [h3,h4,h5]at hf;simp [hf]at h1 h2;simp;simpa [aD]using h2
   ·have h4':cC r.ah[i].cell 0 (ct r.wide r.deep)=false:=(by simpa using h4);simp [h3,h4']at hf;simp [hf]at h1 h2;simp [hia,aS.row,aD,a9,hZ,h3,h4'];simpa [aD]using h2
  ·have h3':cC r.ah[i].role 1 3=false:=(by simpa using h3);simp [h3']at hf;simp [hf]at h1 h2;simp [hia,aS.row,aD,a9,hZ,h3'];simpa [aD]using h2
noncomputable def mw:aC→Int:=mI fun r=>if r.ah.length=0 then 6 else if 4<r.ah.length then 8 else bB (ia (ct r.wide r.deep) r.ah) r.ah.length 0
theorem u9 (r:aC):mw r=if r.ah.length=0 then 6 else if 4<r.ah.length then 8 else bB (ia (ct r.wide r.deep) r.ah) r.ah.length 0:=by rw [mw,cO]
theorem xJ (r:aC)(hH:0<H.length):
  aL KC (aG KC) 95 [.pure (.agg r.row)] c H=some (.pure (.int .i64 (mw r)),H):=by
 refine dp rfl rfl rfl rfl rfl hH fun H hH=> ?_;refine aM (aH KC au Tryz.func95 rfl rfl WT (by simp) hH ?_);have hr:=u9 r;rw [cI];by_cases e3:r.ah.length=0
 ·have e3':r.ah=[]:=List.length_eq_zero_iff.1 e3;simp [e3,e3']at hr;simp [e3,e3',ae,hr]
 have e3':((r.ah.length:Int)==0)=false:=beq_eq_false_iff_ne.2 (by omega);by_cases e4:4<r.ah.length
 ·have e4':(4:Int)<r.ah.length:=(by omega);simp [e3,e4]at hr;simp [e3,e3',e4,e4',ae,hr]
 have e4': ¬(4:Int)<r.ah.length:=(by omega);simp only [e3,e4,if_false]at hr;simp [e3,e3',e4,e4'];have L:=fun Q=>AX (H:=H) r (by omega) Q r.ah.length 0 (by omega);simp [aD]at L;refine L _ (fun z1=> ?_) (fun z1=> ?_)
 ·simp [z1]at hr;simp [ae,hr]
 ·simp [ae,hr]
end
section
variable {c:Nat} {H:aj}
theorem CP (r:aC)(hl:r.aa.length≤8)(Q:GX→bN→Prop): ∀k i:Nat,i+k=r.aa.length→
  (bB (iP (ct r.wide r.deep) r.aa) k i=0→Q (.exit 0) ⟨[(1, .aA (H.length,1) 0),(2,aN)],[(1,aD r)]::H,106⟩)→
  (bB (iP (ct r.wide r.deep) r.aa) k i≠0→Q .ret ⟨[(1, .aA (H.length,1) 0),(2, .pure (.int .i64 (bB (iP (ct r.wide r.deep) r.aa) k i)))],[(1,aD r)]::H,106⟩)→
  fM KC au 96 (lp Tryz.f96 0) [1,3] [1,2] Q
   [(1, .aA (H.length,1) 0),(3, .pure (.int .i64 i))] ([(1,aD r)]::H) 106:=by
 intro k
 induction k with
 |zero=>
  intro i hi h1 h2;apply ax;conv=>arg 4;whnf
  have: ¬i<r.aa.length:=(by omega);simp [this,aD];exact h1 rfl
 |succ k ih=>
  intro i hi h1 h2;have hia:i<r.aa.length:=(by omega);have hw:=cU (x:=(i:Int)+1) (by omega) (by omega);have ih':=ih (i+1) (by omega);unfold bB at h1 h2;have hf:=qT (ct r.wide r.deep) r.aa i;have hgi:r.aa.getD i ⟨0,0,0,0,false⟩=r.aa[i]:=(by simp [List.getD_eq_getElem?_getD,hia]);rw [hgi]at hf;apply ax;conv=>arg 4;whnf
  cases h3:cC r.aa[i].cell 0 (ct r.wide r.deep)with
  |false=>
   simp [h3]at hf;simp [hf]at h1 h2;simp [hia,aY.row,aD,a9,hZ,h3];simpa [aD]using h2
  |true=>
   cases h4:cC r.aa[i].home 0 (ct r.wide r.deep)with
   |false=>
    simp [h3,h4]at hf;simp [hf]at h1 h2;simp [hia,aY.row,aD,a9,hZ,h3,h4];simpa [aD]using h2
   |true=>
    cases h5:cC r.aa[i].state 0 15 with
    |false=>
     simp [h3,h4,h5]at hf;simp [hf]at h1 h2;simp [hia,aY.row,aD,a9,hZ,h3,h4,h5];simpa [aD]using h2
    |true=>
     cases h6:cC r.aa[i].want 0 15 with
     |false=>
      simp [h3,h4,h5,h6]at hf;simp [hf]at h1 h2;simp [hia,aY.row,aD,a9,hZ,h3,h4,h5,h6];simpa [aD]using h2
     |true=>
      simp [h3,h4,h5,h6]at hf;simp [hf]at h1 h2;simp [hia,aY.row,aD,a9,hZ,h3,h4,h5,h6,hw];simpa [aD]using ih' h1 h2
theorem EY (r:aC)(hl:r.seen.length≤1000000)(Q:GX→bN→Prop): ∀k i:Nat,i+k=r.seen.length→
  (bB (kg (fun x=>cC x 0 (ct r.wide r.deep)) 7 r.seen) k i=0→Q (.exit 2) ⟨[(1, .aA (H.length,1) 0),(2,aN)],[(1,aD r)]::H,106⟩)→
  (bB (kg (fun x=>cC x 0 (ct r.wide r.deep)) 7 r.seen) k i≠0→Q .ret ⟨[(1, .aA (H.length,1) 0),(2, .pure (.int .i64 (bB (kg (fun x=>cC x 0 (ct r.wide r.deep)) 7 r.seen) k i)))],[(1,aD r)]::H,106⟩)→
  fM KC au 96 (lp Tryz.f96 1) [1,5] [1,2] Q
   [(1, .aA (H.length,1) 0),(5, .pure (.int .i64 i))] ([(1,aD r)]::H) 106:=by
 intro k
 induction k with
 |zero=>
  intro i hi h1 h2;apply ax;conv=>arg 4;whnf
  have: ¬i<r.seen.length:=(by omega);simp [this,aD];exact h1 rfl
 |succ k ih=>
  intro i hi h1 h2;have hia:i<r.seen.length:=(by omega);have hw:=cU (x:=(i:Int)+1) (by omega) (by omega);have hw2:=cU (x:=(i:Int)-1) (by omega) (by omega);have ih':=ih (i+1) (by omega);unfold bB at h1 h2;have hf:=sa (fun x=>cC x 0 (ct r.wide r.deep)) 7 r.seen i;have hgi:r.seen.getD i 0=r.seen[i]:=(by simp [List.getD_eq_getElem?_getD,hia]);rw [hgi]at hf;apply ax;conv=>arg 4;whnf
  cases hp:cC r.seen[i] 0 (ct r.wide r.deep)with
  |true=>
   by_cases h0:0<i
   ·have h0':(0:Int)<i:=(by omega);have hi1:i-1<r.seen.length:=(by omega);have hgi1:r.seen.getD (i-1) 0=r.seen[i-1]:=(by simp [List.getD_eq_getElem?_getD,hi1]);have hnn: ¬(i:Int)-1<0:=(by omega);have htn:((i:Int)-1).toNat=i-1:=(by omega);rw [hgi1]at hf;by_cases hle:r.seen[i]≤r.seen[i-1]
    ·simp [hp,h0,hle]at hf;simp [hf]at h1 h2;simp [hia,aD,aE,hZ,hp,hw,hw2,h0,h0',hnn,htn,hi1,hle];simpa [aD,aE]using h2
    ·simp [hp,h0,hle]at hf;simp [hf]at h1 h2;simp [hia,aD,aE,hZ,hp,hw,hw2,h0,h0',hnn,htn,hi1,hle];simpa [aD,aE]using ih' h1 h2
   ·have h00:i=0:=(by omega);simp [hp,h0]at hf;simp [hf]at h1 h2;subst h00;simp [hia,aD,aE,hZ,hp,hw];simpa [aD,aE]using ih' h1 h2
  |false=>
   simp [hp]at hf;simp [hf]at h1 h2;simp [hia,aD,aE,hZ,hp];simpa [aD,aE]using h2
theorem CQ (r:aC)(hl:r.aP.length≤1000000)(Q:GX→bN→Prop): ∀k i:Nat,i+k=r.aP.length→
  (bB (kg (fun x=>cC x 1 3) 4 r.aP) k i=0→Q (.exit 4) ⟨[(2,aN)],[(1,aD r)]::H,106⟩)→
  (bB (kg (fun x=>cC x 1 3) 4 r.aP) k i≠0→Q .ret ⟨[(2, .pure (.int .i64 (bB (kg (fun x=>cC x 1 3) 4 r.aP) k i)))],[(1,aD r)]::H,106⟩)→
  fM KC au 96 (lp Tryz.f96 2) [1,6] [2] Q
   [(1, .aA (H.length,1) 0),(6, .pure (.int .i64 i))] ([(1,aD r)]::H) 106:=by
 intro k
 induction k with
 |zero=>
  intro i hi h1 h2;apply ax;conv=>arg 4;whnf
  have: ¬i<r.aP.length:=(by omega);simp [this,aD];exact h1 rfl
 |succ k ih=>
  intro i hi h1 h2;have hia:i<r.aP.length:=(by omega);have hw:=cU (x:=(i:Int)+1) (by omega) (by omega);have hw2:=cU (x:=(i:Int)-1) (by omega) (by omega);have ih':=ih (i+1) (by omega);unfold bB at h1 h2;have hf:=sa (fun x=>cC x 1 3) 4 r.aP i;have hgi:r.aP.getD i 0=r.aP[i]:=(by simp [List.getD_eq_getElem?_getD,hia]);rw [hgi]at hf;apply ax;conv=>arg 4;whnf
  cases hp:cC r.aP[i] 1 3 with
  |true=>
   by_cases h0:0<i
   ·have h0':(0:Int)<i:=(by omega);have hi1:i-1<r.aP.length:=(by omega);have hgi1:r.aP.getD (i-1) 0=r.aP[i-1]:=(by simp [List.getD_eq_getElem?_getD,hi1]);have hnn: ¬(i:Int)-1<0:=(by omega);have htn:((i:Int)-1).toNat=i-1:=(by omega);rw [hgi1]at hf;by_cases hle:r.aP[i]≤r.aP[i-1]
    ·simp [hp,h0,hle]at hf;simp [hf]at h1 h2;simp [hia,aD,aE,a9,hp,hw,hw2,h0,h0',hnn,htn,hi1,hle];simpa [aD,aE]using h2
    ·simp [hp,h0,hle]at hf;simp [hf]at h1 h2;simp [hia,aD,aE,a9,hp,hw,hw2,h0,h0',hnn,htn,hi1,hle];simpa [aD,aE]using ih' h1 h2
   ·have h00:i=0:=(by omega);simp [hp,h0]at hf;simp [hf]at h1 h2;subst h00;simp [hia,aD,aE,a9,hp,hw];simpa [aD,aE]using ih' h1 h2
  |false=>
   simp [hp]at hf;simp [hf]at h1 h2;simp [hia,aD,aE,a9,hp];simpa [aD,aE]using h2
noncomputable def ow:aC→Int:=mI fun r=>
 if 8<r.aa.length then 8 else if bB (iP (ct r.wide r.deep) r.aa) r.aa.length 0≠0 then bB (iP (ct r.wide r.deep) r.aa) r.aa.length 0
 else if bB (kg (fun x=>cC x 0 (ct r.wide r.deep)) 7 r.seen) r.seen.length 0≠0 then bB (kg (fun x=>cC x 0 (ct r.wide r.deep)) 7 r.seen) r.seen.length 0
 else bB (kg (fun x=>cC x 1 3) 4 r.aP) r.aP.length 0
theorem vc (r:aC):ow r=
 if 8<r.aa.length then 8 else if bB (iP (ct r.wide r.deep) r.aa) r.aa.length 0≠0 then bB (iP (ct r.wide r.deep) r.aa) r.aa.length 0
 else if bB (kg (fun x=>cC x 0 (ct r.wide r.deep)) 7 r.seen) r.seen.length 0≠0 then bB (kg (fun x=>cC x 0 (ct r.wide r.deep)) 7 r.seen) r.seen.length 0
 else bB (kg (fun x=>cC x 1 3) 4 r.aP) r.aP.length 0:=by rw [ow,cO]
theorem xK (r:aC)(h1:r.seen.length≤1000000)(h2:r.aP.length≤1000000)(hH:0<H.length):
  aL KC (aG KC) 96 [.pure (.agg r.row)] c H=some (.pure (.int .i64 (ow r)),H):=by
 refine dp rfl rfl rfl rfl rfl hH fun H hH=> ?_;refine aM (aH KC au Tryz.func96 rfl rfl WU (by simp) hH ?_);have hr:=vc r;rw [cI];by_cases e5:8<r.aa.length
 ·have e5':(8:Int)<r.aa.length:=(by omega);simp [e5]at hr;simp [e5',e5,ae,hr]
 have e5': ¬(8:Int)<r.aa.length:=(by omega);simp only [e5,if_false]at hr;simp [e5',e5];have L2:=fun Q=>CP (H:=H) r (by omega) Q r.aa.length 0 (by omega);simp [aD]at L2;refine L2 _ (fun z2=> ?_) (fun z2=> ?_)
 ·simp only [z2,ne_eq,not_true_eq_false,if_false]at hr;simp;have L3:=fun Q=>EY (H:=H) r (by omega) Q r.seen.length 0 (by omega);simp [aD]at L3;refine L3 _ (fun z3=> ?_) (fun z3=> ?_)
  ·simp only [z3,not_true_eq_false,if_false]at hr;simp;have L4:=fun Q=>CQ (H:=H) r (by omega) Q r.aP.length 0 (by omega);simp [aD]at L4;refine L4 _ (fun z4=> ?_) (fun z4=> ?_)
   ·simp [z4]at hr;simp [ae,hr]
   ·simp [ae,hr]
  ·simp [z3]at hr;simp [ae,hr]
 ·simp [z2]at hr;simp [ae,hr]
end
section
variable {c:Nat} {H:aj}
@[simp] theorem Yn {l0:Nat}:clean H l0 aN=aN:= .trans rfl rfl
theorem yl {α:Type}(p:α→Bool)(l:List α)(i:Nat)(h:i<l.length):(l.take (i+1)).any p=((l.take i).any p||p l[i]):=by
 rw [List.take_succ_eq_append_getElem h,List.any_append];simp
theorem AY {α:Type}(p:α→Bool)(l:List α)(i n:Nat)(h:i<l.length)(hin:i<n)(hp:p l[i]=true):(l.take n).any p=true:=by
 rw [List.any_eq_true];exact⟨l[i],List.mem_take_iff_getElem.2 ⟨i,by omega,rfl⟩,hp⟩
theorem CR (r:aC)(n:Nat)(hn:n≤r.ai.length)(hl:r.ai.length≤40)(a:ak)(Q:GX→bN→Prop)(f0:Fr)(hf0:f0=[(4,bR a)]):
  ∀k i:Nat,i+k=n→(r.ai.take i).any (fB a)=false→
  ((r.ai.take n).any (fB a)=false→Q (.exit 2) ⟨[(1, .aA (H.length,1) 0),(2,aN),(3, .pure (.int .i64 n)),(4, .aA (H.length+1,4) 0)],f0::[(1,aD r)]::H,90⟩)→
  ((r.ai.take n).any (fB a)=true→Q .ret ⟨[(1, .aA (H.length,1) 0),(2, .pure (.int .i64 12)),(3, .pure (.int .i64 n)),(4, .aA (H.length+1,4) 0)],f0::[(1,aD r)]::H,90⟩)→
  fM KC au 97 (lp Tryz.f97 1) [1,3,4,5] [1,2,3,4] Q
   [(1, .aA (H.length,1) 0),(3, .pure (.int .i64 n)),(4, .aA (H.length+1,4) 0),(5, .pure (.int .i64 i))] (f0::[(1,aD r)]::H) 90:=by
 subst hf0;intro k
 induction k with
 |zero=>
  intro i hi hs h1 h2;have e:i=n:=(by omega);subst e;apply ax;conv=>arg 4;whnf
  simp [aD,bR];simpa [aD,bR]using h1 hs
 |succ k ih=>
  intro i hi hs h1 h2;have hin:i<n:=(by omega);have hil:i<r.ai.length:=(by omega);have hw:=cU (x:=(i:Int)+1) (by omega) (by omega);have hs1:=yl (fB a) r.ai i hil;have hh:=AY (fB a) r.ai i n hil hin;have hd:fB a r.ai[i]=(r.ai[i].bc==a.bc && r.ai[i].aQ==a.aQ):=rfl;apply ax;conv=>arg 4;whnf
  cases z1:(r.ai[i].bc==a.bc)with
  |false=>
   have hs':(r.ai.take (i+1)).any (fB a)=false:=(by rw [hs1,hs,hd,z1];rfl);simp [hin,hil,hw,aD,bR,ak.row,z1];simpa [aD,bR,ak.row]using ih (i+1) (by omega) hs' h1 h2
  |true=>
   cases z2:(r.ai[i].aQ==a.aQ)with
   |false=>
    have hs':(r.ai.take (i+1)).any (fB a)=false:=(by rw [hs1,hs,hd,z1,z2];rfl);simp [hin,hil,hw,aD,bR,ak.row,z1,z2];simpa [aD,bR,ak.row]using ih (i+1) (by omega) hs' h1 h2
   |true=>
    have ht:(r.ai.take n).any (fB a)=true:=hh (by rw [hd,z1,z2];rfl);simp [hin,hil,hw,aD,bR,ak.row,z1,z2];simpa [aD,bR,ak.row]using h2 ht
theorem Is (r:aC)(hl:r.ai.length≤40)(hp:r.ah.length≤1000000)(ht:r.aa.length≤1000000)(Q:GX→bN→Prop): ∀k i:Nat,i+k=r.ai.length→
  (bB (ug r) k i=0→Q (.exit 0) ⟨[(2,aN)],[(1,aD r)]::H,90⟩)→
  (bB (ug r) k i≠0→Q .ret ⟨[(2, .pure (.int .i64 (bB (ug r) k i)))],[(1,aD r)]::H,90⟩)→
  fM KC au 97 (lp Tryz.f97 0) [1,3] [2] Q
   [(1, .aA (H.length,1) 0),(3, .pure (.int .i64 i))] ([(1,aD r)]::H) 90:=by
 intro k
 induction k with
 |zero=>
  intro i hi h1 h2;apply ax;conv=>arg 4;whnf
  have: ¬i<r.ai.length:=(by omega);simp [this,aD];exact h1 rfl
 |succ k ih=>
  intro i hi h1 h2;have hia:i<r.ai.length:=(by omega);have hw:=cU (x:=(i:Int)+1) (by omega) (by omega);have hw2:=cU (x:=(i:Int)-1) (by omega) (by omega);have hwp:=cU (x:=(r.ah.length:Int)-1) (by omega) (by omega);have ih':=ih (i+1) (by omega);unfold bB at h1 h2;have hf:=xp r i;have hgi:r.ai.getD i cA=r.ai[i]:=(by simp [List.getD_eq_getElem?_getD,hia]);rw [hgi]at hf;have CF:=fun(c:Nat) (H:aj) (hH:0<H.length)=>AW (c:=c) (r:=r) (H:=H) (q1:=r.ai[i].bc) (q2:=r.ai[i].aQ) (kind:=r.ai[i].kind) (hand:=r.ai[i].hand) (bh:=r.ai[i].bh) (cell:=r.ai[i].cell) (other:=r.ai[i].other) (q3:=r.ai[i].cY) (q4:=r.ai[i].jV) hp ht hH;simp only [ak.eta,cI]at CF;have L:=fun Q=>CR (H:=H) r i (by omega) hl r.ai[i] Q _ rfl i 0 (by omega) (by simp);simp only [aD,bR]at L;apply ax;conv=>arg 4;whnf
  cases z1:cC r.ai[i].bc 0 1000 with
  |false=>
   simp [z1]at hf;simp [hf]at h1 h2;simp [hia,ak.row,aD,a9,z1];simpa [aD]using h2
  |true=>
  have tail: ∀Z:Prop,Z=False→cC r.ai[i].aQ 0 ((r.ah.length:Int)-1)=true→ug r i=(if (r.ai.take i).any (fB r.ai[i])=true then 12
    else if eJ (ct r.wide r.deep) r.aa.length r.ah.length r.ai[i]≠0 then eJ (ct r.wide r.deep) r.aa.length r.ah.length r.ai[i]
    else if cC r.ai[i].cY 0 15=false∨cC r.ai[i].jV 0 9=false then 2 else 0)→True:=fun _ _ _ _=>trivial
  have step: ∀(Q':Prop),(0<i→ ∀h:i-1<r.ai.length,¬((i:Int)-1<0)→((i:Int)-1).toNat=i-1→(0:Int)<i→r.ai.getD (i-1) cA=r.ai[i-1]→Q')→(i=0→Q')→Q':=fun Q' a b=>by
   by_cases h0:0<i
   ·have hi1:i-1<r.ai.length:=(by omega);exact a h0 hi1 (by omega) (by omega) (by omega) (by simp [List.getD_eq_getElem?_getD,hi1])
   ·exact b (by omega)
  refine step _ (fun h0 hi1 hnn htn h0' hg1=> ?_) (fun h0=> ?_)
  ·rw [hg1]at hf;by_cases z2:r.ai[i].bc<r.ai[i-1].bc
   ·simp [z1,z2,h0]at hf;simp [hf]at h1 h2;simp [hia,ak.row,aD,a9,z1,h0',hw2,hnn,htn,hi1,z2,h0];simpa [aD]using h2
   ·cases z3:cC r.ai[i].aQ 0 ((r.ah.length:Int)-1)with
    |false=>
     simp [z1,z2,z3,h0]at hf;simp [hf]at h1 h2;simp [hia,ak.row,aD,a9,z1,h0',hw2,hnn,htn,hi1,z2,hwp,z3,h0];simpa [aD]using h2
    |true=>
    simp only [z1,z2,z3,and_false,Bool.true_eq_false,if_false]at hf;simp [hia,ak.row,aD,a9,z1,h0',hw2,hnn,htn,hi1,z2,hwp,z3,h0];refine L _ (fun z4=> ?_) (fun z4=> ?_)
    ·have z4':(r.ai.take i).any (fB r.ai[i])=false:=(by simpa using z4);by_cases z5:eJ (ct r.wide r.deep) r.aa.length r.ah.length r.ai[i]=0
     ·cases z6:cC r.ai[i].cY 0 15 with
      |false=>
       simp only [z4',z5,z6,Bool.false_eq_true,ne_eq,not_true_eq_false,true_or,if_false,if_true]at hf;simp [hf]at h1 h2;simp [CF,z5,z6,a9];simpa [aD]using h2
      |true=>
      cases z7:cC r.ai[i].jV 0 9 with
      |false=>
       simp only [z4',z5,z6,z7,Bool.true_eq_false,Bool.false_eq_true,ne_eq,not_true_eq_false,or_true,if_false,if_true]at hf;simp [hf]at h1 h2;simp [CF,z5,z6,z7,a9];simpa [aD]using h2
      |true=>
       simp only [z4',z5,z6,z7,Bool.true_eq_false,Bool.false_eq_true,ne_eq,not_true_eq_false,or_self,if_false,if_true]at hf;simp [hf]at h1 h2;simp [CF,z5,z6,z7,a9,hw];simpa [aD,ak.row]using ih' h1 h2
     ·have z5':(eJ (ct r.wide r.deep) r.aa.length r.ah.length r.ai[i] !=0)=true:=(by simpa using z5);simp only [z4',z5,Bool.false_eq_true,ne_eq,not_false_eq_true,if_false,if_true]at hf;simp [hf,z5]at h1 h2;simp [CF,z5,z5',a9];simpa [aD]using h2
    ·have z4':(r.ai.take i).any (fB r.ai[i])=true:=(by simpa using z4);simp only [z4',if_true]at hf;simp [hf]at h1 h2;simp;simpa [aD]using h2
  ·subst h0;simp only [z1,Nat.lt_irrefl,false_and,Bool.true_eq_false,if_false]at hf;have z4':(r.ai.take 0).any (fB r.ai[0])=false:=by simp
   cases z3:cC r.ai[0].aQ 0 ((r.ah.length:Int)-1)with
   |false=>
    simp [z3]at hf;simp [hf]at h1 h2;simp [hia,ak.row,aD,a9,z1,hwp,z3];simpa [aD]using h2
   |true=>
   simp only [z3,z4',Bool.true_eq_false,Bool.false_eq_true,if_false]at hf;simp [hia,ak.row,aD,a9,z1,hwp,z3];refine L _ (fun _=> ?_) (fun h=>by rw [z4']at h;cases h);by_cases z5:eJ (ct r.wide r.deep) r.aa.length r.ah.length r.ai[0]=0
   ·cases z6:cC r.ai[0].cY 0 15 with
    |false=>
     simp [z5,z6]at hf;simp [hf]at h1 h2;simp [CF,z5,z6,a9];simpa [aD]using h2
    |true=>
    cases z7:cC r.ai[0].jV 0 9 with
    |false=>
     simp [z5,z6,z7]at hf;simp [hf]at h1 h2;simp [CF,z5,z6,z7,a9];simpa [aD]using h2
    |true=>
     simp [z5,z6,z7]at hf;simp [hf]at h1 h2;simp [CF,z5,z6,z7,a9,hw];simpa [aD,ak.row]using ih' h1 h2
   ·have z5':(eJ (ct r.wide r.deep) r.aa.length r.ah.length r.ai[0] !=0)=true:=(by simpa using z5);simp [z5]at hf;simp [hf,z5]at h1 h2;simp [CF,z5,z5',a9];simpa [aD]using h2
noncomputable def Gj:aC→Int:=mI fun r=>if 40<r.ai.length then 8 else bB (ug r) r.ai.length 0
theorem zz (r:aC):Gj r=if 40<r.ai.length then 8 else bB (ug r) r.ai.length 0:=by rw [Gj,cO]
theorem AZ (r:aC)(h3:r.ah.length≤1000000)(h4:r.aa.length≤1000000)(hH:0<H.length):
  aL KC (aG KC) 97 [.pure (.agg r.row)] c H=some (.pure (.int .i64 (Gj r)),H):=by
 refine dp rfl rfl rfl rfl rfl hH fun H hH=> ?_;refine aM (aH KC au Tryz.func97 rfl rfl WV (by simp) hH ?_);have hr:=zz r;rw [cI];by_cases z2:40<r.ai.length
 ·have z2':(40:Int)<r.ai.length:=(by omega);simp [z2]at hr;simp [z2,z2',ae,hr]
 ·have z2': ¬(40:Int)<r.ai.length:=(by omega);simp only [z2,if_false]at hr;simp [z2,z2'];have L:=fun Q=>Is (H:=H) r (by omega) h3 h4 Q r.ai.length 0 (by omega);simp [aD]at L;refine L _ (fun h=> ?_) (fun h=> ?_)
  ·simp [h]at hr;simp [ae,hr]
  ·simp [ae,hr]
theorem ET (r:aC)(h1:r.seen.length≤1000000)(h2:r.aP.length≤1000000)(h3:r.ah.length≤1000000)(h4:r.aa.length≤1000000)(hH:0<H.length):
  bF KC (aG KC) 60 [.pure (.agg r.row)] c H=some (.pure (.int .i64 (cv r)),H):=by
 refine aM (aH KC au Tryz.func60 rfl rfl Wo (by simp) hH ?_);have hr:=rI r;have r1:=tE r;have r2:=u9 r;have r3:=vc r;have r4:=zz r;have P:=fun c (H:aj) (hH:0<H.length)=>xJ (c:=c) (H:=H) r hH;have T:=fun c (H:aj) (hH:0<H.length)=>xK (c:=c) (H:=H) r h1 h2 hH;have A:=fun c (H:aj) (hH:0<H.length)=>AZ (c:=c) (H:=H) r h3 h4 hH;rw [cI]at P T A⊢
 cases e1:cC r.wide 1 6 with
 |false=>
  simp [e1]at r1;simp [r1]at hr;simp [a9,e1,ae,hr]
 |true=>
 cases e2:cC r.deep 1 6 with
 |false=>
  simp [e1,e2]at r1;simp [r1]at hr;simp [a9,e1,e2,ae,hr]
 |true=>
 have rr:oQ r=if mw r≠0 then mw r else ow r:=by
  rw [r1,r2,r3,e1,e2];simp only [Bool.true_eq_false,or_self,if_false];by_cases q1:r.ah.length=0
  ·simp [q1]
  ·by_cases q2:4<r.ah.length
   ·simp [q1,q2]
   ·simp only [q1,q2,if_false]
 by_cases p1:mw r=0
 ·simp only [p1,ne_eq,not_true_eq_false,if_false]at rr;by_cases p2:ow r=0
  ·rw [p2]at rr;have ra:cv r=Gj r:=by
    rw [hr,rr,r4];simp
   simp [a9,e1,e2,P,T,A,p1,p2,ae,ra]
  ·have p2':(ow r !=0)=true:=(by simpa using p2);have ra:cv r=ow r:=by
    rw [hr,rr];simp [p2]
   simp [a9,e1,e2,P,T,A,p1,p2,p2',ae,ra]
 ·have p1':(mw r !=0)=true:=(by simpa using p1);have ra:cv r=mw r:=by
   rw [hr,rr];simp [p1]
  simp [a9,e1,e2,P,T,A,p1,p1',ae,ra]
end
section
variable {c:Nat} {H:aj}
noncomputable def kM:Int→Int→Int→Bool:=mI fun w a b=>
 (IntKind.i64.wrap (a.tmod w-b.tmod w)==0 && (IntKind.i64.wrap (IntKind.i64.wrap (a.tdiv w)-IntKind.i64.wrap (b.tdiv w))==1||IntKind.i64.wrap (IntKind.i64.wrap (a.tdiv w)-IntKind.i64.wrap (b.tdiv w))== -1))||
 (IntKind.i64.wrap (IntKind.i64.wrap (a.tdiv w)-IntKind.i64.wrap (b.tdiv w))==0 && (IntKind.i64.wrap (a.tmod w-b.tmod w)==1||IntKind.i64.wrap (a.tmod w-b.tmod w)== -1))
theorem yL (w a b:Int):kM w a b=
 ((IntKind.i64.wrap (a.tmod w-b.tmod w)==0 && (IntKind.i64.wrap (IntKind.i64.wrap (a.tdiv w)-IntKind.i64.wrap (b.tdiv w))==1||IntKind.i64.wrap (IntKind.i64.wrap (a.tdiv w)-IntKind.i64.wrap (b.tdiv w))== -1))||
 (IntKind.i64.wrap (IntKind.i64.wrap (a.tdiv w)-IntKind.i64.wrap (b.tdiv w))==0 && (IntKind.i64.wrap (a.tmod w-b.tmod w)==1||IntKind.i64.wrap (a.tmod w-b.tmod w)== -1))):=by rw [kM,cO]
theorem nq {w d a b:Int}{x1 x2 x3 x4 x5:PV}(hw:w≠0)(hH:0<H.length):aL KC (aG KC) 120 [.pure (.agg [.int .i64 w, .int .i64 d,x1,x2,x3,x4,x5]), .pure (.int .i64 a), .pure (.int .i64 b)] c H=some (.pure (.bool (kM w a b)),H):=by
 refine dp rfl rfl rfl rfl rfl hH fun H hH=> ?_;refine aM (aH KC au Tryz.func120 rfl rfl N4 (by simp) hH ?_);have hd:=yL w a b;generalize hx:IntKind.i64.wrap (a.tmod w-b.tmod w)=x at hd;generalize hy:IntKind.i64.wrap (IntKind.i64.wrap (a.tdiv w)-IntKind.i64.wrap (b.tdiv w))=y at hd;by_cases x0:x=0
 ·subst x0;by_cases y1:y=1
  ·subst y1;simp at hd;simp [hw,hx,hy,ae,hd]
  ·have y1':(y==1)=false:=(by simpa using y1);by_cases y2:y= -1
   ·subst y2;simp at hd;simp [hw,hx,hy,ae,hd]
   ·have y2':(y== -1)=false:=(by simpa using y2);by_cases y0:y=0
    ·subst y0;simp at hd;simp [hw,hx,hy,ae,hd]
    ·have y0':(y==0)=false:=(by simpa using y0);simp [y1',y2',y0']at hd;simp [hw,hx,hy,y1',y2',y0',ae,hd]
 ·have x0':(x==0)=false:=(by simpa using x0);by_cases y0:y=0
  ·subst y0;by_cases x1:x=1
   ·subst x1;simp at hd;simp [hw,hx,hy,ae,hd]
   ·have x1':(x==1)=false:=(by simpa using x1);by_cases x2:x= -1
    ·subst x2;simp at hd;simp [hw,hx,hy,ae,hd]
    ·have x2':(x== -1)=false:=(by simpa using x2);simp [x0',x1',x2']at hd;simp [hw,hx,hy,x0',x1',x2',ae,hd]
  ·have y0':(y==0)=false:=(by simpa using y0);simp [x0',y0']at hd;simp [hw,hx,hy,x0',y0',ae,hd]
def aV:bm:=⟨0,0⟩
noncomputable def fk:List bm→Int→Int→Bool:=mI fun ts t st=>decide (0≤t) && ((IntKind.i64.wrap ((ts.getD t.toNat aV).state.tdiv st)).tmod 2==1)
theorem iX (ts:List bm)(t st:Int):fk ts t st=(decide (0≤t) && ((IntKind.i64.wrap ((ts.getD t.toNat aV).state.tdiv st)).tmod 2==1)):=by rw [fk,cO]
theorem Gk {ts:List bm}{x1 x2:PV}{t st:Int}(ht:t<ts.length)(hst:st≠0)(hH:0<H.length):
  bF KC (aG KC) 121 [.pure (.agg [x1,x2, .slice (ts.map bm.row)]), .pure (.int .i64 t), .pure (.int .i64 st)] c H=some (.pure (.bool (fk ts t st)),H):=by
 refine aM (aH KC au Tryz.func121 rfl rfl N5 (by simp) hH ?_);have hd:=iX ts t st;by_cases h0:0≤t
 ·have hn: ¬t<0:=(by omega);have hl:t.toNat<ts.length:=(by omega);have hg:ts.getD t.toNat aV=ts[t.toNat]:=(by simp [List.getD_eq_getElem?_getD,hl]);rw [hg]at hd;simp [h0]at hd;simp [h0,hn,hl,hst,bm.row,ae,hd]
 ·simp [h0]at hd;simp [h0,ae,hd]
theorem vN {ts:List bm}{x1 x2:PV}{t st:Int}(ht:t<ts.length)(hst:st≠0)(hH:0<H.length):
  aL KC (aG KC) 121 [.pure (.agg [x1,x2, .slice (ts.map bm.row)]), .pure (.int .i64 t), .pure (.int .i64 st)] c H=some (.pure (.bool (fk ts t st)),H):=dp rfl rfl rfl rfl rfl hH fun H hH=>Gk ht hst hH
def bH:aF:=⟨0,0⟩
def eC (hs:List aF)(aQ:Nat):Int:=if (hs.getD aQ bH).l= -1 then 0 else if (hs.getD aQ bH).r= -1 then 1 else-1
theorem uh {hs:List aF}{x1 x2:PV}{aQ:Nat}(hw:aQ<hs.length)(hl:hs.length≤1000000)(hH:0<H.length):
  bF KC (aG KC) 85 [.pure (.agg [x1, .slice (hs.map aF.row),x2]), .pure (.int .i64 aQ)] c H=some (.pure (.int .i64 (eC hs aQ)),H):=by
 refine aM (aH KC au Tryz.func85 rfl rfl WJ (by simp) hH ?_);have hg:hs.getD aQ bH=hs[aQ]:=(by simp [List.getD_eq_getElem?_getD,hw]);have hd:eC hs aQ=if hs[aQ].l= -1 then 0 else if hs[aQ].r= -1 then 1 else-1:=(by unfold eC;rw [hg]);have w2:IntKind.i64.wrap 2=2:=rfl;simp;apply ax;conv=>arg 4;whnf
 by_cases h1:hs[aQ].l= -1
 ·simp [h1]at hd;simp [hw,aF.row,h1,ae,hd]
 ·have h1':(hs[aQ].l== -1)=false:=(by simpa using h1);simp [h1]at hd;simp [hw,aF.row,h1'];apply ax;conv=>arg 4;whnf
  by_cases h2:hs[aQ].r= -1
  ·simp [h2]at hd;simp [hw,aF.row,h2,ae,hd]
  ·have h2':(hs[aQ].r== -1)=false:=(by simpa using h2);simp [h2]at hd;simp [hw,aF.row,h2',w2];apply ax;conv=>arg 4;whnf
   simp [ae,hd]
theorem zA {hs:List aF}{x1 x2:PV}{aQ:Nat}(hw:aQ<hs.length)(hl:hs.length≤1000000)(hH:0<H.length):
  aL KC (aG KC) 85 [.pure (.agg [x1, .slice (hs.map aF.row),x2]), .pure (.int .i64 aQ)] c H=some (.pure (.int .i64 (eC hs aQ)),H):=dp rfl rfl rfl rfl rfl hH fun H hH=>uh hw hl hH
end
section
variable {c:Nat} {H:aj}
def bK (s:az)(w:Nat)(hand:Int):Int:=if hand=0 then (s.aq.getD w bH).l else (s.aq.getD w bH).r
def cK:aY:=⟨0,0,0,0,false⟩
noncomputable def bW:aC→az→Nat→ak→Bool:=mI fun r s w a=>
 if a.kind=1 then !(s.ah.contains a.cell) && kM r.wide (s.ah.getD w 0) a.cell
 else if a.kind=2 then bK s w a.hand== -1 && (s.aa.getD a.bh.toNat aV).cell==s.ah.getD w 0
 else if a.kind=3 then decide (0≤bK s w a.hand)
 else if a.kind=4 then decide (0≤bK s w a.hand) && kM r.wide (s.ah.getD w 0) (s.ah.getD a.other.toNat 0) && decide (0≤eC s.aq a.other.toNat)
 else if a.kind=5 then decide (0≤bK s w a.hand) && (r.aa.getD (bK s w a.hand).toNat cK).vT && decide (0≤bK s w (1-a.hand))
 else if a.kind=6 then fk s.aa (bK s w a.hand) 2 && !fk s.aa (bK s w a.hand) 4 && decide (0≤bK s w (1-a.hand)) && !fk s.aa (bK s w (1-a.hand)) 2 && !fk s.aa (bK s w (1-a.hand)) 4
 else if a.kind=7 then decide (0≤bK s w a.hand) && !fk s.aa (bK s w a.hand) 4
 else fk s.aa (bK s w a.hand) 4
theorem fP (r:aC)(s:az)(w:Nat)(a:ak):bW r s w a=
 if a.kind=1 then !(s.ah.contains a.cell) && kM r.wide (s.ah.getD w 0) a.cell
 else if a.kind=2 then bK s w a.hand== -1 && (s.aa.getD a.bh.toNat aV).cell==s.ah.getD w 0
 else if a.kind=3 then decide (0≤bK s w a.hand)
 else if a.kind=4 then decide (0≤bK s w a.hand) && kM r.wide (s.ah.getD w 0) (s.ah.getD a.other.toNat 0) && decide (0≤eC s.aq a.other.toNat)
 else if a.kind=5 then decide (0≤bK s w a.hand) && (r.aa.getD (bK s w a.hand).toNat cK).vT && decide (0≤bK s w (1-a.hand))
 else if a.kind=6 then fk s.aa (bK s w a.hand) 2 && !fk s.aa (bK s w a.hand) 4 && decide (0≤bK s w (1-a.hand)) && !fk s.aa (bK s w (1-a.hand)) 2 && !fk s.aa (bK s w (1-a.hand)) 4
 else if a.kind=7 then decide (0≤bK s w a.hand) && !fk s.aa (bK s w a.hand) 4
 else fk s.aa (bK s w a.hand) 4:=by rw [bW,cO]
def pU (s:az):dF:= .box [.pure (.slice (s.ah.map aE)), .pure (.slice (s.aq.map aF.row)), .pure (.slice (s.aa.map bm.row))]
theorem xL (r:aC) (s:az) (hl:s.ah.length≤1000000) (cell q1 q2 kind hand bh other q3 q4:Int) (Q:GX→bN→Prop) (fr:Fr)
  (hfr:fr=[(3,aD r),(4,pU s),(5, .box [.pure (.int .i64 q1), .pure (.int .i64 q2), .pure (.int .i64 kind), .pure (.int .i64 hand), .pure (.int .i64 bh), .pure (.int .i64 cell), .pure (.int .i64 other), .pure (.int .i64 q3), .pure (.int .i64 q4)])]):
  ∀k i:Nat,i+k=s.ah.length→
  ((s.ah.drop i).contains cell=false→Q (.exit 1) ⟨[(3, .aA (H.length,3) 0),(4, .aA (H.length,4) 0),(5, .aA (H.length,5) 0),(6,aN)],fr::H,165⟩)→
  ((s.ah.drop i).contains cell=true→Q .ret ⟨[(3, .aA (H.length,3) 0),(4, .aA (H.length,4) 0),(5, .aA (H.length,5) 0),(6, .pure (.bool false))],fr::H,165⟩)→
  fM KC au 84 (lp Tryz.f84 0) [3,4,5,9] [3,4,5,6] Q
   [(3, .aA (H.length,3) 0),(4, .aA (H.length,4) 0),(5, .aA (H.length,5) 0),(9, .pure (.int .i64 i))] (fr::H) 165:=by
 subst hfr;intro k
 induction k with
 |zero=>
  intro i hi h1 h2;have e1:s.ah.drop i=[]:=List.drop_of_length_le (by omega);rw [e1]at h1;apply ax;conv=>arg 4;whnf
  have: ¬i<s.ah.length:=(by omega);simp [this,aD,pU];simpa [aD,pU]using h1 rfl
 |succ k ih=>
  intro i hi h1 h2;have hia:i<s.ah.length:=(by omega);have hw:=cU (x:=(i:Int)+1) (by omega) (by omega);have ih':=ih (i+1) (by omega);rw [List.drop_eq_getElem_cons hia,List.contains_cons]at h1 h2;apply ax;conv=>arg 4;whnf
  by_cases he:s.ah[i]=cell
  ·have ht:(cell==s.ah[i]||(s.ah.drop (i+1)).contains cell)=true:=(by simp [he]);simp [hia,aD,pU,aE,he];simpa [aD,pU]using h2 ht
  ·have he':(s.ah[i]==cell)=false:=(by simpa using he);have he2:(cell==s.ah[i])=false:=(by simpa using fun h=>he h.symm);rw [he2,Bool.false_or]at h1 h2;simp [hia,aD,pU,aE,he',hw];simpa [aD,pU,aE]using ih' h1 h2
theorem A0 {r:aC} {s:az} {w:Nat} {q1 kind bh cell other q3 q4:Int} (hw:w<s.ah.length) (hwh:w<s.aq.length) (hhl:s.aq.length≤1000000) (hpl:s.ah.length≤1000000) (hwide:r.wide≠0)
  (hL: ∀h:w<s.aq.length,s.aq[w].l<s.aa.length∧s.aq[w].r<s.aa.length∧ -1≤s.aq[w].l∧ -1≤s.aq[w].r) (htl:s.aa.length=r.aa.length)
  (h2:kind=2→ ∃t:Nat,bh=t∧t<s.aa.length) (h4:kind=4→ ∃o:Nat,other=o∧o<s.ah.length∧o<s.aq.length) (hH:0<H.length):
  bF KC (aG KC) 84 [.pure (.agg r.row), .pure (.agg s.row), .pure (.agg [.int .i64 q1, .int .i64 w, .int .i64 kind, .int .i64 0, .int .i64 bh, .int .i64 cell, .int .i64 other, .int .i64 q3, .int .i64 q4])] c H=
   some (.pure (.bool (bW r s w ⟨q1,w,kind,0,bh,cell,other,q3,q4⟩)),H):=by
 refine aM (aH KC au Tryz.func84 rfl rfl I8 (by simp) hH ?_);have hd:=fP r s w ⟨q1,w,kind,0,bh,cell,other,q3,q4⟩;obtain⟨l1,l2,l3,l4⟩:=hL hwh;have hg:s.aq.getD w bH=s.aq[w]:=(by simp [List.getD_eq_getElem?_getD,hwh]);have hp:s.ah.getD w 0=s.ah[w]:=(by simp [List.getD_eq_getElem?_getD,hw]);have e1:bK s w 0=s.aq[w].l:=(by unfold bK;rw [hg];simp);have e2:bK s w (1-0)=s.aq[w].r:=(by unfold bK;rw [hg];simp);simp only [e1,e2,hp]at hd;have wr:IntKind.i64.wrap (1-0)=1:=rfl;rw [cI];simp only [az.row];have sw:(1:Int)-0=1:=rfl;by_cases k1:kind=1
 ·subst k1;rw [if_pos rfl]at hd;simp [hw,hwh,aF.row,wr];have L:=fun Q=>xL (H:=H) r s hpl cell q1 w 1 0 bh other q3 q4 Q _ rfl s.ah.length 0 (by omega);simp only [aD,pU]at L;refine L _ (fun z=> ?_) (fun z=> ?_)
  ·have z':s.ah.contains cell=false:=(by simpa using z);rw [z',Bool.not_false,Bool.true_and]at hd;simp [hw,hwide,aE,nq,ae,hd]
  ·have z':s.ah.contains cell=true:=(by simpa using z);rw [z',Bool.not_true,Bool.false_and]at hd;simp [ae,hd]
 have k1':(kind==1)=false:=(by simpa using k1);by_cases k2:kind=2
 ·subst k2;obtain⟨t,rfl,ht⟩:=h2 rfl;have hgt:s.aa.getD t aV=s.aa[t]:=(by simp [List.getD_eq_getElem?_getD,ht]);simp [hgt]at hd;by_cases z1:s.aq[w].l= -1
  ·simp [z1]at hd;simp [hw,hwh,aF.row,wr,z1,ht,bm.row,aE,ae,hd]
  ·have z1':(s.aq[w].l== -1)=false:=(by simpa using z1);simp [z1']at hd;simp [hw,hwh,aF.row,wr,z1',ae,hd]
 have k2':(kind==2)=false:=(by simpa using k2);by_cases k3:kind=3
 ·subst k3;simp at hd;simp [hw,hwh,aF.row,wr,ae,hd]
 have k3':(kind==3)=false:=(by simpa using k3);by_cases k4:kind=4
 ·subst k4;obtain⟨o,rfl,ho,ho2⟩:=h4 rfl;have hgo:s.ah.getD o 0=s.ah[o]:=(by simp [List.getD_eq_getElem?_getD,ho]);simp [hgo]at hd;by_cases z1:0≤s.aq[w].l
  ·cases z2:kM r.wide s.ah[w] s.ah[o]with
   |true=>
    simp [z1,z2]at hd;simp [hw,hwh,aF.row,wr,z1,ho,aE,nq,hwide,z2,zA,ho2,hhl,ae,hd]
   |false=>
    simp [z1,z2]at hd;simp [hw,hwh,aF.row,wr,z1,ho,aE,nq,hwide,z2,ae,hd]
  ·simp [z1]at hd;simp [hw,hwh,aF.row,wr,z1,ae,hd]
 have k4':(kind==4)=false:=(by simpa using k4);by_cases k5:kind=5
 ·subst k5;simp at hd;by_cases z1:0≤s.aq[w].l
  ·have n1: ¬s.aq[w].l<0:=(by omega);have n2:(s.aq[w].l).toNat<r.aa.length:=(by omega);have hgt:r.aa[(s.aq[w].l).toNat]?.getD cK=r.aa[(s.aq[w].l).toNat]:=(by simp [n2]);rw [hgt]at hd
   cases z2:r.aa[(s.aq[w].l).toNat].vT with
   |true=>
    simp [z1,z2]at hd;simp [hw,hwh,aF.row,wr,z1,n1,n2,aY.row,z2,ae,hd]
   |false=>
    simp [z1,z2]at hd;simp [hw,hwh,aF.row,wr,z1,n1,n2,aY.row,z2,ae,hd]
  ·simp [z1]at hd;simp [hw,hwh,aF.row,wr,z1,ae,hd]
 have k5':(kind==5)=false:=(by simpa using k5);by_cases k6:kind=6
 ·subst k6;simp at hd;have P:=fun(t st:Int) (ht:t<s.aa.length) (hst:st≠0) (c:Nat) (H:aj) (hH:0<H.length)=>vN (c:=c) (H:=H) (ts:=s.aa) (x1:= .slice (s.ah.map aE)) (x2:= .slice (s.aq.map aF.row)) ht hst hH
  cases z1:fk s.aa s.aq[w].l 2 with
  |false=>
   simp [z1]at hd;simp [hw,hwh,aF.row,wr,P,l1,l2,z1,ae,hd]
  |true=>
  cases z2:fk s.aa s.aq[w].l 4 with
  |true=>
   simp [z1,z2]at hd;simp [hw,hwh,aF.row,wr,P,l1,l2,z1,z2,ae,hd]
  |false=>
  by_cases z3:0≤s.aq[w].r
  ·cases z4:fk s.aa s.aq[w].r 2 with
   |true=>
    simp [z1,z2,z3,z4]at hd;simp [hw,hwh,aF.row,wr,P,l1,l2,z1,z2,z3,z4,ae,hd]
   |false=>
    simp [z1,z2,z3,z4]at hd;simp [hw,hwh,aF.row,wr,P,l1,l2,z1,z2,z3,z4,ae,hd]
  ·simp [z1,z2,z3]at hd;simp [hw,hwh,aF.row,wr,P,l1,l2,z1,z2,z3,ae,hd]
 have k6':(kind==6)=false:=(by simpa using k6);have P:=fun(t st:Int) (ht:t<s.aa.length) (hst:st≠0) (c:Nat) (H:aj) (hH:0<H.length)=>vN (c:=c) (H:=H) (ts:=s.aa) (x1:= .slice (s.ah.map aE)) (x2:= .slice (s.aq.map aF.row)) ht hst hH;by_cases k7:kind=7
 ·subst k7;simp at hd;by_cases z1:0≤s.aq[w].l
  ·simp [z1]at hd;simp [hw,hwh,aF.row,wr,P,l1,l2,z1,ae,hd]
  ·simp [z1]at hd;simp [hw,hwh,aF.row,wr,z1,ae,hd]
 have k7':(kind==7)=false:=(by simpa using k7);simp only [k1,k2,k3,k4,k5,k6,k7,if_false]at hd;simp [hw,hwh,aF.row,wr,P,l1,l2,k1',k2',k3',k4',k5',k6',k7',ae,hd]
theorem A6 {r:aC} {s:az} {w:Nat} {q1 kind bh cell other q3 q4:Int} (hw:w<s.ah.length) (hwh:w<s.aq.length) (hhl:s.aq.length≤1000000) (hpl:s.ah.length≤1000000) (hwide:r.wide≠0)
  (hL: ∀h:w<s.aq.length,s.aq[w].l<s.aa.length∧s.aq[w].r<s.aa.length∧ -1≤s.aq[w].l∧ -1≤s.aq[w].r) (htl:s.aa.length=r.aa.length)
  (h2:kind=2→ ∃t:Nat,bh=t∧t<s.aa.length) (h4:kind=4→ ∃o:Nat,other=o∧o<s.ah.length∧o<s.aq.length) (hH:0<H.length):
  bF KC (aG KC) 84 [.pure (.agg r.row), .pure (.agg s.row), .pure (.agg [.int .i64 q1, .int .i64 w, .int .i64 kind, .int .i64 1, .int .i64 bh, .int .i64 cell, .int .i64 other, .int .i64 q3, .int .i64 q4])] c H=
   some (.pure (.bool (bW r s w ⟨q1,w,kind,1,bh,cell,other,q3,q4⟩)),H):=by
 refine aM (aH KC au Tryz.func84 rfl rfl I8 (by simp) hH ?_);have hd:=fP r s w ⟨q1,w,kind,1,bh,cell,other,q3,q4⟩;obtain⟨l1,l2,l3,l4⟩:=hL hwh;have hg:s.aq.getD w bH=s.aq[w]:=(by simp [List.getD_eq_getElem?_getD,hwh]);have hp:s.ah.getD w 0=s.ah[w]:=(by simp [List.getD_eq_getElem?_getD,hw]);have e1:bK s w 1=s.aq[w].r:=(by unfold bK;rw [hg];simp);have e2:bK s w (1-1)=s.aq[w].l:=(by unfold bK;rw [hg];simp);simp only [e1,e2,hp]at hd;have wr:IntKind.i64.wrap (1-1)=0:=rfl;rw [cI];simp only [az.row];have sw:(1:Int)-1=0:=rfl;by_cases k1:kind=1
 ·subst k1;rw [if_pos rfl]at hd;simp [hw,hwh,aF.row,wr];have L:=fun Q=>xL (H:=H) r s hpl cell q1 w 1 1 bh other q3 q4 Q _ rfl s.ah.length 0 (by omega);simp only [aD,pU]at L;refine L _ (fun z=> ?_) (fun z=> ?_)
  ·have z':s.ah.contains cell=false:=(by simpa using z);rw [z',Bool.not_false,Bool.true_and]at hd;simp [hw,hwide,aE,nq,ae,hd]
  ·have z':s.ah.contains cell=true:=(by simpa using z);rw [z',Bool.not_true,Bool.false_and]at hd;simp [ae,hd]
 have k1':(kind==1)=false:=(by simpa using k1);by_cases k2:kind=2
 ·subst k2;obtain⟨t,rfl,ht⟩:=h2 rfl;have hgt:s.aa.getD t aV=s.aa[t]:=(by simp [List.getD_eq_getElem?_getD,ht]);simp [hgt]at hd;by_cases z1:s.aq[w].r= -1
  ·simp [z1]at hd;simp [hw,hwh,aF.row,wr,z1,ht,bm.row,aE,ae,hd]
  ·have z1':(s.aq[w].r== -1)=false:=(by simpa using z1);simp [z1']at hd;simp [hw,hwh,aF.row,wr,z1',ae,hd]
 have k2':(kind==2)=false:=(by simpa using k2);by_cases k3:kind=3
 ·subst k3;simp at hd;simp [hw,hwh,aF.row,wr,ae,hd]
 have k3':(kind==3)=false:=(by simpa using k3);by_cases k4:kind=4
 ·subst k4;obtain⟨o,rfl,ho,ho2⟩:=h4 rfl;have hgo:s.ah.getD o 0=s.ah[o]:=(by simp [List.getD_eq_getElem?_getD,ho]);simp [hgo]at hd;by_cases z1:0≤s.aq[w].r
  ·cases z2:kM r.wide s.ah[w] s.ah[o]with
   |true=>
    simp [z1,z2]at hd;simp [hw,hwh,aF.row,wr,z1,ho,aE,nq,hwide,z2,zA,ho2,hhl,ae,hd]
   |false=>
    simp [z1,z2]at hd;simp [hw,hwh,aF.row,wr,z1,ho,aE,nq,hwide,z2,ae,hd]
  ·simp [z1]at hd;simp [hw,hwh,aF.row,wr,z1,ae,hd]
 have k4':(kind==4)=false:=(by simpa using k4);by_cases k5:kind=5
 ·subst k5;simp at hd;by_cases z1:0≤s.aq[w].r
  ·have n1: ¬s.aq[w].r<0:=(by omega);have n2:(s.aq[w].r).toNat<r.aa.length:=(by omega);have hgt:r.aa[(s.aq[w].r).toNat]?.getD cK=r.aa[(s.aq[w].r).toNat]:=(by simp [n2]);rw [hgt]at hd
   cases z2:r.aa[(s.aq[w].r).toNat].vT with
   |true=>
    simp [z1,z2]at hd;simp [hw,hwh,aF.row,wr,z1,n1,n2,aY.row,z2,ae,hd]
   |false=>
    simp [z1,z2]at hd;simp [hw,hwh,aF.row,wr,z1,n1,n2,aY.row,z2,ae,hd]
  ·simp [z1]at hd;simp [hw,hwh,aF.row,wr,z1,ae,hd]
 have k5':(kind==5)=false:=(by simpa using k5);by_cases k6:kind=6
 ·subst k6;simp at hd;have P:=fun(t st:Int) (ht:t<s.aa.length) (hst:st≠0) (c:Nat) (H:aj) (hH:0<H.length)=>vN (c:=c) (H:=H) (ts:=s.aa) (x1:= .slice (s.ah.map aE)) (x2:= .slice (s.aq.map aF.row)) ht hst hH
  cases z1:fk s.aa s.aq[w].r 2 with
  |false=>
   simp [z1]at hd;simp [hw,hwh,aF.row,wr,P,l1,l2,z1,ae,hd]
  |true=>
  cases z2:fk s.aa s.aq[w].r 4 with
  |true=>
   simp [z1,z2]at hd;simp [hw,hwh,aF.row,wr,P,l1,l2,z1,z2,ae,hd]
  |false=>
  by_cases z3:0≤s.aq[w].l
  ·cases z4:fk s.aa s.aq[w].l 2 with
   |true=>
    simp [z1,z2,z3,z4]at hd;simp [hw,hwh,aF.row,wr,P,l1,l2,z1,z2,z3,z4,ae,hd]
   |false=>
    simp [z1,z2,z3,z4]at hd;simp [hw,hwh,aF.row,wr,P,l1,l2,z1,z2,z3,z4,ae,hd]
  ·simp [z1,z2,z3]at hd;simp [hw,hwh,aF.row,wr,P,l1,l2,z1,z2,z3,ae,hd]
 have k6':(kind==6)=false:=(by simpa using k6);have P:=fun(t st:Int) (ht:t<s.aa.length) (hst:st≠0) (c:Nat) (H:aj) (hH:0<H.length)=>vN (c:=c) (H:=H) (ts:=s.aa) (x1:= .slice (s.ah.map aE)) (x2:= .slice (s.aq.map aF.row)) ht hst hH;by_cases k7:kind=7
 ·subst k7;simp at hd;by_cases z1:0≤s.aq[w].r
  ·simp [z1]at hd;simp [hw,hwh,aF.row,wr,P,l1,l2,z1,ae,hd]
  ·simp [z1]at hd;simp [hw,hwh,aF.row,wr,z1,ae,hd]
 have k7':(kind==7)=false:=(by simpa using k7);simp only [k1,k2,k3,k4,k5,k6,k7,if_false]at hd;simp [hw,hwh,aF.row,wr,P,l1,l2,k1',k2',k3',k4',k5',k6',k7',ae,hd]
end
section
variable {c:Nat} {H:aj}
def b7 (aQ kind hand bh cell other:Int):ak:=⟨0,aQ,kind,hand,bh,cell,other,0,0⟩
def ik (aQ:Int)(k i:Nat):List ak:=(List.range' i k).map fun(x:Nat)=>b7 aQ 1 0 0 x 0
def iB (aQ hand:Int)(k i:Nat):List ak:=(List.range' i k).map fun(x:Nat)=>b7 aQ 2 hand x 0 0
def gO (aQ hand:Int)(k i:Nat):List ak:=((List.range' i k).filter fun(x:Nat)=> !((x:Int)==aQ)).map fun(x:Nat)=>b7 aQ 4 hand 0 0 x
def iA (nt np:Nat)(aQ:Int)(kind:Nat)(hand:Int):List ak:=if kind=2 then iB aQ hand nt 0 else if kind=4 then gO aQ hand np 0 else [b7 aQ kind hand 0 0 0]
def oJ (nt np:Nat)(aQ:Int)(kind:Nat):List ak:=iA nt np aQ kind 0++iA nt np aQ kind 1
def fX (nt np:Nat)(aQ:Int)(k i:Nat):List ak:=(List.range' i k).flatMap (oJ nt np aQ)
def bQ (n nt np:Nat)(aQ:Int):List ak:=ik aQ n 0++fX nt np aQ 7 2
theorem rT (aQ:Int)(k i:Nat):ik aQ (k+1) i=b7 aQ 1 0 0 i 0::ik aQ k (i+1):=by simp [ik,List.range'_succ]
theorem vd (aQ hand:Int)(k i:Nat):iB aQ hand (k+1) i=b7 aQ 2 hand i 0 0::iB aQ hand k (i+1):=by simp [iB,List.range'_succ]
theorem pV (aQ hand:Int)(k i:Nat):gO aQ hand (k+1) i=if (i:Int)=aQ then gO aQ hand k (i+1)else b7 aQ 4 hand 0 0 i::gO aQ hand k (i+1):=by
 by_cases h:(i:Int)=aQ
 ·simp [gO,List.range'_succ,h]
 ·simp [gO,List.range'_succ,h]
theorem pW (nt np:Nat)(aQ:Int)(k i:Nat):fX nt np aQ (k+1) i=oJ nt np aQ i++fX nt np aQ k (i+1):=by simp [fX,List.range'_succ]
theorem EZ (aQ hand:Int)(k i:Nat):(iB aQ hand k i).length=k:=by simp [iB]
theorem E0 (aQ hand:Int)(k i:Nat):(gO aQ hand k i).length≤k:=by
 simp only [gO,List.length_map];exact Nat.le_trans (List.length_filter_le _ _) (by simp)
theorem ui (nt np:Nat)(aQ:Int)(kind:Nat)(hand:Int):(iA nt np aQ kind hand).length≤nt+np+1:=by
 have:=E0 aQ hand np 0;have:=EZ aQ hand nt 0;unfold iA;split
 ·omega
 ·split
  ·omega
  ·simp
theorem zB (nt np:Nat)(aQ:Int)(kind:Nat):(oJ nt np aQ kind).length≤2*(nt+np+1):=by
 have:=ui nt np aQ kind 0;have:=ui nt np aQ kind 1;simp only [oJ,List.length_append];omega
def rU (r:aC)(l:List ak):Fr:=[(2,aD r),(26, .arr 9 (l.map ak.row) 0 false)]
def rV (L:Nat)(l:List ak):GV:= .aZ (L,26) 9 l.length 0 l.length
theorem Qf (r:aC)(aQ hand:Int)(nt:Nat)(hnt:r.aa.length=nt)(hb:nt≤1000000)(Q:GX→bN→Prop): ∀(k i:Nat) (l:List ak) (x:Int),i+k=nt→l.length+k≤100000000→
  (∀y,Q (.exit 7) ⟨[(1, .pure (.int .i64 aQ)),(2, .aA (H.length,2) 0),(5,rV H.length (l++iB aQ hand k i)),(7, .pure (.int .i64 2)),(8, .pure (.int .i64 hand))],[(9,bR (b7 aQ 2 hand y 0 0))]::[]::rU r (l++iB aQ hand k i)::H,78⟩)→
  fM KC au 25 (lp Tryz.f25 3) [1,2,5,7,8,9,10] [1,2,5,7,8] Q
   [(1, .pure (.int .i64 aQ)),(2, .aA (H.length,2) 0),(5,rV H.length l),(7, .pure (.int .i64 2)),(8, .pure (.int .i64 hand)),(9, .aA (H.length+2,9) 0),(10, .pure (.int .i64 i))]
   ([(9,bR (b7 aQ 2 hand x 0 0))]::[]::rU r l::H) 78:=by
 intro k
 induction k with
 |zero=>
  intro i l x hi hl h1;have e0:iB aQ hand 0 i=[]:=rfl;rw [e0,List.append_nil]at h1;have: ¬i<nt:=(by omega);apply ax;conv=>arg 4;whnf
  simp [rU,rV,aD,bR,b7,hnt,this];simpa [rU,rV,aD,bR,b7]using h1 x
 |succ k ih=>
  intro i l x hi hl h1;have hia:i<nt:=(by omega);have hw:=cU (x:=(i:Int)+1) (by omega) (by omega);rw [vd]at h1;have ih':=ih (i+1) (l++[b7 aQ 2 hand i 0 0]) i (by omega) (by simp;omega);simp only [List.append_assoc,List.singleton_append]at ih';have hb2:(l.length+1)*72≤1099511627776:=(by omega);apply ax;conv=>arg 4;whnf
  simp [rU,rV,aD,bR,b7,hnt,hia,hw,hb2];have:=ih' h1;simpa [rU,rV,aD,bR,b7,ak.row]using this
theorem Qg (r:aC)(aQ hand:Int)(np:Nat)(hnp:r.ah.length=np)(hb:np≤1000000)(Q:GX→bN→Prop): ∀(k i:Nat) (l:List ak) (x:Int),i+k=np→l.length+k≤100000000→l≠[]→
  (∀y,Q (.exit 9) ⟨[(1, .pure (.int .i64 aQ)),(2, .aA (H.length,2) 0),(5,rV H.length (l++gO aQ hand k i)),(7, .pure (.int .i64 4)),(8, .pure (.int .i64 hand))],[(9,bR (b7 aQ 4 hand 0 0 y))]::[]::rU r (l++gO aQ hand k i)::H,78⟩)→
  fM KC au 25 (lp Tryz.f25 4) [1,2,5,7,8,9,11] [1,2,5,7,8] Q
   [(1, .pure (.int .i64 aQ)),(2, .aA (H.length,2) 0),(5,rV H.length l),(7, .pure (.int .i64 4)),(8, .pure (.int .i64 hand)),(9, .aA (H.length+2,9) 0),(11, .pure (.int .i64 i))]
   ([(9,bR (b7 aQ 4 hand 0 0 x))]::[]::rU r l::H) 78:=by
 intro k
 induction k with
 |zero=>
  intro i l x hi hl hne h1;have e0:gO aQ hand 0 i=[]:=rfl;rw [e0,List.append_nil]at h1;have: ¬i<np:=(by omega);apply ax;conv=>arg 4;whnf
  simp [rU,rV,aD,bR,b7,hnp,this];simpa [rU,rV,aD,bR,b7]using h1 x
 |succ k ih=>
  intro i l x hi hl hne h1;have hia:i<np:=(by omega);have hw:=cU (x:=(i:Int)+1) (by omega) (by omega);rw [pV]at h1;have hb2:(l.length+1)*72≤1099511627776:=(by omega);by_cases hwho:(i:Int)=aQ
  ·rw [if_pos hwho]at h1;have ih':=ih (i+1) l i (by omega) (by omega) hne h1;apply ax;conv=>arg 4;whnf
   have hwho':((i:Int)==aQ)=true:=(by simpa using hwho);simp [rU,rV,aD,bR,b7,hnp,hia,hw,hb2,bne,hwho'];simpa [rU,rV,aD,bR,b7,ak.row]using ih'
  ·rw [if_neg hwho]at h1;have ih':=ih (i+1) (l++[b7 aQ 4 hand 0 0 i]) i (by omega) (by simp;omega) (by simp);simp only [List.append_assoc,List.singleton_append]at ih';have hwho':((i:Int)==aQ)=false:=(by simpa using hwho);apply ax;conv=>arg 4;whnf
   simp [rU,rV,aD,bR,b7,hnp,hia,hw,hb2,bne,hwho'];have:=ih' h1;simpa [rU,rV,aD,bR,b7,ak.row]using this
theorem Gl (r:aC) (aQ hand:Int) (kind:Nat) (hh:hand=0∨hand=1) (hk:2≤kind∧kind≤8) (nt np:Nat) (hnt:r.aa.length=nt) (hnp:r.ah.length=np) (hb1:nt≤1000000) (hb2:np≤1000000)
  (Q:GX→bN→Prop) (l:List ak) (hl:l.length≤50000000) (hne:l≠[])
  (h:fM KC au 25 (lp Tryz.f25 2) [1,2,5,7,8] [1,2,5,7] Q
   [(1, .pure (.int .i64 aQ)),(2, .aA (H.length,2) 0),(5,rV H.length (l++iA nt np aQ kind hand)),(7, .pure (.int .i64 kind)),(8, .pure (.int .i64 (hand+1)))] ([]::rU r (l++iA nt np aQ kind hand)::H) 78):
  fM KC au 25 (lp Tryz.f25 2) [1,2,5,7,8] [1,2,5,7] Q
   [(1, .pure (.int .i64 aQ)),(2, .aA (H.length,2) 0),(5,rV H.length l),(7, .pure (.int .i64 kind)),(8, .pure (.int .i64 hand))] ([]::rU r l::H) 78:=by
 have hw:=cU (x:=hand+1) (by omega) (by omega);have hlt:hand<2:=(by omega);have hb3:(l.length+1)*72≤1099511627776:=(by omega);have w2:IntKind.i64.wrap 2=2:=rfl;apply ax;conv=>arg 4;whnf
 by_cases k2:kind=2
 ·subst k2;have e:iA nt np aQ 2 hand=iB aQ hand nt 0:=(by simp [iA]);rw [e]at h;have L:=fun Q h=>Qf (H:=H) r aQ hand nt hnt hb1 Q nt 0 l 0 (by omega) (by omega) h;simp [rU,rV,aD,bR,b7]at L h;simp [rU,rV,aD,hlt];refine L _ fun y=> ?_;simp [hw];exact h
 ·by_cases k4:kind=4
  ·subst k4;have e:iA nt np aQ 4 hand=gO aQ hand np 0:=(by simp [iA]);rw [e]at h;have L:=fun Q h=>Qg (H:=H) r aQ hand np hnp hb2 Q np 0 l 0 (by omega) (by omega) hne h;simp [rU,rV,aD,bR,b7]at L h;simp [rU,rV,aD,hlt];refine L _ fun y=> ?_;simp [hw];exact h
  ·have e:iA nt np aQ kind hand=[b7 aQ kind hand 0 0 0]:=(by simp [iA,k2,k4]);rw [e]at h;have k2':((kind:Int)==2)=false:=(by simp;omega);have k4':((kind:Int)==4)=false:=(by simp;omega);simp [rU,rV,aD,b7,ak.row]at h;simp [rU,rV,aD,hlt,k2',k4',hb3,hw];exact h
theorem Qh (r:aC) (aQ:Int) (kind:Nat) (hk:2≤kind∧kind≤8) (nt np:Nat) (hnt:r.aa.length=nt) (hnp:r.ah.length=np) (hb1:nt≤1000000) (hb2:np≤1000000)
  (Q:GX→bN→Prop) (l:List ak) (hl:l.length≤40000000) (hne:l≠[])
  (h:Q (.exit 4) ⟨[(1, .pure (.int .i64 aQ)),(2, .aA (H.length,2) 0),(5,rV H.length (l++oJ nt np aQ kind)),(7, .pure (.int .i64 kind))],[]::rU r (l++oJ nt np aQ kind)::H,78⟩):
  fM KC au 25 (lp Tryz.f25 2) [1,2,5,7,8] [1,2,5,7] Q
   [(1, .pure (.int .i64 aQ)),(2, .aA (H.length,2) 0),(5,rV H.length l),(7, .pure (.int .i64 kind)),(8, .pure (.int .i64 0))] ([]::rU r l::H) 78:=by
 have l0:=ui nt np aQ kind 0;refine Gl r aQ 0 kind (.inl rfl) hk nt np hnt hnp hb1 hb2 Q l (by omega) hne ?_;refine Gl r aQ 1 kind (.inr rfl) hk nt np hnt hnp hb1 hb2 Q _ (by simp;omega) (by simp [hne]) ?_;rw [oJ,←List.append_assoc]at h;apply ax;conv=>arg 4;whnf
 simp [rU,rV]at h⊢;exact h
theorem Qi (r:aC) (aQ:Int) (nt np:Nat) (hnt:r.aa.length=nt) (hnp:r.ah.length=np) (hb1:nt≤1000000) (hb2:np≤1000000)
  (Q:GX→bN→Prop): ∀(k i:Nat) (l:List ak),i+k=9→2≤i→l.length+5000000*k≤39000000→l≠[]→
  Q (.exit 2) ⟨[(5,rV H.length (l++fX nt np aQ k i))],rU r (l++fX nt np aQ k i)::H,78⟩→
  fM KC au 25 (lp Tryz.f25 1) [1,2,5,7] [5] Q
   [(1, .pure (.int .i64 aQ)),(2, .aA (H.length,2) 0),(5,rV H.length l),(7, .pure (.int .i64 i))] (rU r l::H) 78:=by
 intro k
 induction k with
 |zero=>
  intro i l hi h2 hl hne h1;have e0:fX nt np aQ 0 i=[]:=rfl;rw [e0,List.append_nil]at h1;have:i=9:=(by omega);subst this;apply ax;conv=>arg 4;whnf
  simp [rU,rV]at h1⊢;exact h1
 |succ k ih=>
  intro i l hi h2 hl hne h1;have hw:=cU (x:=(i:Int)+1) (by omega) (by omega);have hle:(i:Int)≤8:=(by omega);rw [pW,←List.append_assoc]at h1;have lb:=zB nt np aQ i;have ih':=ih (i+1) (l++oJ nt np aQ i) (by omega) (by omega) (by simp;omega) (by simp [hne]) h1;apply ax;conv=>arg 4;whnf
  have L:=fun Q h=>Qh (H:=H) r aQ i (by omega) nt np hnt hnp hb1 hb2 Q l (by omega) hne h;simp [rU,rV]at L ih';simp [rU,rV,hle];refine L _ ?_;simp [hw];exact ih'
theorem Qj (r:aC)(aQ:Int)(n:Nat)(hn:IntKind.i64.wrap (r.wide*r.deep)=n)(hb:n≤1000000)(Q:GX→bN→Prop): ∀(k i:Nat) (l:List ak),i+k=n→l.length+k≤1000000→
  Q (.exit 0) ⟨[(1, .pure (.int .i64 aQ)),(2, .aA (H.length,2) 0),(5,cH (H.length,26) 9 ((l++ik aQ k i).map ak.row))],eG 26 9 ((l++ik aQ k i).map ak.row) [(2,aD r)]::H,78⟩→
  fM KC au 25 (lp Tryz.f25 0) [1,2,5,6] [1,2,5] Q
   [(1, .pure (.int .i64 aQ)),(2, .aA (H.length,2) 0),(5,cH (H.length,26) 9 (l.map ak.row)),(6, .pure (.int .i64 i))] (eG 26 9 (l.map ak.row) [(2,aD r)]::H) 78:=by
 intro k
 induction k with
 |zero=>
  intro i l hi hl h1;have e0:ik aQ 0 i=[]:=rfl;rw [e0,List.append_nil]at h1;have: ¬i<n:=(by omega);apply ax;conv=>arg 4;whnf
  simp [aD,hn,this];simpa [aD]using h1
 |succ k ih=>
  intro i l hi hl h1;have hia:i<n:=(by omega);have hw:=cU (x:=(i:Int)+1) (by omega) (by omega);rw [rT]at h1;have ih':=ih (i+1) (l++[b7 aQ 1 0 0 i 0]) (by omega) (by simp;omega);simp only [List.append_assoc,List.singleton_append]at ih';have hb2:(l.length+1)*72≤1099511627776:=(by omega);apply ax;conv=>arg 4;whnf
  simp [aD,hn,hia,hw,hb2,Fr.get];have:=ih' h1;simpa [aD,b7,ak.row]using this
theorem CS (r:aC)(aQ:Int)(n nt np:Nat)(hn:IntKind.i64.wrap (r.wide*r.deep)=n)(hn0:0<n)(hb:n≤1000000)(hnt:r.aa.length=nt)(hnp:r.ah.length=np)(hb1:nt≤1000000)(hb2:np≤1000000)(hH:0<H.length):
  aL KC (aG KC) 25 [.pure (.agg r.row), .pure (.int .i64 aQ)] c H=some (.pure (.slice ((bQ n nt np aQ).map ak.row)),H):=by
 refine aM ?_;rw [show aL KC (aG KC) 25 [.pure (.agg r.row), .pure (.int .i64 aQ)] c H=bF KC (aG KC) 25 [.pure (.agg r.row), .pure (.int .i64 aQ)] c H from oV KC rfl rfl rfl]
 refine aH KC au Tryz.func25 rfl rfl V6 (by simp) hH ?_;rw [cI];simp;have L:=fun Q h=>Qj (H:=H) r aQ n hn hb Q n 0 [] (by omega) (by simp;omega) h;simp [ff,ja,aD]at L;refine L _ ?_;have hne:ik aQ n 0≠[]:=by
  obtain⟨m,rfl⟩: ∃m,n=m+1:=⟨n-1,by omega⟩;rw [rT];simp
 have hlen:(ik aQ n 0).length=n:=(by simp [ik]);have L2:=fun Q h=>Qi (H:=H) r aQ nt np hnt hnp hb1 hb2 Q 7 2 (ik aQ n 0) rfl (by omega) (by omega) hne h;simp [rU,rV,aD]at L2;simp [cH,eG,hne,Fr.ins];refine L2 _ ?_;have e:bQ n nt np aQ=ik aQ n 0++fX nt np aQ 7 2:=rfl;have hnl: ¬H.length≤H.length-1:=(by omega);have t1:List.take ((ik aQ n 0).length+(fX nt np aQ 7 2).length) (List.map ak.row (ik aQ n 0)++List.map ak.row (fX nt np aQ 7 2))=List.map ak.row (ik aQ n 0)++List.map ak.row (fX nt np aQ 7 2):=List.take_of_length_le (by simp);simp [ae,e,hne,hnl,t1]
end
section
variable {c:Nat} {H:aj}
structure He (r:aC)(s:az):Prop where
 pl:s.ah.length=r.ah.length
 hl:s.aq.length=r.ah.length
 tl:s.aa.length=r.aa.length
 hr: ∀i (h:i<s.aq.length),s.aq[i].l<s.aa.length∧s.aq[i].r<s.aa.length∧ -1≤s.aq[i].l∧ -1≤s.aq[i].r
structure EvB (np nt w:Nat)(a:ak):Prop where
 aQ:a.aQ=w
 hand:a.hand=0∨a.hand=1
 bh:a.kind=2→ ∃t:Nat,a.bh=t∧t<nt
 other:a.kind=4→ ∃o:Nat,a.other=o∧o<np
theorem It {n nt np w:Nat}{a:ak}(h:a∈bQ n nt np w):EvB np nt w a:=by
 have one: ∀hand kind:Nat,(hand=0∨hand=1)→a∈iA nt np w kind hand→EvB np nt w a:=fun hand kind hh ha=>by
  have hh':(hand:Int)=0∨(hand:Int)=1:=(by omega);unfold iA at ha;split at ha
  ·simp only [iB,List.mem_map,List.mem_range']at ha;obtain⟨x,⟨i,hi,rfl⟩,rfl⟩:=ha;exact⟨rfl,hh',fun _=>⟨_,rfl,by omega⟩,fun h=>by simp [b7]at h⟩
  ·split at ha
   ·simp only [gO,List.mem_map,List.mem_filter,List.mem_range']at ha;obtain⟨x,⟨⟨i,hi,rfl⟩,_⟩,rfl⟩:=ha;exact⟨rfl,hh',fun h=>by simp [b7]at h,fun _=>⟨_,rfl,by omega⟩⟩
   ·rename_i k2 k4;simp only [List.mem_singleton]at ha;subst ha;exact⟨rfl,hh',fun h=>by simp [b7]at h;omega,fun h=>by simp [b7]at h;omega⟩
 simp only [bQ,List.mem_append]at h;rcases h with h|h
 ·simp only [ik,List.mem_map,List.mem_range']at h;obtain⟨x,⟨i,hi,rfl⟩,rfl⟩:=h;exact⟨rfl, .inl rfl,fun h=>by simp [b7]at h,fun h=>by simp [b7]at h⟩
 ·simp only [fX,List.mem_flatMap,oJ,List.mem_append]at h;obtain⟨k,_,h|h⟩:=h
  ·exact one 0 k (.inl rfl) h
  ·exact one 1 k (.inr rfl) h
theorem rQ (n nt np:Nat)(aQ:Int):(bQ n nt np aQ).length≤n+14*(nt+np+1):=by
 have h: ∀k i,(fX nt np aQ k i).length≤k*(2*(nt+np+1)):=by
  intro k
  induction k with
  |zero=>intro i;simp [fX]
  |succ k ih=>
   intro i;rw [pW,List.length_append,Nat.add_mul];have:=zB nt np aQ i;have:=ih (i+1);omega
 have:=h 7 2;simp only [bQ,List.length_append,ik,List.length_map,List.length_range'];omega
theorem CU {r:aC}{s:az}{w:Nat}{a:ak}(hs:He r s)(hw:w<r.ah.length)(hpl:r.ah.length≤1000000)(hwide:r.wide≠0)(ha:EvB r.ah.length r.aa.length w a)(hH:0<H.length):
  bF KC (aG KC) 84 [.pure (.agg r.row), .pure (.agg s.row), .pure (.agg a.row)] c H=some (.pure (.bool (bW r s w a)),H):=by
 obtain⟨q1,aQ,kind,hand,bh,cell,other,q3,q4⟩:=a;obtain⟨h1,h2,h3,h4⟩:=ha;simp only at h1 h2 h3 h4;subst h1;have e1:=hs.pl;have e2:=hs.hl;have e3:=hs.tl;rcases h2 with rfl|rfl
 ·exact A0 (by omega) (by omega) (by omega) (by omega) hwide (fun h=>hs.hr w h) e3 (fun h=>by obtain⟨t,a,b⟩:=h3 h;exact⟨t,a,by omega⟩) (fun h=>by obtain⟨t,a,b⟩:=h4 h;exact⟨t,a,by omega,by omega⟩) hH
 ·exact A6 (by omega) (by omega) (by omega) (by omega) hwide (fun h=>hs.hr w h) e3 (fun h=>by obtain⟨t,a,b⟩:=h3 h;exact⟨t,a,by omega⟩) (fun h=>by obtain⟨t,a,b⟩:=h4 h;exact⟨t,a,by omega,by omega⟩) hH
theorem jG {r:aC}{s:az}{w:Nat}{a:ak}(hs:He r s)(hw:w<r.ah.length)(hpl:r.ah.length≤1000000)(hwide:r.wide≠0)(ha:EvB r.ah.length r.aa.length w a)(hH:0<H.length):
  aL KC (aG KC) 84 [.pure (.agg r.row), .pure (.agg s.row), .pure (.agg a.row)] c H=some (.pure (.bool (bW r s w a)),H):=dp rfl rfl rfl rfl rfl hH fun H hH=>CU hs hw hpl hwide ha hH
noncomputable def fD:aC→az→Nat→List ak→List ak:=mI fun r s w l=>l.flatMap fun a=>if bW r s w a=true then (if a.kind=1 then [a]else [a,a,a])else []
theorem rY (r:aC)(s:az)(w:Nat)(l:List ak):fD r s w l=l.flatMap fun a=>if bW r s w a=true then (if a.kind=1 then [a]else [a,a,a])else []:=by rw [fD,cO]
theorem xM (r:aC)(s:az)(w:Nat):fD r s w []=[]:=by rw [rY];rfl
theorem ve (r:aC)(s:az)(w:Nat)(a:ak)(l:List ak):fD r s w (a::l)=(if bW r s w a=true then (if a.kind=1 then [a]else [a,a,a])else [])++fD r s w l:=by simp only [rY,List.flatMap_cons]
theorem ES {r:aC}{s:az}{w:Nat}{a:ak}{l:List ak}(h:a∈fD r s w l):a∈l∧bW r s w a=true:=by
 rw [rY,List.mem_flatMap]at h;obtain⟨x,hx,h⟩:=h;split at h
 ·rename_i hp;split at h
  ·simp at h;subst h;exact⟨hx,hp⟩
  ·simp at h;subst h;exact⟨hx,hp⟩
 ·simp at h
theorem rP (r:aC)(s:az)(w:Nat): ∀l:List ak,(fD r s w l).length≤3*l.length
 | []=>by simp [xM]
 |a::l=>by
  have:=rP r s w l;rw [ve,List.length_append,List.length_cons];split
  ·split<;>simp<;>omega
  ·simp;omega
theorem Yo {key dw es:Nat}{rows:List (List PV)}{fr f0:Fr}{l bytes:Nat}{r r1 r2:List PV}(hl:H.length=l)(hf:fr.get key=none)(hb:(rows.length+1+2)*bytes≤1099511627776):
  xR l dw (cH (l,key) es (rows++[r])) es bytes [r1,r2] (f0::eG key es (rows++[r]) fr::H)=some (cH (l,key) es (rows++[r,r1,r2]),f0::eG key es (rows++[r,r1,r2]) fr::H):=by
 subst hl;simp [cH,eG,hb,Fr.a7,Fr.fe]
def oy (r:aC)(s:az):Fr:=[(5,aD r),(6,pU s),(8,bR cA)]
theorem E4 (r:aC)(s:az)(w:Nat)(hs:He r s)(hw:w<r.ah.length)(hpl:r.ah.length≤1000000)(hwide:r.wide≠0)(all:List ak)(hall: ∀a∈all,EvB r.ah.length r.aa.length w a)(hal:all.length≤30000000)(nm:Nm)(hnm:nm.1<H.length)(Q:GX→bN→Prop):
  ∀(k i:Nat) (l:List ak),i+k=all.length→l.length≤3*i→
  Q (.exit 0) ⟨[(0, .aA nm 0),(8, .aA (H.length,8) 0),(10,cH (H.length,35) 9 ((l++fD r s w (all.drop i)).map ak.row))],eG 35 9 ((l++fD r s w (all.drop i)).map ak.row) (oy r s)::H,64⟩→
  fM KC au 49 (lp Tryz.f49 0) [0,5,6,8,10,11,12] [0,8,10] Q
   [(0, .aA nm 0),(5, .aA (H.length,5) 0),(6, .aA (H.length,6) 0),(8, .aA (H.length,8) 0),(10,cH (H.length,35) 9 (l.map ak.row)),(11, .pure (.slice (all.map ak.row))),(12, .pure (.int .i64 i))]
   (eG 35 9 (l.map ak.row) (oy r s)::H) 64:=by
 have hle:nm.1≤H.length:=(by omega);intro k
 induction k with
 |zero=>
  intro i l hi hl h1;have e1:all.drop i=[]:=List.drop_of_length_le (by omega);rw [e1,xM,List.append_nil]at h1;have: ¬i<all.length:=(by omega);apply ax;conv=>arg 4;whnf
  simp [this,hle];exact h1
 |succ k ih=>
  intro i l hi hl h1;have hia:i<all.length:=(by omega);have hw1:=cU (x:=(i:Int)+1) (by omega) (by omega);have hev:=hall all[i] (List.getElem_mem hia);have P:=fun(c:Nat) (H:aj) (hH:0<H.length)=>jG (c:=c) (H:=H) hs hw hpl hwide hev hH;simp only [cI,az.row,ak.row]at P;rw [List.drop_eq_getElem_cons hia,ve,←List.append_assoc]at h1;apply ax;conv=>arg 4;whnf
  cases hp:bW r s w all[i]with
  |false=>
   simp only [hp,Bool.false_eq_true,if_false,List.append_nil]at h1;have ih':=ih (i+1) l (by omega) (by omega) h1;simp [oy,aD,pU,bR,hia,ak.row,P,hp,hw1,hle,Fr.get];simpa [oy,aD,pU,bR,ak.row]using ih'
  |true=>
   have hb:(l.length+1)*72≤1099511627776:=(by omega);have hl4:l.length+3≤90000003:=(by omega);have hb2:(l.length+1+2)*72≤1099511627776:=Nat.le_trans (Nat.mul_le_mul_right 72 (show l.length+1+2≤90000003 from hl4)) (by decide)
   have hi1:(i+1)+k=all.length:=(by omega);have hl1:(l++[all[i]]).length≤3*(i+1):=(by simp;omega);have hl3:(l++[all[i],all[i],all[i]]).length≤3*(i+1):=(by simp;omega);by_cases hk:all[i].kind=1
   ·simp only [hp,hk,if_true]at h1;have ih':=ih (i+1) (l++[all[i]]) hi1 hl1 h1;have hk':(all[i].kind==1)=true:=(by simpa using hk);simp [oy,aD,pU,bR,hia,ak.row,P,hp,hw1,hle,hb,bne,hk',Fr.get];simpa [oy,aD,pU,bR,ak.row]using ih'
   ·have hk':(all[i].kind==1)=false:=(by simpa using hk);simp only [hp,hk,if_true,if_false]at h1;have ih':=ih (i+1) (l++[all[i],all[i],all[i]]) hi1 hl3 h1;simp [oy,aD,pU,bR,hia,ak.row,P,hp,hw1,hle,hb,bne,hk',Fr.get,Yo,hb2];simpa [oy,aD,pU,bR,ak.row]using ih'
noncomputable def gJ:aC→az→Nat→List ak→Int→(ak×Bool)×Int:=mI fun r s w all wd=>
 if fD r s w all=[]then ((cA,false),wd)else (((fD r s w all).getD (lT wd (fD r s w all).length).1.toNat cA,true),(lT wd (fD r s w all).length).2)
theorem xB (r:aC)(s:az)(w:Nat)(all:List ak)(wd:Int):gJ r s w all wd=
 if fD r s w all=[]then ((cA,false),wd)else (((fD r s w all).getD (lT wd (fD r s w all).length).1.toNat cA,true),(lT wd (fD r s w all).length).2):=by rw [gJ,cO]
theorem JT (r:aC)(s:az)(w n:Nat)(hs:He r s)(hw:w<r.ah.length)(hpl:r.ah.length≤1000000)(htl:r.aa.length≤1000000)(hwide:r.wide≠0)(hn:IntKind.i64.wrap (r.wide*r.deep)=n)(hn0:0<n)(hnb:n≤1000000){nm:Nm}(hB:fZ H nm):
  bF KC (aG KC) 49 [.aA nm 0, .pure (.agg r.row), .pure (.agg s.row), .pure (.int .i64 w)] c H=
   some (.pure (.tuple [.agg (gJ r s w (bQ n r.aa.length r.ah.length w) (bJ H nm)).1.1.row, .bool (gJ r s w (bQ n r.aa.length r.ah.length w) (bJ H nm)).1.2]),H.set nm (bG (gJ r s w (bQ n r.aa.length r.ah.length w) (bJ H nm)).2)):=by
 have hlt:=gP hB;have hset:=jU hB;have hne: ¬nm.1=H.length:=(by omega);have hle:nm.1≤H.length:=(by omega);refine aM (aH KC au Tryz.func49 rfl rfl Wf (by simp) (by omega) ?_);have E:=fun c (H:aj) (hH:0<H.length)=>CS (c:=c) (H:=H) r w n r.aa.length r.ah.length hn hn0 hnb rfl rfl htl hpl hH;have el:=rQ n r.aa.length r.ah.length (w:Int);have L:=fun Q h=>E4 (H:=H) r s w hs hw hpl hwide (bQ n r.aa.length r.ah.length w) (fun a ha=>It ha) (by omega) nm hlt Q _ 0 [] (Nat.zero_add _) (by simp) h;have hd:=xB r s w (bQ n r.aa.length r.ah.length w) (bJ H nm);have ml:=rP r s w (bQ n r.aa.length r.ah.length w);rw [cI]at E⊢;simp only [az.row];simp [ff,ja,oy,aD,pU,bR,cA]at L;simp [E];refine L _ ?_;generalize fD r s w (bQ n r.aa.length r.ah.length w)=l at*;generalize gJ r s w (bQ n r.aa.length r.ah.length w) (bJ H nm)=res at*;by_cases hl:l=[]
 ·subst hl;simp at hd;subst hd;simp [ff,ja,ae,ak.row,cA,hset]
 ·rw [if_neg hl]at hd;have hl0:0<l.length:=List.length_pos_iff.2 hl;have hll:(l.length:Int)≤9223372036854775807:=(by omega);have hr:=kO (bJ H nm) l.length hll;have h3: ¬(lT (bJ H nm) l.length).1<0:=(by omega);have h4:(lT (bJ H nm) l.length).1.toNat<l.length:=(by have:=hr;omega);have h5:(lT (bJ H nm) l.length).1<(l.length:Int):=(by have:=hr;omega);have hl2:((l.length:Int)==0)=false:=beq_eq_false_iff_ne.2 (by omega);have hgd:l.getD (lT (bJ H nm) l.length).1.toNat cA=l[(lT (bJ H nm) l.length).1.toNat]:=(by simp [List.getD_eq_getElem?_getD,h4]);rw [hgd]at hd;subst hd;have hB': ∀fr,fZ (fr::H) nm:=fun fr=>eE hB;simp [cH,eG,hl,hl2,kJ,hB',hll,dK,hlt,hne,aj.dR,h3,h4,h5,ae,ak.row,Fr.ins]
end
section
variable {c:Nat} {H:aj}
def empty:aF:=⟨-1,-1⟩
def gC (t:aY):bm:=⟨t.cell,t.state⟩
def ay (r:aC):az:=⟨r.ah.map (·.cell),r.ah.map fun _=>empty,r.aa.map gC⟩
def PU (r:aC)(L:Nat)(p:List Int)(h:List aF):Fr:=
 [(1,aD r),(2, .box [.aR, .aR, .aR]),(3, .box [.aZ (L,22) 1 p.length 0 p.length, .aZ (L,27) 2 h.length 0 h.length, .aR]),(22, .arr 1 (p.map aE) 0 false),(27, .arr 2 (h.map aF.row) 0 false)]
def Yp (r:aC)(L:Nat)(p:List Int)(h:List aF)(t:List bm):Fr:=
 [(1,aD r),(2, .box [.aR, .aR, .aR]),(3, .box [.aZ (L,22) 1 p.length 0 p.length, .aZ (L,27) 2 h.length 0 h.length, .aZ (L,53) 2 t.length 0 t.length]),(22, .arr 1 (p.map aE) 0 false),(27, .arr 2 (h.map aF.row) 0 false),(53, .arr 2 (t.map bm.row) 0 false)]
theorem uX (r:aC)(hpl:r.ah.length≤1000000)(Q:GX→bN→Prop): ∀(k i:Nat) (p:List Int) (h:List aF),i+k=r.ah.length→p.length=i→h.length=i→0<i→
  Q (.exit 0) ⟨[(1, .aA (H.length,1) 0),(2, .aA (H.length,2) 0),(3, .aA (H.length,3) 0)],PU r H.length (p++(r.ah.drop i).map (·.cell)) (h++(r.ah.drop i).map fun _=>empty)::H,56⟩→
  fM KC au 48 (lp Tryz.f48 0) [1,2,3,4] [1,2,3] Q
   [(1, .aA (H.length,1) 0),(2, .aA (H.length,2) 0),(3, .aA (H.length,3) 0),(4, .pure (.int .i64 i))] (PU r H.length p h::H) 56:=by
 intro k
 induction k with
 |zero=>
  intro i p h hi h1 h2 h3 hq;have e1:r.ah.drop i=[]:=List.drop_of_length_le (by omega);rw [e1]at hq;have: ¬i<r.ah.length:=(by omega);apply ax;conv=>arg 4;whnf
  simp [PU,aD,this];simpa [PU,aD]using hq
 |succ k ih=>
  intro i p h hi h1 h2 h3 hq;have hia:i<r.ah.length:=(by omega);have hw:=cU (x:=(i:Int)+1) (by omega) (by omega);rw [List.drop_eq_getElem_cons hia]at hq;have hb1:(i+1)*8≤1099511627776:=(by omega);have hb2:(i+1)*16≤1099511627776:=(by omega);have ih':=ih (i+1) (p++[r.ah[i].cell]) (h++[empty]) (by omega) (by simp [h1]) (by simp [h2]) (by omega);simp only [List.append_assoc,List.singleton_append,List.map_cons]at ih' hq;apply ax;conv=>arg 4;whnf
  simp [PU,aD,hia,hw,aS.row,h1,h2,hb1,hb2];have:=ih' hq;simpa [PU,aD,aE,aF.row,empty,h1,h2,aS.row]using this
theorem CV (r:aC)(htl:r.aa.length≤1000000)(p:List Int)(h:List aF)(Q:GX→bN→Prop): ∀(k i:Nat) (t:List bm),i+k=r.aa.length→t.length=i→0<i→
  Q (.exit 2) ⟨[(2, .aA (H.length,2) 0),(3, .aA (H.length,3) 0)],Yp r H.length p h (t++(r.aa.drop i).map gC)::H,56⟩→
  fM KC au 48 (lp Tryz.f48 1) [1,2,3,5] [2,3] Q
   [(1, .aA (H.length,1) 0),(2, .aA (H.length,2) 0),(3, .aA (H.length,3) 0),(5, .pure (.int .i64 i))] (Yp r H.length p h t::H) 56:=by
 intro k
 induction k with
 |zero=>
  intro i t hi h1 h3 hq;have e1:r.aa.drop i=[]:=List.drop_of_length_le (by omega);rw [e1]at hq;have: ¬i<r.aa.length:=(by omega);apply ax;conv=>arg 4;whnf
  simp [Yp,aD,this];simpa [Yp,aD]using hq
 |succ k ih=>
  intro i t hi h1 h3 hq;have hia:i<r.aa.length:=(by omega);have hw:=cU (x:=(i:Int)+1) (by omega) (by omega);rw [List.drop_eq_getElem_cons hia]at hq;have hb2:(i+1)*16≤1099511627776:=(by omega);have ih':=ih (i+1) (t++[gC r.aa[i]]) (by omega) (by simp [h1]) (by omega);simp only [List.append_assoc,List.singleton_append,List.map_cons]at ih' hq;apply ax;conv=>arg 4;whnf
  simp [Yp,aD,hia,hw,aY.row,h1,hb2];have:=ih' hq;simpa [Yp,aD,aE,bm.row,gC,h1,aY.row]using this
def X4 (L k1 k2 k3:Nat)(s:az):GV:= .agg [.aZ (L,k1) 1 s.ah.length 0 s.ah.length, .aZ (L,k2) 2 s.aq.length 0 s.aq.length, .aZ (L,k3) 2 s.aa.length 0 s.aa.length]
theorem pJ {α β:Type}(f:α→β)(l:List α)(h:0<l.length):f l[0]::(l.drop 1).map f=l.map f:=by
 cases l with
 |nil=>simp at h
 |cons a t=>rfl
theorem Hg (r:aC) (hp0:r.ah≠[]) (ht0:r.aa≠[]) (hpl:r.ah.length≤1000000) (htl:r.aa.length≤1000000) (hH:0<H.length)
  (hf1:H.get (H.length-1,ao c 22)=none) (hf2:H.get (H.length-1,ao c 27)=none) (hf3:H.get (H.length-1,ao c 53)=none):
  bF KC (aG KC) 48 [.pure (.agg r.row)] c H=some (X4 (H.length-1) (ao c 22) (ao c 27) (ao c 53) (ay r),
   ((H.set (H.length-1,ao c 22) (.arr 1 ((ay r).ah.map aE) 0 false)).set (H.length-1,ao c 27) (.arr 2 ((ay r).aq.map aF.row) 0 false)).set (H.length-1,ao c 53) (.arr 2 ((ay r).aa.map bm.row) 0 false)):=by
 refine aM (aH KC au Tryz.func48 rfl rfl I3 (by simp) hH ?_);rw [cI];have lp0:0<r.ah.length:=List.length_pos_iff.2 hp0;have lt0:0<r.aa.length:=List.length_pos_iff.2 ht0;have jP:ao c 22≠ao c 27:=(by unfold ao;omega);have kL:ao c 22≠ao c 53:=(by unfold ao;omega);have jZ:ao c 27≠ao c 53:=(by unfold ao;omega);have L1:=fun Q=>uX (H:=H) r hpl Q (r.ah.length-1) 1 [r.ah[0].cell] [empty] (by omega) rfl rfl (by omega);have L2:=fun p h Q=>CV (H:=H) r htl p h Q (r.aa.length-1) 1 [gC r.aa[0]] (by omega) rfl (by omega);have ep:r.ah[0].cell::(r.ah.drop 1).map (fun p=>p.cell)=r.ah.map (fun p=>p.cell):=pJ (fun p:aS=>p.cell) r.ah lp0;have eh:empty::((r.ah.drop 1).map fun _=>empty)=r.ah.map fun _=>empty:=pJ (fun _:aS=>empty) r.ah lp0;have et:gC r.aa[0]::(r.aa.drop 1).map gC=r.aa.map gC:=pJ gC r.aa lt0;simp only [List.singleton_append,ep,eh,et]at L1 L2;simp [PU,aD,aE,aF.row,empty]at L1;simp;apply ax;conv=>arg 4;whnf
 simp [lp0,aS.row];refine L1 _ ?_;clear L1;have L3:=L2 (r.ah.map (·.cell)) (r.ah.map fun _=>empty);simp [Yp,aD,aE,aF.row,empty,bm.row,gC]at L3;simp;apply ax;conv=>arg 4;whnf
 simp [lt0,aY.row];refine L3 _ ?_;have k1:(H.length-1,ao c 27)≠((H.length-1,ao c 22):Nm):=fun e=>jP (Prod.mk.inj e).2.symm;have k2:(H.length-1,ao c 53)≠((H.length-1,ao c 22):Nm):=fun e=>kL (Prod.mk.inj e).2.symm;have k3:(H.length-1,ao c 53)≠((H.length-1,ao c 27):Nm):=fun e=>jZ (Prod.mk.inj e).2.symm;have g2: ∀b,(H.set (H.length-1,ao c 22) b).get (H.length-1,ao c 27)=none:=fun b=>(aj.aK b k1).trans hf2;have g3: ∀b b',((H.set (H.length-1,ao c 22) b).set (H.length-1,ao c 27) b').get (H.length-1,ao c 53)=none:=fun b b'=>(aj.aK b' k3).trans ((aj.aK b k2).trans hf3);simp [bS,refs,dM,dn,cr,dC,dD,dedup,cL,cd,tD,hf1,g2,g3,vn,jW,im,X4,ay,dm,bC,aE,aF.row,empty,bm.row,gC]
end
section
variable {c:Nat} {H:aj}
structure mP (H:aj)(n1 n2 n3:Nm)(v1 v2 v3:Nat)(s:az):Prop where
 jP:n1≠n2
 kL:n1≠n3
 jZ:n2≠n3
 g1:H.get n1=some (.arr 1 (s.ah.map aE) v1 false)
 g2:H.get n2=some (.arr 2 (s.aq.map aF.row) v2 false)
 g3:H.get n3=some (.arr 2 (s.aa.map bm.row) v3 false)
 e1:v1≤s.ah.length
 e2:v2≤s.aq.length
 e3:v3≤s.aa.length
def kK (n1 n2 n3:Nm)(s:az):GV:= .agg [.aZ n1 1 s.ah.length 0 s.ah.length, .aZ n2 2 s.aq.length 0 s.aq.length, .aZ n3 2 s.aa.length 0 s.aa.length]
theorem Yq {nm:Nm}{es v n:Nat}{rows:List (List PV)}{ro:Bool}(h:H.get nm=some (.arr es rows v ro))(hn:rows.length=n)(hv:v≤n):
  dI H (.aZ nm es n 0 n)=(.slice rows,H.set nm (.arr es rows v true)):=by
 subst hn;simp [h,hv]
theorem E5 {n1 n2 n3:Nm}{v1 v2 v3:Nat}{s:az}(h:mP H n1 n2 n3 v1 v2 v3 s):(dr H (kK n1 n2 n3 s)).1= .pure (.agg s.row):=by
 have a1:(H.set n1 (.arr 1 (s.ah.map aE) v1 true)).get n2=some (.arr 2 (s.aq.map aF.row) v2 false):=(by rw [aj.aK _ h.jP.symm];exact h.g2);have a2:((H.set n1 (.arr 1 (s.ah.map aE) v1 true)).set n2 (.arr 2 (s.aq.map aF.row) v2 true)).get n3=some (.arr 2 (s.aa.map bm.row) v3 false):=by
  rw [aj.aK _ h.jZ.symm,aj.aK _ h.kL.symm];exact h.g3
 simp only [kK,dr,fO,dH,Yq h.g1 (by simp) h.e1,Yq a1 (by simp) h.e2,Yq a2 (by simp) h.e3,az.row];simp
theorem Qk {n1 n2 n3:Nm}{v1 v2 v3:Nat}{s:az}(h:mP H n1 n2 n3 v1 v2 v3 s){t st:Int}(ht:t<s.aa.length)(hst:st≠0)(hH:0<H.length):
  aL KC (aG KC) 121 [kK n1 n2 n3 s, .pure (.int .i64 t), .pure (.int .i64 st)] c H=some (.pure (.bool (fk s.aa t st)),H):=by
 refine gQ KC rfl rfl (args':=[.pure (.agg s.row), .pure (.int .i64 t), .pure (.int .i64 st)]) ?_ rfl hH (fun H hH=>Gk (c:=c) ht hst hH) rfl;simp only [bu,E5 h,o6];rfl
noncomputable def dJ:List bm→Nat→Int→Bool→List bm:=mI fun ts t bit on=>
 if fk ts t bit=on then ts else ts.set t ⟨(ts.getD t aV).cell,if on then IntKind.i64.wrap ((ts.getD t aV).state+bit)else IntKind.i64.wrap ((ts.getD t aV).state-bit)⟩
theorem jC (ts:List bm)(t:Nat)(bit:Int)(on:Bool):dJ ts t bit on=if fk ts t bit=on then ts else ts.set t ⟨(ts.getD t aV).cell,if on then IntKind.i64.wrap ((ts.getD t aV).state+bit)else IntKind.i64.wrap ((ts.getD t aV).state-bit)⟩:=by rw [dJ,cO]
theorem dV (ts:List bm)(t:Nat)(bit:Int)(on:Bool):(dJ ts t bit on).length=ts.length:=by
 rw [jC];split<;>simp
theorem Yr {n1 n2 n3:Nm}{v1 v2 v3:Nat}{s:az}(h:mP H n1 n2 n3 v1 v2 v3 s){t:Nat}{bit:Int}{on:Bool}(ht:t<s.aa.length)(hst:bit≠0)(hH:0<H.length):
  aL KC (aG KC) 86 [kK n1 n2 n3 s, .pure (.int .i64 t), .pure (.int .i64 bit), .pure (.bool on)] c H=
   some (.pure (.tuple []),if fk s.aa t bit=on then H else H.set n3 (.arr 2 ((dJ s.aa t bit on).map bm.row) s.aa.length false)):=by
 refine aM (br KC au Tryz.func86 rfl rfl WK rfl rfl rfl (by simp) hH ?_);have l1:=aj.bP h.g1;have l2:=aj.bP h.g2;have l3:=aj.bP h.g3;have d1: ¬n1.1=H.length:=(by omega);have d2: ¬n2.1=H.length:=(by omega);have d3: ¬n3.1=H.length:=(by omega);have hg:s.aa.getD t aV=s.aa[t]:=(by simp [List.getD_eq_getElem?_getD,ht]);have hd:=jC s.aa t bit on;rw [hg]at hd
 have P:=fun(c:Nat)=>Qk (c:=c) (H:=[(4, .box [.aZ n1 1 s.ah.length 0 s.ah.length, .aZ n2 2 s.aq.length 0 s.aq.length, .aZ n3 2 s.aa.length 0 s.aa.length])]::H) (n1:=n1) (n2:=n2) (n3:=n3) (v1:=v1) (v2:=v2) (v3:=v3) (s:=s)
  ⟨h.jP,h.kL,h.jZ,by simp [d1,h.g1],by simp [d2,h.g2],by simp [d3,h.g3],h.e1,h.e2,h.e3⟩ (t:=t) (st:=bit) (by omega) hst (by simp)
 simp only [kK]at P⊢
 cases on with
 |true=>
  cases hv:fk s.aa t bit with
  |true=>simp [P,hv,ae]
  |false=>
   simp [hv]at hd;simp [P,hv,d3,h.g3,h.e3,ht,bm.row,ae,hd,aI]
 |false=>
  cases hv:fk s.aa t bit with
  |false=>simp [P,hv,ae]
  |true=>
   simp [hv]at hd;simp [P,hv,d3,h.g3,h.e3,ht,bm.row,ae,hd,aI]
end
section
variable {c:Nat} {H:aj}
def bA (hs:List aF)(w:Nat)(hand:Int)(v:Int):List aF:=hs.set w (if hand=0 then ⟨v,(hs.getD w bH).r⟩else ⟨(hs.getD w bH).l,v⟩)
noncomputable def cX:az→Nat→ak→az:=mI fun s w a=>
 if a.kind=1 then {s with ah:=s.ah.set w a.cell}
 else if a.kind=2 then {s with aq:=bA s.aq w a.hand a.bh,aa:=s.aa.set a.bh.toNat ⟨-1,(s.aa.getD a.bh.toNat aV).state⟩}
 else if a.kind=3 then {s with aq:=bA s.aq w a.hand (-1),aa:=s.aa.set (bK s w a.hand).toNat ⟨s.ah.getD w 0,(s.aa.getD (bK s w a.hand).toNat aV).state⟩}
 else if a.kind=4 then {s with aq:=bA (bA s.aq a.other.toNat (eC s.aq a.other.toNat) (bK s w a.hand)) w a.hand (-1)}
 else if a.kind=5 then {s with aa:=dJ s.aa (bK s w (1-a.hand)).toNat 1 true}
 else if a.kind=6 then {s with aa:=dJ (dJ (dJ s.aa (bK s w a.hand).toNat 2 false) (bK s w a.hand).toNat 1 false) (bK s w (1-a.hand)).toNat 2 true}
 else if a.kind=7 then {s with aa:=dJ s.aa (bK s w a.hand).toNat 4 true}
 else {s with aa:=dJ s.aa (bK s w a.hand).toNat 4 false}
theorem jd (s:az)(w:Nat)(a:ak):cX s w a=
 if a.kind=1 then {s with ah:=s.ah.set w a.cell}
 else if a.kind=2 then {s with aq:=bA s.aq w a.hand a.bh,aa:=s.aa.set a.bh.toNat ⟨-1,(s.aa.getD a.bh.toNat aV).state⟩}
 else if a.kind=3 then {s with aq:=bA s.aq w a.hand (-1),aa:=s.aa.set (bK s w a.hand).toNat ⟨s.ah.getD w 0,(s.aa.getD (bK s w a.hand).toNat aV).state⟩}
 else if a.kind=4 then {s with aq:=bA (bA s.aq a.other.toNat (eC s.aq a.other.toNat) (bK s w a.hand)) w a.hand (-1)}
 else if a.kind=5 then {s with aa:=dJ s.aa (bK s w (1-a.hand)).toNat 1 true}
 else if a.kind=6 then {s with aa:=dJ (dJ (dJ s.aa (bK s w a.hand).toNat 2 false) (bK s w a.hand).toNat 1 false) (bK s w (1-a.hand)).toNat 2 true}
 else if a.kind=7 then {s with aa:=dJ s.aa (bK s w a.hand).toNat 4 true}
 else {s with aa:=dJ s.aa (bK s w a.hand).toNat 4 false}:=by rw [cX,cO]
structure DS (s:az)(w:Nat)(a:ak):Prop where
 hp:w<s.ah.length
 hh:w<s.aq.length
 aQ:a.aQ=w
 hand:a.hand=0∨a.hand=1
 kind:1≤a.kind∧a.kind≤8
 take:a.kind=2→ ∃t:Nat,a.bh=t∧t<s.aa.length
 held:3≤a.kind→ ∃t:Nat,bK s w a.hand=t∧t<s.aa.length
 sA:a.kind=4→ ∃o:Nat,a.other=o∧o<s.aq.length∧o≠w∧(eC s.aq o=0∨eC s.aq o=1)
 yz:a.kind=5∨a.kind=6→ ∃t:Nat,bK s w (1-a.hand)=t∧t<s.aa.length
theorem aj.set_comm {n m:Nm}{x y:dF}(h:n≠m): ∀{H:aj},(H.set n x).set m y=(H.set m y).set n x
 | []=>rfl
 |fr::H=>by
  by_cases e1:n.1=H.length
  ·by_cases e2:m.1=H.length
   ·have:n.2≠m.2:=fun e=>h (Prod.ext (e1.trans e2.symm) e);simp [e1,e2,Fr.vQ _ _ this.symm]
   ·simp [e1,e2]
  ·by_cases e2:m.1=H.length
   ·simp [e1,e2]
   ·simp [e1,e2,aj.length_set,aj.set_comm h (H:=H)]
structure lI (H:aj)(n1 n2 n3:Nm)(v1 v2 v3:Nat)(s:az):Prop extends mP H n1 n2 n3 v1 v2 v3 s where
 s1:H.set n1 (.arr 1 (s.ah.map aE) v1 false)=H
 s2:H.set n2 (.arr 2 (s.aq.map aF.row) v2 false)=H
 s3:H.set n3 (.arr 2 (s.aa.map bm.row) v3 false)=H
def cn (H:aj)(n1 n2 n3:Nm)(v1 v2 v3:Nat)(s:az):aj:=((H.set n1 (.arr 1 (s.ah.map aE) v1 false)).set n2 (.arr 2 (s.aq.map aF.row) v2 false)).set n3 (.arr 2 (s.aa.map bm.row) v3 false)
theorem jf {fr : Fr} {n1 n2 n3 : Nm} {v1 v2 v3 : Nat} {s : az} (h : lI H n1 n2 n3 v1 v2 v3 s) {t : Nat} {bit : Int} {on : Bool} (ht : t < s.aa.length) (hst : bit ≠ 0) (c : Nat) :
    ∃ v, v ≤ s.aa.length ∧ aL KC (aG KC) 86 [kK n1 n2 n3 s, .pure (.int .i64 t), .pure (.int .i64 bit), .pure (.bool on)] c (fr :: H) =
      some (.pure (.tuple []), fr :: H.set n3 (.arr 2 ((dJ s.aa t bit on).map bm.row) v false)) ∧
      lI (H.set n3 (.arr 2 ((dJ s.aa t bit on).map bm.row) v false)) n1 n2 n3 v1 v2 v { s with aa := dJ s.aa t bit on } := by
  have l1 := aj.bP h.g1
  have l2 := aj.bP h.g2
  have l3 := aj.bP h.g3
  have d1 : ¬ n1.1 = H.length := by omega
  have d2 : ¬ n2.1 = H.length := by omega
  have d3 : ¬ n3.1 = H.length := by omega
  have hS : mP (fr :: H) n1 n2 n3 v1 v2 v3 s := ⟨h.jP, h.kL, h.jZ, by simp [d1, h.g1], by simp [d2, h.g2], by simp [d3, h.g3], h.e1, h.e2, h.e3⟩
  have C := Yr (c := c) hS (t := t) (bit := bit) (on := on) ht hst (by simp)
  have fin : ∀ v, v ≤ s.aa.length → lI (H.set n3 (.arr 2 ((dJ s.aa t bit on).map bm.row) v false)) n1 n2 n3 v1 v2 v { s with aa := dJ s.aa t bit on } := fun v hv =>
    { jP := h.jP, kL := h.kL, jZ := h.jZ, g1 := by rw [aj.aK _ h.kL]; exact h.g1, g2 := by rw [aj.aK _ h.jZ]; exact h.g2, g3 := aj.gf l3,
      e1 := h.e1, e2 := h.e2, e3 := by simpa [dV] using hv, s1 := by rw [aj.set_comm h.kL.symm, h.s1], s2 := by rw [aj.set_comm h.jZ.symm, h.s2], s3 := aj.set_set }
  by_cases hv : fk s.aa t bit = on
  · have e : dJ s.aa t bit on = s.aa := by rw [jC, if_pos hv]
    rw [if_pos hv] at C
    refine ⟨v3, h.e3, ?_, fin v3 h.e3⟩
    rw [C, e, h.s3]
  · rw [if_neg hv] at C
    refine ⟨s.aa.length, Nat.le_refl _, ?_, fin _ (Nat.le_refl _)⟩
    rw [C, aj.dR l3]
theorem mP.up {fr:Fr}{n1 n2 n3:Nm}{v1 v2 v3:Nat}{s:az}(h:mP H n1 n2 n3 v1 v2 v3 s):mP (fr::H) n1 n2 n3 v1 v2 v3 s:=by
 have l1:=aj.bP h.g1;have l2:=aj.bP h.g2;have l3:=aj.bP h.g3;have d1: ¬n1.1=H.length:=(by omega);have d2: ¬n2.1=H.length:=(by omega);have d3: ¬n3.1=H.length:=(by omega);exact⟨h.jP,h.kL,h.jZ,by simp [d1,h.g1],by simp [d2,h.g2],by simp [d3,h.g3],h.e1,h.e2,h.e3⟩
theorem Ys {n1 n2 n3:Nm}{v1 v2 v3:Nat}{s:az}(h:lI H n1 n2 n3 v1 v2 v3 s){w:Nat}{q1 kind bh cell other q3 q4:Int}(hb:DS s w ⟨q1,w,kind,0,bh,cell,other,q3,q4⟩)(hhl:s.aq.length≤1000000)(hH:0<H.length):
  ∃v1' v2' v3',v1'≤s.ah.length∧v2'≤s.aq.length∧v3'≤s.aa.length∧
   aL KC (aG KC) 51 [kK n1 n2 n3 s, .pure (.agg [.int .i64 q1, .int .i64 w, .int .i64 kind, .int .i64 0, .int .i64 bh, .int .i64 cell, .int .i64 other, .int .i64 q3, .int .i64 q4])] c H=
    some (.pure (.tuple []),cn H n1 n2 n3 v1' v2' v3' (cX s w ⟨q1,w,kind,0,bh,cell,other,q3,q4⟩)):=by
 have l1:=aj.bP h.g1;have l2:=aj.bP h.g2;have l3:=aj.bP h.g3;have d1: ¬n1.1=H.length:=(by omega);have d2: ¬n2.1=H.length:=(by omega);have d3: ¬n3.1=H.length:=(by omega);have hp:=hb.hp;have hh:=hb.hh;have hg:s.aq.getD w bH=s.aq[w]:=(by simp [List.getD_eq_getElem?_getD,hh]);have hgp:s.ah.getD w 0=s.ah[w]:=(by simp [List.getD_eq_getElem?_getD,hp]);have eh:bK s w 0=s.aq[w].l:=(by unfold bK;rw [hg];simp);have eo:bK s w (1-0)=s.aq[w].r:=(by unfold bK;rw [hg];simp);have wr:IntKind.i64.wrap (1-0)=1:=rfl;have hk:=hb.kind;have hd:=jd s w ⟨q1,w,kind,0,bh,cell,other,q3,q4⟩;have hheld:=hb.held;have hoth:=hb.yz;have htake:=hb.take;have hgive:=hb.sA;have G23: ∀b,(H.set n2 b).get n3=H.get n3:=fun b=>aj.aK b h.jZ.symm;have S2: ∀x,(H.set n1 x).set n2 (.arr 2 (s.aq.map aF.row) v2 false)=H.set n1 x:=fun x=>(by rw [aj.set_comm h.jP,h.s2]);have S3: ∀x,(H.set n1 x).set n3 (.arr 2 (s.aa.map bm.row) v3 false)=H.set n1 x:=fun x=>(by rw [aj.set_comm h.kL,h.s3]);have S4: ∀x,(H.set n2 x).set n3 (.arr 2 (s.aa.map bm.row) v3 false)=H.set n2 x:=fun x=>(by rw [aj.set_comm h.jZ,h.s3]);have s1:=h.s1;have s2:=h.s2;have s3:=h.s3;have G22: ∀b,(H.set n2 b).get n2=some b:=fun b=>aj.gf l2;simp only [eh,eo,hgp,bA,hg]at hd hk hheld hoth htake hgive;simp only [kK];by_cases k1:kind=1
 ·subst k1;simp at hd;refine⟨s.ah.length,v2,v3,Nat.le_refl _,h.e2,h.e3,aM (br KC au Tryz.func51 rfl rfl gH rfl rfl rfl (by simp) hH ?_)⟩;simp [d1,d2,d3,h.g1,h.g2,h.g3,h.e1,h.e2,h.e3,hp,hh,aE,aF.row,wr,aI,ae,hd,cn,S2,S3]
 by_cases k2:kind=2
 ·subst k2;obtain⟨t,rfl,ht⟩:=htake rfl;have hgt:s.aa[t]?.getD aV=s.aa[t]:=(by simp [ht]);simp [hgt]at hd;refine⟨v1,s.aq.length,s.aa.length,h.e1,Nat.le_refl _,Nat.le_refl _,aM (br KC au Tryz.func51 rfl rfl gH rfl rfl rfl (by simp) hH ?_)⟩;simp [d1,d2,d3,h.g1,h.g2,h.g3,h.e1,h.e2,h.e3,hp,hh,ht,aF.row,bm.row,wr,aI,ae,hd,cn,G23,s1]
 have hk3:3≤kind:=(by omega);obtain⟨t,et,ht⟩:=hheld hk3;simp only [et]at hd hgive;have hgt:s.aa[t]?.getD aV=s.aa[t]:=(by simp [ht]);by_cases k3:kind=3
 ·subst k3;simp [hgt]at hd;refine⟨v1,s.aq.length,s.aa.length,h.e1,Nat.le_refl _,Nat.le_refl _,aM (br KC au Tryz.func51 rfl rfl gH rfl rfl rfl (by simp) hH ?_)⟩;simp [d1,d2,d3,h.g1,h.g2,h.g3,h.e1,h.e2,h.e3,hp,hh,ht,et,aE,aF.row,bm.row,wr,aI,ae,hd,cn,G23,s1]
 by_cases k4:kind=4
 ·subst k4;obtain⟨o,rfl,ho,how,htk⟩:=hgive rfl;have hgo:s.aq[o]?.getD bH=s.aq[o]:=(by simp [ho]);have hsw: ∀x,(s.aq.set o x)[w]?.getD bH=s.aq[w]:=fun x=>(by rw [List.getElem?_set_ne how];simp [hh]);simp [hgo,hsw]at hd;have R:(bu ([(2, .box [.aZ n1 1 s.ah.length 0 s.ah.length, .aZ n2 2 s.aq.length 0 s.aq.length, .aZ n3 2 s.aa.length 0 s.aa.length]),(3,bR ⟨q1,w,4,0,bh,cell,o,q3,q4⟩)]::H) [kK n1 n2 n3 s, .pure (.int .i64 o)]).1.map canon=[.pure (.agg s.row), .pure (.int .i64 o)]:=by
   simp only [bu,E5 (mP.up h.tomP),o6];rfl
  have T:=fun(c:Nat)=>gQ KC (f:=85) (c:=c) rfl rfl R rfl (by simp) (fun H hH=>uh (c:=c) ho hhl hH) rfl;simp only [kK,bR]at T;rcases htk with z|z
  ·rw [z]at hd T;simp at hd;refine⟨v1,s.aq.length,v3,h.e1,Nat.le_refl _,h.e3,aM (br KC au Tryz.func51 rfl rfl gH rfl rfl rfl (by simp) hH ?_)⟩;simp [d1,d2,d3,h.g1,h.g2,h.g3,h.e1,h.e2,h.e3,hp,hh,ht,et,ho,T,aE,aF.row,bm.row,wr,aI,ae,hd,cn,G22,G23,s1,S4,how,List.getElem_set_ne]
  ·rw [z]at hd T;simp at hd;refine⟨v1,s.aq.length,v3,h.e1,Nat.le_refl _,h.e3,aM (br KC au Tryz.func51 rfl rfl gH rfl rfl rfl (by simp) hH ?_)⟩;simp [d1,d2,d3,h.g1,h.g2,h.g3,h.e1,h.e2,h.e3,hp,hh,ht,et,ho,T,aE,aF.row,bm.row,wr,aI,ae,hd,cn,G22,G23,s1,S4,how,List.getElem_set_ne]
 by_cases k5:kind=5
 ·subst k5;obtain⟨u,eu,hu⟩:=hoth (.inl rfl);rw [eu]at hd;simp at hd;obtain⟨v,hv,C,hS⟩:=jf (fr:=[(2, .box [.aZ n1 1 s.ah.length 0 s.ah.length, .aZ n2 2 s.aq.length 0 s.aq.length, .aZ n3 2 s.aa.length 0 s.aa.length]),(3,bR ⟨q1,w,5,0,bh,cell,other,q3,q4⟩)]) h (t:=u) (bit:=1) (on:=true) hu (by decide) 100;simp only [kK,bR]at C;refine⟨v1,v2,v,h.e1,h.e2,hv,aM (br KC au Tryz.func51 rfl rfl gH rfl rfl rfl (by simp) hH ?_)⟩;simp [d1,d2,d3,h.g1,h.g2,h.g3,h.e1,h.e2,h.e3,hp,hh,ht,et,eu,C,aF.row,wr,ae,hd,cn,s1,s2]
 by_cases k6:kind=6
 ·subst k6;obtain⟨u,eu,hu⟩:=hoth (.inr rfl);rw [eu]at hd;simp at hd;obtain⟨v,hv,C,hS⟩:=jf (fr:=[(2, .box [.aZ n1 1 s.ah.length 0 s.ah.length, .aZ n2 2 s.aq.length 0 s.aq.length, .aZ n3 2 s.aa.length 0 s.aa.length]),(3,bR ⟨q1,w,6,0,bh,cell,other,q3,q4⟩)]) h (t:=t) (bit:=2) (on:=false) ht (by decide) 105;obtain⟨v',hv',C',hS'⟩:=jf (fr:=[(2, .box [.aZ n1 1 s.ah.length 0 s.ah.length, .aZ n2 2 s.aq.length 0 s.aq.length, .aZ n3 2 s.aa.length 0 s.aa.length]),(3,bR ⟨q1,w,6,0,bh,cell,other,q3,q4⟩)]) hS (t:=t) (bit:=1) (on:=false) (by rw [dV];exact ht) (by decide) 108;obtain⟨v'',hv'',C'',hS''⟩:=jf (fr:=[(2, .box [.aZ n1 1 s.ah.length 0 s.ah.length, .aZ n2 2 s.aq.length 0 s.aq.length, .aZ n3 2 s.aa.length 0 s.aa.length]),(3,bR ⟨q1,w,6,0,bh,cell,other,q3,q4⟩)]) hS' (t:=u) (bit:=2) (on:=true) (by simp only [dV];exact hu) (by decide) 111;simp only [kK,bR,dV,aj.set_set]at C C' C'';simp only [dV]at hv'';refine⟨v1,v2,v'',h.e1,h.e2,hv'',aM (br KC au Tryz.func51 rfl rfl gH rfl rfl rfl (by simp) hH ?_)⟩;simp [d1,d2,d3,h.g1,h.g2,h.g3,h.e1,h.e2,h.e3,hp,hh,ht,et,eu,C,C',C'',aF.row,wr,ae,hd,cn,s1,s2]
 by_cases k7:kind=7
 ·subst k7;simp at hd;obtain⟨v,hv,C,hS⟩:=jf (fr:=[(2, .box [.aZ n1 1 s.ah.length 0 s.ah.length, .aZ n2 2 s.aq.length 0 s.aq.length, .aZ n3 2 s.aa.length 0 s.aa.length]),(3,bR ⟨q1,w,7,0,bh,cell,other,q3,q4⟩)]) h (t:=t) (bit:=4) (on:=true) ht (by decide) 116;simp only [kK,bR]at C;refine⟨v1,v2,v,h.e1,h.e2,hv,aM (br KC au Tryz.func51 rfl rfl gH rfl rfl rfl (by simp) hH ?_)⟩;simp [d1,d2,d3,h.g1,h.g2,h.g3,h.e1,h.e2,h.e3,hp,hh,ht,et,C,aF.row,wr,ae,hd,cn,s1,s2]
 have k8:kind=8:=(by omega);subst k8;simp at hd;obtain⟨v,hv,C,hS⟩:=jf (fr:=[(2, .box [.aZ n1 1 s.ah.length 0 s.ah.length, .aZ n2 2 s.aq.length 0 s.aq.length, .aZ n3 2 s.aa.length 0 s.aa.length]),(3,bR ⟨q1,w,8,0,bh,cell,other,q3,q4⟩)]) h (t:=t) (bit:=4) (on:=false) ht (by decide) 121;simp only [kK,bR]at C;refine⟨v1,v2,v,h.e1,h.e2,hv,aM (br KC au Tryz.func51 rfl rfl gH rfl rfl rfl (by simp) hH ?_)⟩;simp [d1,d2,d3,h.g1,h.g2,h.g3,h.e1,h.e2,h.e3,hp,hh,ht,et,C,aF.row,wr,ae,hd,cn,s1,s2]
theorem Yt {n1 n2 n3:Nm}{v1 v2 v3:Nat}{s:az}(h:lI H n1 n2 n3 v1 v2 v3 s){w:Nat}{q1 kind bh cell other q3 q4:Int}(hb:DS s w ⟨q1,w,kind,1,bh,cell,other,q3,q4⟩)(hhl:s.aq.length≤1000000)(hH:0<H.length):
  ∃v1' v2' v3',v1'≤s.ah.length∧v2'≤s.aq.length∧v3'≤s.aa.length∧
   aL KC (aG KC) 51 [kK n1 n2 n3 s, .pure (.agg [.int .i64 q1, .int .i64 w, .int .i64 kind, .int .i64 1, .int .i64 bh, .int .i64 cell, .int .i64 other, .int .i64 q3, .int .i64 q4])] c H=
    some (.pure (.tuple []),cn H n1 n2 n3 v1' v2' v3' (cX s w ⟨q1,w,kind,1,bh,cell,other,q3,q4⟩)):=by
 have l1:=aj.bP h.g1;have l2:=aj.bP h.g2;have l3:=aj.bP h.g3;have d1: ¬n1.1=H.length:=(by omega);have d2: ¬n2.1=H.length:=(by omega);have d3: ¬n3.1=H.length:=(by omega);have hp:=hb.hp;have hh:=hb.hh;have hg:s.aq.getD w bH=s.aq[w]:=(by simp [List.getD_eq_getElem?_getD,hh]);have hgp:s.ah.getD w 0=s.ah[w]:=(by simp [List.getD_eq_getElem?_getD,hp]);have eh:bK s w 1=s.aq[w].r:=(by unfold bK;rw [hg];simp);have eo:bK s w (1-1)=s.aq[w].l:=(by unfold bK;rw [hg];simp);have wr:IntKind.i64.wrap (1-1)=0:=rfl;have hk:=hb.kind;have hd:=jd s w ⟨q1,w,kind,1,bh,cell,other,q3,q4⟩;have hheld:=hb.held;have hoth:=hb.yz;have htake:=hb.take;have hgive:=hb.sA;have G23: ∀b,(H.set n2 b).get n3=H.get n3:=fun b=>aj.aK b h.jZ.symm;have S2: ∀x,(H.set n1 x).set n2 (.arr 2 (s.aq.map aF.row) v2 false)=H.set n1 x:=fun x=>(by rw [aj.set_comm h.jP,h.s2]);have S3: ∀x,(H.set n1 x).set n3 (.arr 2 (s.aa.map bm.row) v3 false)=H.set n1 x:=fun x=>(by rw [aj.set_comm h.kL,h.s3]);have S4: ∀x,(H.set n2 x).set n3 (.arr 2 (s.aa.map bm.row) v3 false)=H.set n2 x:=fun x=>(by rw [aj.set_comm h.jZ,h.s3]);have s1:=h.s1;have s2:=h.s2;have s3:=h.s3;have G22: ∀b,(H.set n2 b).get n2=some b:=fun b=>aj.gf l2;simp only [eh,eo,hgp,bA,hg]at hd hk hheld hoth htake hgive;simp only [kK];by_cases k1:kind=1
 ·subst k1;simp at hd;refine⟨s.ah.length,v2,v3,Nat.le_refl _,h.e2,h.e3,aM (br KC au Tryz.func51 rfl rfl gH rfl rfl rfl (by simp) hH ?_)⟩;simp [d1,d2,d3,h.g1,h.g2,h.g3,h.e1,h.e2,h.e3,hp,hh,aE,aF.row,wr,aI,ae,hd,cn,S2,S3]
 by_cases k2:kind=2
 ·subst k2;obtain⟨t,rfl,ht⟩:=htake rfl;have hgt:s.aa[t]?.getD aV=s.aa[t]:=(by simp [ht]);simp [hgt]at hd;refine⟨v1,s.aq.length,s.aa.length,h.e1,Nat.le_refl _,Nat.le_refl _,aM (br KC au Tryz.func51 rfl rfl gH rfl rfl rfl (by simp) hH ?_)⟩;simp [d1,d2,d3,h.g1,h.g2,h.g3,h.e1,h.e2,h.e3,hp,hh,ht,aF.row,bm.row,wr,aI,ae,hd,cn,G23,s1]
 have hk3:3≤kind:=(by omega);obtain⟨t,et,ht⟩:=hheld hk3;simp only [et]at hd hgive;have hgt:s.aa[t]?.getD aV=s.aa[t]:=(by simp [ht]);by_cases k3:kind=3
 ·subst k3;simp [hgt]at hd;refine⟨v1,s.aq.length,s.aa.length,h.e1,Nat.le_refl _,Nat.le_refl _,aM (br KC au Tryz.func51 rfl rfl gH rfl rfl rfl (by simp) hH ?_)⟩;simp [d1,d2,d3,h.g1,h.g2,h.g3,h.e1,h.e2,h.e3,hp,hh,ht,et,aE,aF.row,bm.row,wr,aI,ae,hd,cn,G23,s1]
 by_cases k4:kind=4
 ·subst k4;obtain⟨o,rfl,ho,how,htk⟩:=hgive rfl;have hgo:s.aq[o]?.getD bH=s.aq[o]:=(by simp [ho]);have hsw: ∀x,(s.aq.set o x)[w]?.getD bH=s.aq[w]:=fun x=>(by rw [List.getElem?_set_ne how];simp [hh]);simp [hgo,hsw]at hd;have R:(bu ([(2, .box [.aZ n1 1 s.ah.length 0 s.ah.length, .aZ n2 2 s.aq.length 0 s.aq.length, .aZ n3 2 s.aa.length 0 s.aa.length]),(3,bR ⟨q1,w,4,1,bh,cell,o,q3,q4⟩)]::H) [kK n1 n2 n3 s, .pure (.int .i64 o)]).1.map canon=[.pure (.agg s.row), .pure (.int .i64 o)]:=by
   simp only [bu,E5 (mP.up h.tomP),o6];rfl
  have T:=fun(c:Nat)=>gQ KC (f:=85) (c:=c) rfl rfl R rfl (by simp) (fun H hH=>uh (c:=c) ho hhl hH) rfl;simp only [kK,bR]at T;rcases htk with z|z
  ·rw [z]at hd T;simp at hd;refine⟨v1,s.aq.length,v3,h.e1,Nat.le_refl _,h.e3,aM (br KC au Tryz.func51 rfl rfl gH rfl rfl rfl (by simp) hH ?_)⟩;simp [d1,d2,d3,h.g1,h.g2,h.g3,h.e1,h.e2,h.e3,hp,hh,ht,et,ho,T,aE,aF.row,bm.row,wr,aI,ae,hd,cn,G22,G23,s1,S4,how,List.getElem_set_ne]
  ·rw [z]at hd T;simp at hd;refine⟨v1,s.aq.length,v3,h.e1,Nat.le_refl _,h.e3,aM (br KC au Tryz.func51 rfl rfl gH rfl rfl rfl (by simp) hH ?_)⟩;simp [d1,d2,d3,h.g1,h.g2,h.g3,h.e1,h.e2,h.e3,hp,hh,ht,et,ho,T,aE,aF.row,bm.row,wr,aI,ae,hd,cn,G22,G23,s1,S4,how,List.getElem_set_ne]
 by_cases k5:kind=5
 ·subst k5;obtain⟨u,eu,hu⟩:=hoth (.inl rfl);rw [eu]at hd;simp at hd;obtain⟨v,hv,C,hS⟩:=jf (fr:=[(2, .box [.aZ n1 1 s.ah.length 0 s.ah.length, .aZ n2 2 s.aq.length 0 s.aq.length, .aZ n3 2 s.aa.length 0 s.aa.length]),(3,bR ⟨q1,w,5,1,bh,cell,other,q3,q4⟩)]) h (t:=u) (bit:=1) (on:=true) hu (by decide) 100;simp only [kK,bR]at C;refine⟨v1,v2,v,h.e1,h.e2,hv,aM (br KC au Tryz.func51 rfl rfl gH rfl rfl rfl (by simp) hH ?_)⟩;simp [d1,d2,d3,h.g1,h.g2,h.g3,h.e1,h.e2,h.e3,hp,hh,ht,et,eu,C,aF.row,wr,ae,hd,cn,s1,s2]
 by_cases k6:kind=6
 ·subst k6;obtain⟨u,eu,hu⟩:=hoth (.inr rfl);rw [eu]at hd;simp at hd;obtain⟨v,hv,C,hS⟩:=jf (fr:=[(2, .box [.aZ n1 1 s.ah.length 0 s.ah.length, .aZ n2 2 s.aq.length 0 s.aq.length, .aZ n3 2 s.aa.length 0 s.aa.length]),(3,bR ⟨q1,w,6,1,bh,cell,other,q3,q4⟩)]) h (t:=t) (bit:=2) (on:=false) ht (by decide) 105;obtain⟨v',hv',C',hS'⟩:=jf (fr:=[(2, .box [.aZ n1 1 s.ah.length 0 s.ah.length, .aZ n2 2 s.aq.length 0 s.aq.length, .aZ n3 2 s.aa.length 0 s.aa.length]),(3,bR ⟨q1,w,6,1,bh,cell,other,q3,q4⟩)]) hS (t:=t) (bit:=1) (on:=false) (by rw [dV];exact ht) (by decide) 108;obtain⟨v'',hv'',C'',hS''⟩:=jf (fr:=[(2, .box [.aZ n1 1 s.ah.length 0 s.ah.length, .aZ n2 2 s.aq.length 0 s.aq.length, .aZ n3 2 s.aa.length 0 s.aa.length]),(3,bR ⟨q1,w,6,1,bh,cell,other,q3,q4⟩)]) hS' (t:=u) (bit:=2) (on:=true) (by simp only [dV];exact hu) (by decide) 111;simp only [kK,bR,dV,aj.set_set]at C C' C'';simp only [dV]at hv'';refine⟨v1,v2,v'',h.e1,h.e2,hv'',aM (br KC au Tryz.func51 rfl rfl gH rfl rfl rfl (by simp) hH ?_)⟩;simp [d1,d2,d3,h.g1,h.g2,h.g3,h.e1,h.e2,h.e3,hp,hh,ht,et,eu,C,C',C'',aF.row,wr,ae,hd,cn,s1,s2]
 by_cases k7:kind=7
 ·subst k7;simp at hd;obtain⟨v,hv,C,hS⟩:=jf (fr:=[(2, .box [.aZ n1 1 s.ah.length 0 s.ah.length, .aZ n2 2 s.aq.length 0 s.aq.length, .aZ n3 2 s.aa.length 0 s.aa.length]),(3,bR ⟨q1,w,7,1,bh,cell,other,q3,q4⟩)]) h (t:=t) (bit:=4) (on:=true) ht (by decide) 116;simp only [kK,bR]at C;refine⟨v1,v2,v,h.e1,h.e2,hv,aM (br KC au Tryz.func51 rfl rfl gH rfl rfl rfl (by simp) hH ?_)⟩;simp [d1,d2,d3,h.g1,h.g2,h.g3,h.e1,h.e2,h.e3,hp,hh,ht,et,C,aF.row,wr,ae,hd,cn,s1,s2]
 have k8:kind=8:=(by omega);subst k8;simp at hd;obtain⟨v,hv,C,hS⟩:=jf (fr:=[(2, .box [.aZ n1 1 s.ah.length 0 s.ah.length, .aZ n2 2 s.aq.length 0 s.aq.length, .aZ n3 2 s.aa.length 0 s.aa.length]),(3,bR ⟨q1,w,8,1,bh,cell,other,q3,q4⟩)]) h (t:=t) (bit:=4) (on:=false) ht (by decide) 121;simp only [kK,bR]at C;refine⟨v1,v2,v,h.e1,h.e2,hv,aM (br KC au Tryz.func51 rfl rfl gH rfl rfl rfl (by simp) hH ?_)⟩;simp [d1,d2,d3,h.g1,h.g2,h.g3,h.e1,h.e2,h.e3,hp,hh,ht,et,C,aF.row,wr,ae,hd,cn,s1,s2]
theorem KE {n1 n2 n3:Nm}{v1 v2 v3:Nat}{s:az}(h:lI H n1 n2 n3 v1 v2 v3 s){w:Nat}{a:ak}(hb:DS s w a)(hhl:s.aq.length≤1000000)(hH:0<H.length):
  ∃v1' v2' v3',v1'≤s.ah.length∧v2'≤s.aq.length∧v3'≤s.aa.length∧
   aL KC (aG KC) 51 [kK n1 n2 n3 s, .pure (.agg a.row)] c H=some (.pure (.tuple []),cn H n1 n2 n3 v1' v2' v3' (cX s w a)):=by
 obtain⟨q1,aQ,kind,hand,bh,cell,other,q3,q4⟩:=a;have e1:=hb.aQ;have e2:=hb.hand;simp only at e1 e2;subst e1;rcases e2 with rfl|rfl
 ·exact Ys h hb hhl hH
 ·exact Yt h hb hhl hH
end
end Go.Gh
