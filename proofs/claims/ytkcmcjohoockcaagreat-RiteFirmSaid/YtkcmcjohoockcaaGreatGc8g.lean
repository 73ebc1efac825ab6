/- Texts joined: the evaluator over ghost values, its soundness, the walks. Spaces struck and names made short by a program, for the size. -/
import Derived.Test.YtkcmcjohoockcaaGreatGc8f
namespace Go.Gh
open Go.Proofs
set_option linter.unusedVariables false
set_option linter.unusedSimpArgs false
set_option linter.unnecessarySimpa false
set_option maxRecDepth 100000
set_option maxHeartbeats 8000000
section
variable {c:Nat} {H:aj}
def oO (p:Nat→Bool):Nat→Nat→Int
 |0,_=> -1
 |k+1,i=>if p i=true then (i:Int)else oO p k (i+1)
theorem oP {p:Nat→Bool}: ∀{k i:Nat},0≤oO p k i↔ ∃j,i≤j∧j<i+k∧p j=true
 |0,i=>by simp [oO];intro j h1 h2;omega
 |k+1,i=>by
  unfold oO;by_cases h:p i=true
  ·simp only [h,if_true];exact⟨fun _=>⟨i,Nat.le_refl _,by omega,h⟩,fun _=>by omega⟩
  ·rw [if_neg h,oP];constructor
   ·rintro⟨j,h1,h2,h3⟩;exact⟨j,by omega,by omega,h3⟩
   ·rintro⟨j,h1,h2,h3⟩;rcases Nat.lt_or_ge i j with h4|h4
    ·exact⟨j,h4,by omega,h3⟩
    ·have:j=i:=(by omega);subst this;exact absurd h3 h
def cg:ak:=⟨0,0,0,0,0,0,0,0,0⟩
@[simp] theorem ak.eta (a:ak):(⟨a.ba,a.aO,a.kind,a.hand,a.bf,a.cell,a.other,a.cd,a.gR⟩:ak)=a:=rfl
def T5 (p:ak→Bool)(l:List ak)(j:Nat):Bool:=p (l.getD j cg)
theorem zh (p:ak→Bool)(l:List ak)(i:Nat)(h:i<l.length):T5 p l i=p l[i]:=by simp [T5,List.getD_eq_getElem?_getD,h]
theorem Ib (l:List ak) (hn:l.length≤4611686018427387904) (p:ak→Bool) (g:GV) (hg: ∀(x:ak) (c:Nat) (fr:Fr),dN KC (aE KC) g [.pure (.agg x.row)] c (fr::H)=some (.pure (.bool (p x)),fr::H))
  (hcl: ∀fr,clean (fr::H) (H.length-1) g=g) (Q:GX→bO→Prop) (hH:0<H.length): ∀k i:Nat,i+k=l.length→
  (oO (T5 p l) k i= -1→Q (.exit 0) ⟨[(4,aN)],H,19⟩)→(0≤oO (T5 p l) k i→Q .ret ⟨[(4, .pure (.int .i64 (oO (T5 p l) k i)))],H,19⟩)→
  iB KC au 126 (lp Tryz.f126 0) [0,1,7,8] [4] Q [(0, .pure (.slice (l.map ak.row))),(1,g),(7, .pure (.int .i64 l.length)),(8, .pure (.int .i64 i))] H 19:=by
 intro k
 induction k with
 |zero=>
  intro i hi h1 h2;apply ax;conv=>arg 4;whnf
  have: ¬i<l.length:=(by omega);simp [this,hH];exact h1 rfl
 |succ k ih=>
  intro i hi h1 h2;have hia:i<l.length:=(by omega);have hw:=dp (x:=(i:Int)+1) (by omega) (by omega);have ih':=ih (i+1) (by omega);unfold oO at h1 h2;rw [zh p l i hia]at h1 h2;have hg':=hg l[i];simp only [ak.row]at hg';apply ax;conv=>arg 4;whnf
  cases hp:p l[i]with
  |true=>
   simp [hp]at h1 h2;simp [hia,hH,ak.row,hg',hp];exact h2
  |false=>
   simp only [hp,Bool.false_eq_true,if_false]at h1 h2;simp [hia,hH,ak.row,hg',hp,hw,hcl];have:=ih' h1 h2;simpa [ak.row]using this
theorem Ic (l:List ak) (hn:l.length≤4611686018427387904) (p:ak→Bool) (g:GV) (hcan:canon g=g) (hfz: ∀H,dy H g=(g,H)) (hg: ∀(x:ak) (c:Nat) (f0 fr:Fr),dN KC (aE KC) g [.pure (.agg x.row)] c (f0::fr::H)=some (.pure (.bool (p x)),f0::fr::H))
  (hcl: ∀f0 fr,clean (f0::fr::H) (H.length) g=g) (hH:0<H.length):
  aL KC (aE KC) 126 [.pure (.slice (l.map ak.row)),g] c H=some (.pure (.int .i64 (oO (T5 p l) l.length 0)),H):=by
 refine aM (bd KC au Tryz.func126 rfl rfl LR (by simp [bs,hfz]) rfl rfl (by simp) hH ?_);simp [hcan];refine Ib (H:=[]::H) l hn p g (fun x c fr=>hg x c fr []) (fun fr=>by simpa using hcl fr []) _ (by simp) l.length 0 (by omega) (fun h=> ?_) (fun h=> ?_)
 ·simp [h,ae]
 ·simp [ae]
theorem A6 (l:List ak) (hn:l.length≤4611686018427387904) (p:ak→Bool) (g:GV) (hcan:canon g=g) (hfz: ∀H,dy H g=(g,H)) (hg: ∀(x:ak) (c:Nat) (f0 f1 fr:Fr),dN KC (aE KC) g [.pure (.agg x.row)] c (f0::f1::fr::H)=some (.pure (.bool (p x)),f0::f1::fr::H))
  (hcl: ∀f0 f1 fr,clean (f0::f1::fr::H) (H.length+1) g=g) (hH:0<H.length):
  aL KC (aE KC) 90 [.pure (.slice (l.map ak.row)),g] c H=some (.pure (.bool (l.any p)),H):=by
 refine aM (bd KC au Tryz.func90 rfl rfl Tr (by simp [bs,hfz]) rfl rfl (by simp) hH ?_);have I:=fun c (fr:Fr)=>Ic (c:=c) (H:=fr::H) l hn p g hcan hfz (fun x c f0 f1=>hg x c f0 f1 fr) (fun f0 f1=>by simpa using hcl f0 f1 fr) (by simp);have e:(decide (0≤oO (T5 p l) l.length 0))=l.any p:=by
  rw [Bool.eq_iff_iff,decide_eq_true_eq,oP,List.any_eq_true];constructor
  ·rintro⟨j,_,h2,h3⟩;have hj:j<l.length:=(by omega);exact⟨l[j],List.getElem_mem hj,by rw [←zh p l j hj];exact h3⟩
  ·rintro⟨x,hx,hp⟩;obtain⟨j,hj,rfl⟩:=List.getElem_of_mem hx;exact⟨j,Nat.zero_le _,by omega,by rw [zh p l j hj];exact hp⟩
 simp [hcan,I,ae,e]
def bW (a:ak):dE:= .box [.pure (.int .i64 a.ba), .pure (.int .i64 a.aO), .pure (.int .i64 a.kind), .pure (.int .i64 a.hand), .pure (.int .i64 a.bf), .pure (.int .i64 a.cell), .pure (.int .i64 a.other), .pure (.int .i64 a.cd), .pure (.int .i64 a.gR)]
def ko (a b:ak):Bool:=b.ba==a.ba && b.aO==a.aO
theorem Ie (a b:ak){nm:Nm}(hg:H.get nm=some (bW a)):aL KC (aE KC) 91 [.pure (.agg b.row), .ay nm 0] c H=some (.pure (.bool (ko a b)),H):=by
 have hl:nm.1<H.length:=aj.bR hg;have hne: ¬nm.1=H.length:=(by omega);refine aM (bd KC au Tryz.func91 rfl rfl Ts rfl rfl rfl (by simp) (by omega) ?_);unfold bW at hg;unfold ko
 cases h1:(b.ba==a.ba)with
 |true=>simp [ae,hg,hne,ak.row,h1]
 |false=>simp [ae,hg,hne,ak.row,h1]
noncomputable def yP:aA→Nat→Int:=nO fun r i=>
 if di (r.ai.getD i cg).ba 0 1000=false then 2 else if 0<i∧(r.ai.getD i cg).ba<(r.ai.getD (i-1) cg).ba then 11
 else if di (r.ai.getD i cg).aO 0 ((r.ah.length:Int)-1)=false then 7 else if (r.ai.take i).any (ko (r.ai.getD i cg))=true then 12
 else if dX (cT r.wide r.deep) r.aa.length r.ah.length (r.ai.getD i cg)≠0 then dX (cT r.wide r.deep) r.aa.length r.ah.length (r.ai.getD i cg)
 else if di (r.ai.getD i cg).cd 0 15=false∨di (r.ai.getD i cg).gR 0 9=false then 2 else 0
theorem kW (r:aA)(i:Nat):yP r i=
 if di (r.ai.getD i cg).ba 0 1000=false then 2 else if 0<i∧(r.ai.getD i cg).ba<(r.ai.getD (i-1) cg).ba then 11
 else if di (r.ai.getD i cg).aO 0 ((r.ah.length:Int)-1)=false then 7 else if (r.ai.take i).any (ko (r.ai.getD i cg))=true then 12
 else if dX (cT r.wide r.deep) r.aa.length r.ah.length (r.ai.getD i cg)≠0 then dX (cT r.wide r.deep) r.aa.length r.ah.length (r.ai.getD i cg)
 else if di (r.ai.getD i cg).cd 0 15=false∨di (r.ai.getD i cg).gR 0 9=false then 2 else 0:=by rw [yP,cP]
noncomputable def cv:aA→Int:=nO fun r=>if kx r≠0 then kx r else if 40<r.ai.length then 8 else bK (yP r) r.ai.length 0
theorem iV (r:aA):cv r=if kx r≠0 then kx r else if 40<r.ai.length then 8 else bK (yP r) r.ai.length 0:=by rw [cv,cP]
theorem Ig (r:aA)(hl:r.ai.length≤40)(hp:r.ah.length≤1000000)(ht:r.aa.length≤1000000)(Q:GX→bO→Prop): ∀k i:Nat,i+k=r.ai.length→
  (bK (yP r) k i=0→Q (.exit 0) ⟨[(2,aN)],[(1,aU r)]::H,77⟩)→
  (bK (yP r) k i≠0→Q .ret ⟨[(2, .pure (.int .i64 (bK (yP r) k i)))],[(1,aU r)]::H,77⟩)→
  iB KC au 57 (lp Tryz.f57 0) [1,17,18,19] [2] Q
   [(1, .ay (H.length,1) 0),(17, .pure (.slice (r.ai.map ak.row))),(18, .pure (.int .i64 r.ai.length)),(19, .pure (.int .i64 i))] ([(1,aU r)]::H) 77:=by
 intro k
 induction k with
 |zero=>
  intro i hi h1 h2;apply ax;conv=>arg 4;whnf
  have: ¬i<r.ai.length:=(by omega);simp [this];exact h1 rfl
 |succ k ih=>
  intro i hi h1 h2;have hia:i<r.ai.length:=(by omega);have hw:=dp (x:=(i:Int)+1) (by omega) (by omega);have hw2:=dp (x:=(i:Int)-1) (by omega) (by omega);have hwp:=dp (x:=(r.ah.length:Int)-1) (by omega) (by omega);have ih':=ih (i+1) (by omega);unfold bK at h1 h2;have hf:=kW r i;have hgi:r.ai.getD i cg=r.ai[i]:=(by simp [List.getD_eq_getElem?_getD,hia]);rw [hgi]at hf;have hile:i≤r.ai.length:=(by omega);have hmin:min i r.ai.length=i:=(by omega);have C:=fun(c:Nat)=>A6 (c:=c) (H:=[(5,bW r.ai[i])]::[(1,aU r)]::H) (r.ai.take i) (by simp;omega) (ko r.ai[i]) (.func 91 [] [.ay (H.length+1,5) 0]) rfl (fun _=>rfl) (fun x c f0 f1 fr=>by
   rw [m0];exact Ie r.ai[i] x (by simp)) (fun f0 f1 fr=>by simp) (by simp)
  simp [aU,bW]at C;have CF:=fun(c:Nat) (H:aj) (hH:0<H.length)=>ou (c:=c) (r:=r) (H:=H) (q1:=r.ai[i].ba) (q2:=r.ai[i].aO) (kind:=r.ai[i].kind) (hand:=r.ai[i].hand) (bf:=r.ai[i].bf) (cell:=r.ai[i].cell) (other:=r.ai[i].other) (q3:=r.ai[i].cd) (q4:=r.ai[i].gR) hp ht hH;simp only [ak.eta,eE]at CF;apply ax;conv=>arg 4;whnf
  cases z1:di r.ai[i].ba 0 1000 with
  |false=>
   simp [z1]at hf;simp [hf]at h1 h2;simp [hia,ak.row,aU,c8,z1];simpa [aU]using h2
  |true=>
  have ord:(0<i∧r.ai[i].ba<(r.ai.getD (i-1) cg).ba)∨ ¬(0<i∧r.ai[i].ba<(r.ai.getD (i-1) cg).ba):=Classical.em _;have step: ∀(Q':Prop),(0<i→ ∀h:i-1<r.ai.length,¬((i:Int)-1<0)→((i:Int)-1).toNat=i-1→(0:Int)<i→r.ai.getD (i-1) cg=r.ai[i-1]→Q')→(i=0→Q')→Q':=fun Q' a b=>by
   by_cases h0:0<i
   ·have hi1:i-1<r.ai.length:=(by omega);exact a h0 hi1 (by omega) (by omega) (by omega) (by simp [List.getD_eq_getElem?_getD,hi1])
   ·exact b (by omega)
  refine step _ (fun h0 hi1 hnn htn h0' hg1=> ?_) (fun h0=> ?_)
  ·rw [hg1]at hf;by_cases z2:r.ai[i].ba<r.ai[i-1].ba
   ·simp [z1,z2,h0]at hf;simp [hf]at h1 h2;simp [hia,ak.row,aU,c8,z1,h0',hw2,hnn,htn,hi1,z2,h0];simpa [aU]using h2
   ·cases z3:di r.ai[i].aO 0 ((r.ah.length:Int)-1)with
    |false=>
     simp [z1,z2,z3,h0]at hf;simp [hf]at h1 h2;simp [hia,ak.row,aU,c8,z1,h0',hw2,hnn,htn,hi1,z2,hwp,z3,h0];simpa [aU]using h2
    |true=>
    cases z4:(r.ai.take i).any (ko r.ai[i])with
    |true=>
     simp only [z1,z2,z3,z4,and_false,Bool.true_eq_false,if_false,if_true]at hf;simp [hf]at h1 h2;simp [hia,ak.row,aU,c8,z1,h0',hw2,hnn,htn,hi1,z2,hwp,z3,hile,C,z4,h0];simpa [aU]using h2
    |false=>
    by_cases z5:dX (cT r.wide r.deep) r.aa.length r.ah.length r.ai[i]=0
    ·cases z6:di r.ai[i].cd 0 15 with
     |false=>
      simp only [z1,z2,z3,z4,z5,z6,and_false,Bool.true_eq_false,Bool.false_eq_true,ne_eq,not_true_eq_false,true_or,if_false,if_true]at hf;simp [hf]at h1 h2;simp [hia,ak.row,aU,c8,z1,h0',hw2,hnn,htn,hi1,z2,hwp,z3,hile,C,z4,CF,z5,z6,h0];simpa [aU]using h2
     |true=>
     cases z7:di r.ai[i].gR 0 9 with
     |false=>
      simp only [z1,z2,z3,z4,z5,z6,z7,and_false,Bool.true_eq_false,Bool.false_eq_true,ne_eq,not_true_eq_false,or_true,if_false,if_true]at hf;simp [hf]at h1 h2;simp [hia,ak.row,aU,c8,z1,h0',hw2,hnn,htn,hi1,z2,hwp,z3,hile,C,z4,CF,z5,z6,z7,h0];simpa [aU]using h2
     |true=>
      simp only [z1,z2,z3,z4,z5,z6,z7,and_false,Bool.true_eq_false,Bool.false_eq_true,ne_eq,not_true_eq_false,or_self,if_false,if_true]at hf;simp [hf]at h1 h2;simp [hia,ak.row,aU,c8,z1,h0',hw2,hnn,htn,hi1,z2,hwp,z3,hile,C,z4,CF,z5,z6,z7,hw,h0];simpa [aU,ak.row]using ih' h1 h2
    ·have z5':(dX (cT r.wide r.deep) r.aa.length r.ah.length r.ai[i] !=0)=true:=(by simpa using z5);simp only [z1,z2,z3,z4,z5,and_false,Bool.true_eq_false,Bool.false_eq_true,ne_eq,not_false_eq_true,if_false,if_true]at hf;simp [hf,z5]at h1 h2;simp [hia,ak.row,aU,c8,z1,h0',hw2,hnn,htn,hi1,z2,hwp,z3,hile,C,z4,CF,z5,z5',h0];simpa [aU]using h2
  ·subst h0;simp at C;have z4:(r.ai.take 0).any (ko r.ai[0])=false:=by simp
   cases z3:di r.ai[0].aO 0 ((r.ah.length:Int)-1)with
   |false=>
    simp [z1,z3]at hf;simp [hf]at h1 h2;simp [hia,ak.row,aU,c8,z1,hwp,z3];simpa [aU]using h2
   |true=>
   by_cases z5:dX (cT r.wide r.deep) r.aa.length r.ah.length r.ai[0]=0
   ·cases z6:di r.ai[0].cd 0 15 with
    |false=>
     simp [z1,z3,z5,z6]at hf;simp [hf]at h1 h2;simp [hia,ak.row,aU,c8,z1,hwp,z3,C,CF,z5,z6];simpa [aU]using h2
    |true=>
    cases z7:di r.ai[0].gR 0 9 with
    |false=>
     simp [z1,z3,z5,z6,z7]at hf;simp [hf]at h1 h2;simp [hia,ak.row,aU,c8,z1,hwp,z3,C,CF,z5,z6,z7];simpa [aU]using h2
    |true=>
     simp [z1,z3,z5,z6,z7]at hf;simp [hf]at h1 h2;simp [hia,ak.row,aU,c8,z1,hwp,z3,C,CF,z5,z6,z7,hw];simpa [aU,ak.row]using ih' h1 h2
   ·have z5':(dX (cT r.wide r.deep) r.aa.length r.ah.length r.ai[0] !=0)=true:=(by simpa using z5);simp [z1,z3,z5]at hf;simp [hf,z5]at h1 h2;simp [hia,ak.row,aU,c8,z1,hwp,z3,C,CF,z5,z5'];simpa [aU]using h2
theorem Fq (r:aA)(h1:r.seen.length≤1000000)(h2:r.aX.length≤1000000)(h3:r.ah.length≤1000000)(h4:r.aa.length≤1000000)(h5:r.ai.length≤1000000)(hH:0<H.length):
  bI KC (aE KC) 57 [.pure (.agg r.row)] c H=some (.pure (.int .i64 (cv r)),H):=by
 refine aM (aK KC au Tryz.func57 rfl rfl S7 (by simp) hH ?_);have hr:=iV r;have R:=fun c (H:aj) (hH:0<H.length)=>yK (c:=c) (H:=H) r h1 h2 h3 h4 hH;rw [eE]at R⊢;by_cases z1:kx r=0
 ·by_cases z2:40<r.ai.length
  ·have z2':(40:Int)<r.ai.length:=(by omega);simp [z1,z2]at hr;simp [R,z1,z2,z2',ae,hr]
  ·have z2': ¬(40:Int)<r.ai.length:=(by omega);simp only [z1,z2,ne_eq,not_true_eq_false,if_false]at hr;simp [R,z1,z2,z2'];have L:=fun Q=>Ig (H:=H) r (by omega) h3 h4 Q r.ai.length 0 (by omega);simp [aU]at L;refine L _ (fun h=> ?_) (fun h=> ?_)
   ·simp [h]at hr;simp [ae,hr]
   ·simp [ae,hr]
 ·have z1':(kx r !=0)=true:=(by simpa using z1);simp [z1]at hr;simp [R,z1,z1',ae,hr]
theorem rO (r:aA)(h1:r.seen.length≤1000000)(h2:r.aX.length≤1000000)(h3:r.ah.length≤1000000)(h4:r.aa.length≤1000000)(h5:r.ai.length≤1000000)(hH:0<H.length):
  aL KC (aE KC) 57 [.pure (.agg r.row)] c H=some (.pure (.int .i64 (cv r)),H):=eJ rfl rfl rfl rfl rfl hH fun H hH=>Fq r h1 h2 h3 h4 h5 hH
end
section
variable {c:Nat} {H:aj}
end
section
variable {c:Nat} {H:aj}
end
section
variable {c:Nat} {H:aj}
@[simp] theorem T6 {l0:Nat}:clean H l0 aN=aN:= .trans rfl rfl
end
section
variable {c:Nat} {H:aj}
noncomputable def ky:Int→Int→Int→Bool:=nO fun w a b=>
 (IntKind.i64.wrap (a.tmod w-b.tmod w)==0 && (IntKind.i64.wrap (IntKind.i64.wrap (a.tdiv w)-IntKind.i64.wrap (b.tdiv w))==1||IntKind.i64.wrap (IntKind.i64.wrap (a.tdiv w)-IntKind.i64.wrap (b.tdiv w))== -1))||
 (IntKind.i64.wrap (IntKind.i64.wrap (a.tdiv w)-IntKind.i64.wrap (b.tdiv w))==0 && (IntKind.i64.wrap (a.tmod w-b.tmod w)==1||IntKind.i64.wrap (a.tmod w-b.tmod w)== -1))
theorem xF (w a b:Int):ky w a b=
 ((IntKind.i64.wrap (a.tmod w-b.tmod w)==0 && (IntKind.i64.wrap (IntKind.i64.wrap (a.tdiv w)-IntKind.i64.wrap (b.tdiv w))==1||IntKind.i64.wrap (IntKind.i64.wrap (a.tdiv w)-IntKind.i64.wrap (b.tdiv w))== -1))||
 (IntKind.i64.wrap (IntKind.i64.wrap (a.tdiv w)-IntKind.i64.wrap (b.tdiv w))==0 && (IntKind.i64.wrap (a.tmod w-b.tmod w)==1||IntKind.i64.wrap (a.tmod w-b.tmod w)== -1))):=by rw [ky,cP]
theorem mE {w d a b:Int}{x1 x2 x3 x4 x5:PV}(hw:w≠0)(hH:0<H.length):aL KC (aE KC) 120 [.pure (.agg [.int .i64 w, .int .i64 d,x1,x2,x3,x4,x5]), .pure (.int .i64 a), .pure (.int .i64 b)] c H=some (.pure (.bool (ky w a b)),H):=by
 refine eJ rfl rfl rfl rfl rfl hH fun H hH=> ?_;refine aM (aK KC au Tryz.func120 rfl rfl LJ (by simp) hH ?_);have hd:=xF w a b;generalize hx:IntKind.i64.wrap (a.tmod w-b.tmod w)=x at hd;generalize hy:IntKind.i64.wrap (IntKind.i64.wrap (a.tdiv w)-IntKind.i64.wrap (b.tdiv w))=y at hd;by_cases x0:x=0
 ·subst x0;by_cases y1:y=1
  ·subst y1;simp at hd;simp [hw,hx,hy,ae,hd]
  ·have y1':(y==1)=false:=(by simpa using y1);by_cases y2:y= -1
   ·subst y2;simp at hd;simp [hw,hx,hy,ae,hd]
   ·have y2':(y== -1)=false:=(by simpa using y2);by_cases y0:y=0
    ·subst y0;simp at hd;simp [hw,hx,hy,ae,hd]
    ·have y0':(y==0)=false:=(by simpa using y0);simp [y1',y2',y0']at hd;simp [hw,hx,hy,y1',y2',y0',ae,hd]
 ·have x0':(x==0)=false:=(by simpa using x0);by_cases y0:y=0
  ·subst y0;by_cases x1:x=1
   ·subst x1;simp at hd;simp [hw,hx,hy,ae,hd]
   ·have x1':(x==1)=false:=(by simpa using x1);by_cases x2:x= -1
    ·subst x2;simp at hd;simp [hw,hx,hy,ae,hd]
    ·have x2':(x== -1)=false:=(by simpa using x2);simp [x0',x1',x2']at hd;simp [hw,hx,hy,x0',x1',x2',ae,hd]
  ·have y0':(y==0)=false:=(by simpa using y0);simp [x0',y0']at hd;simp [hw,hx,hy,x0',y0',ae,hd]
def aR:bC:=⟨0,0⟩
noncomputable def eT:List bC→Int→Int→Bool:=nO fun ts t st=>decide (0≤t) && ((IntKind.i64.wrap ((ts.getD t.toNat aR).state.tdiv st)).tmod 2==1)
theorem iJ (ts:List bC)(t st:Int):eT ts t st=(decide (0≤t) && ((IntKind.i64.wrap ((ts.getD t.toNat aR).state.tdiv st)).tmod 2==1)):=by rw [eT,cP]
theorem Eo {ts:List bC}{x1 x2:PV}{t st:Int}(ht:t<ts.length)(hst:st≠0)(hH:0<H.length):
  bI KC (aE KC) 121 [.pure (.agg [x1,x2, .slice (ts.map bC.row)]), .pure (.int .i64 t), .pure (.int .i64 st)] c H=some (.pure (.bool (eT ts t st)),H):=by
 refine aM (aK KC au Tryz.func121 rfl rfl LK (by simp) hH ?_);have hd:=iJ ts t st;by_cases h0:0≤t
 ·have hn: ¬t<0:=(by omega);have hl:t.toNat<ts.length:=(by omega);have hg:ts.getD t.toNat aR=ts[t.toNat]:=(by simp [List.getD_eq_getElem?_getD,hl]);rw [hg]at hd;simp [h0]at hd;simp [h0,hn,hl,hst,bC.row,ae,hd]
 ·simp [h0]at hd;simp [h0,ae,hd]
theorem uF {ts:List bC}{x1 x2:PV}{t st:Int}(ht:t<ts.length)(hst:st≠0)(hH:0<H.length):
  aL KC (aE KC) 121 [.pure (.agg [x1,x2, .slice (ts.map bC.row)]), .pure (.int .i64 t), .pure (.int .i64 st)] c H=some (.pure (.bool (eT ts t st)),H):=eJ rfl rfl rfl rfl rfl hH fun H hH=>Eo ht hst hH
def bA:aG:=⟨0,0⟩
def dR (hs:List aG)(aO:Nat):Int:=if (hs.getD aO bA).l= -1 then 0 else if (hs.getD aO bA).r= -1 then 1 else-1
theorem sR {hs:List aG}{x1 x2:PV}{aO:Nat}(hw:aO<hs.length)(hl:hs.length≤1000000)(hH:0<H.length):
  bI KC (aE KC) 85 [.pure (.agg [x1, .slice (hs.map aG.row),x2]), .pure (.int .i64 aO)] c H=some (.pure (.int .i64 (dR hs aO)),H):=by
 refine aM (aK KC au Tryz.func85 rfl rfl Tm (by simp) hH ?_);have hg:hs.getD aO bA=hs[aO]:=(by simp [List.getD_eq_getElem?_getD,hw]);have hd:dR hs aO=if hs[aO].l= -1 then 0 else if hs[aO].r= -1 then 1 else-1:=(by unfold dR;rw [hg]);have w2:IntKind.i64.wrap 2=2:=rfl;simp;apply ax;conv=>arg 4;whnf
 by_cases h1:hs[aO].l= -1
 ·simp [h1]at hd;simp [hw,aG.row,h1,ae,hd]
 ·have h1':(hs[aO].l== -1)=false:=(by simpa using h1);simp [h1]at hd;simp [hw,aG.row,h1'];apply ax;conv=>arg 4;whnf
  by_cases h2:hs[aO].r= -1
  ·simp [h2]at hd;simp [hw,aG.row,h2,ae,hd]
  ·have h2':(hs[aO].r== -1)=false:=(by simpa using h2);simp [h2]at hd;simp [hw,aG.row,h2',w2];apply ax;conv=>arg 4;whnf
   simp [ae,hd]
theorem xL {hs:List aG}{x1 x2:PV}{aO:Nat}(hw:aO<hs.length)(hl:hs.length≤1000000)(hH:0<H.length):
  aL KC (aE KC) 85 [.pure (.agg [x1, .slice (hs.map aG.row),x2]), .pure (.int .i64 aO)] c H=some (.pure (.int .i64 (dR hs aO)),H):=eJ rfl rfl rfl rfl rfl hH fun H hH=>sR hw hl hH
end
section
variable {c:Nat} {H:aj}
def bF (s:aw)(w:Nat)(hand:Int):Int:=if hand=0 then (s.aq.getD w bA).l else (s.aq.getD w bA).r
def dm:aZ:=⟨0,0,0,0,false⟩
noncomputable def b7:aA→aw→Nat→ak→Bool:=nO fun r s w a=>
 if a.kind=1 then !(s.ah.contains a.cell) && ky r.wide (s.ah.getD w 0) a.cell
 else if a.kind=2 then bF s w a.hand== -1 && (s.aa.getD a.bf.toNat aR).cell==s.ah.getD w 0
 else if a.kind=3 then decide (0≤bF s w a.hand)
 else if a.kind=4 then decide (0≤bF s w a.hand) && ky r.wide (s.ah.getD w 0) (s.ah.getD a.other.toNat 0) && decide (0≤dR s.aq a.other.toNat)
 else if a.kind=5 then decide (0≤bF s w a.hand) && (r.aa.getD (bF s w a.hand).toNat dm).pR && decide (0≤bF s w (1-a.hand))
 else if a.kind=6 then eT s.aa (bF s w a.hand) 2 && !eT s.aa (bF s w a.hand) 4 && decide (0≤bF s w (1-a.hand)) && !eT s.aa (bF s w (1-a.hand)) 2 && !eT s.aa (bF s w (1-a.hand)) 4
 else if a.kind=7 then decide (0≤bF s w a.hand) && !eT s.aa (bF s w a.hand) 4
 else eT s.aa (bF s w a.hand) 4
theorem du (r:aA)(s:aw)(w:Nat)(a:ak):b7 r s w a=
 if a.kind=1 then !(s.ah.contains a.cell) && ky r.wide (s.ah.getD w 0) a.cell
 else if a.kind=2 then bF s w a.hand== -1 && (s.aa.getD a.bf.toNat aR).cell==s.ah.getD w 0
 else if a.kind=3 then decide (0≤bF s w a.hand)
 else if a.kind=4 then decide (0≤bF s w a.hand) && ky r.wide (s.ah.getD w 0) (s.ah.getD a.other.toNat 0) && decide (0≤dR s.aq a.other.toNat)
 else if a.kind=5 then decide (0≤bF s w a.hand) && (r.aa.getD (bF s w a.hand).toNat dm).pR && decide (0≤bF s w (1-a.hand))
 else if a.kind=6 then eT s.aa (bF s w a.hand) 2 && !eT s.aa (bF s w a.hand) 4 && decide (0≤bF s w (1-a.hand)) && !eT s.aa (bF s w (1-a.hand)) 2 && !eT s.aa (bF s w (1-a.hand)) 4
 else if a.kind=7 then decide (0≤bF s w a.hand) && !eT s.aa (bF s w a.hand) 4
 else eT s.aa (bF s w a.hand) 4:=by rw [b7,cP]
def fY (s:aw):dE:= .box [.pure (.slice (s.ah.map aF)), .pure (.slice (s.aq.map aG.row)), .pure (.slice (s.aa.map bC.row))]
theorem vE (r:aA) (s:aw) (hl:s.ah.length≤1000000) (cell q1 q2 kind hand bf other q3 q4:Int) (Q:GX→bO→Prop) (fr:Fr)
  (hfr:fr=[(3,aU r),(4,fY s),(5, .box [.pure (.int .i64 q1), .pure (.int .i64 q2), .pure (.int .i64 kind), .pure (.int .i64 hand), .pure (.int .i64 bf), .pure (.int .i64 cell), .pure (.int .i64 other), .pure (.int .i64 q3), .pure (.int .i64 q4)])]):
  ∀k i:Nat,i+k=s.ah.length→
  ((s.ah.drop i).contains cell=false→Q (.exit 1) ⟨[(3, .ay (H.length,3) 0),(4, .ay (H.length,4) 0),(5, .ay (H.length,5) 0),(6,aN)],fr::H,165⟩)→
  ((s.ah.drop i).contains cell=true→Q .ret ⟨[(3, .ay (H.length,3) 0),(4, .ay (H.length,4) 0),(5, .ay (H.length,5) 0),(6, .pure (.bool false))],fr::H,165⟩)→
  iB KC au 84 (lp Tryz.f84 0) [3,4,5,9] [3,4,5,6] Q
   [(3, .ay (H.length,3) 0),(4, .ay (H.length,4) 0),(5, .ay (H.length,5) 0),(9, .pure (.int .i64 i))] (fr::H) 165:=by
 subst hfr;intro k
 induction k with
 |zero=>
  intro i hi h1 h2;have e1:s.ah.drop i=[]:=List.drop_of_length_le (by omega);rw [e1]at h1;apply ax;conv=>arg 4;whnf
  have: ¬i<s.ah.length:=(by omega);simp [this,aU,fY];simpa [aU,fY]using h1 rfl
 |succ k ih=>
  intro i hi h1 h2;have hia:i<s.ah.length:=(by omega);have hw:=dp (x:=(i:Int)+1) (by omega) (by omega);have ih':=ih (i+1) (by omega);rw [List.drop_eq_getElem_cons hia,List.contains_cons]at h1 h2;apply ax;conv=>arg 4;whnf
  by_cases he:s.ah[i]=cell
  ·have ht:(cell==s.ah[i]||(s.ah.drop (i+1)).contains cell)=true:=(by simp [he]);simp [hia,aU,fY,aF,he];simpa [aU,fY]using h2 ht
  ·have he':(s.ah[i]==cell)=false:=(by simpa using he);have he2:(cell==s.ah[i])=false:=(by simpa using fun h=>he h.symm);rw [he2,Bool.false_or]at h1 h2;simp [hia,aU,fY,aF,he',hw];simpa [aU,fY,aF]using ih' h1 h2
theorem zi {r:aA} {s:aw} {w:Nat} {q1 kind bf cell other q3 q4:Int} (hw:w<s.ah.length) (hwh:w<s.aq.length) (hhl:s.aq.length≤1000000) (hpl:s.ah.length≤1000000) (hwide:r.wide≠0)
  (hL: ∀h:w<s.aq.length,s.aq[w].l<s.aa.length∧s.aq[w].r<s.aa.length∧ -1≤s.aq[w].l∧ -1≤s.aq[w].r) (htl:s.aa.length=r.aa.length)
  (h2:kind=2→ ∃t:Nat,bf=t∧t<s.aa.length) (h4:kind=4→ ∃o:Nat,other=o∧o<s.ah.length∧o<s.aq.length) (hH:0<H.length):
  bI KC (aE KC) 84 [.pure (.agg r.row), .pure (.agg s.row), .pure (.agg [.int .i64 q1, .int .i64 w, .int .i64 kind, .int .i64 0, .int .i64 bf, .int .i64 cell, .int .i64 other, .int .i64 q3, .int .i64 q4])] c H=
   some (.pure (.bool (b7 r s w ⟨q1,w,kind,0,bf,cell,other,q3,q4⟩)),H):=by
 refine aM (aK KC au Tryz.func84 rfl rfl Hl (by simp) hH ?_);have hd:=du r s w ⟨q1,w,kind,0,bf,cell,other,q3,q4⟩;obtain⟨l1,l2,l3,l4⟩:=hL hwh;have hg:s.aq.getD w bA=s.aq[w]:=(by simp [List.getD_eq_getElem?_getD,hwh]);have hp:s.ah.getD w 0=s.ah[w]:=(by simp [List.getD_eq_getElem?_getD,hw]);have e1:bF s w 0=s.aq[w].l:=(by unfold bF;rw [hg];simp);have e2:bF s w (1-0)=s.aq[w].r:=(by unfold bF;rw [hg];simp);simp only [e1,e2,hp]at hd;have wr:IntKind.i64.wrap (1-0)=1:=rfl;rw [eE];simp only [aw.row];have sw:(1:Int)-0=1:=rfl;by_cases k1:kind=1
 ·subst k1;rw [if_pos rfl]at hd;simp [hw,hwh,aG.row,wr];have L:=fun Q=>vE (H:=H) r s hpl cell q1 w 1 0 bf other q3 q4 Q _ rfl s.ah.length 0 (by omega);simp only [aU,fY]at L;refine L _ (fun z=> ?_) (fun z=> ?_)
  ·have z':s.ah.contains cell=false:=(by simpa using z);rw [z',Bool.not_false,Bool.true_and]at hd;simp [hw,hwide,aF,mE,ae,hd]
  ·have z':s.ah.contains cell=true:=(by simpa using z);rw [z',Bool.not_true,Bool.false_and]at hd;simp [ae,hd]
 have k1':(kind==1)=false:=(by simpa using k1);by_cases k2:kind=2
 ·subst k2;obtain⟨t,rfl,ht⟩:=h2 rfl;have hgt:s.aa.getD t aR=s.aa[t]:=(by simp [List.getD_eq_getElem?_getD,ht]);simp [hgt]at hd;by_cases z1:s.aq[w].l= -1
  ·simp [z1]at hd;simp [hw,hwh,aG.row,wr,z1,ht,bC.row,aF,ae,hd]
  ·have z1':(s.aq[w].l== -1)=false:=(by simpa using z1);simp [z1']at hd;simp [hw,hwh,aG.row,wr,z1',ae,hd]
 have k2':(kind==2)=false:=(by simpa using k2);by_cases k3:kind=3
 ·subst k3;simp at hd;simp [hw,hwh,aG.row,wr,ae,hd]
 have k3':(kind==3)=false:=(by simpa using k3);by_cases k4:kind=4
 ·subst k4;obtain⟨o,rfl,ho,ho2⟩:=h4 rfl;have hgo:s.ah.getD o 0=s.ah[o]:=(by simp [List.getD_eq_getElem?_getD,ho]);simp [hgo]at hd;by_cases z1:0≤s.aq[w].l
  ·cases z2:ky r.wide s.ah[w] s.ah[o]with
   |true=>
    simp [z1,z2]at hd;simp [hw,hwh,aG.row,wr,z1,ho,aF,mE,hwide,z2,xL,ho2,hhl,ae,hd]
   |false=>
    simp [z1,z2]at hd;simp [hw,hwh,aG.row,wr,z1,ho,aF,mE,hwide,z2,ae,hd]
  ·simp [z1]at hd;simp [hw,hwh,aG.row,wr,z1,ae,hd]
 have k4':(kind==4)=false:=(by simpa using k4);by_cases k5:kind=5
 ·subst k5;simp at hd;by_cases z1:0≤s.aq[w].l
  ·have n1: ¬s.aq[w].l<0:=(by omega);have n2:(s.aq[w].l).toNat<r.aa.length:=(by omega);have hgt:r.aa[(s.aq[w].l).toNat]?.getD dm=r.aa[(s.aq[w].l).toNat]:=(by simp [n2]);rw [hgt]at hd
   cases z2:r.aa[(s.aq[w].l).toNat].pR with
   |true=>
    simp [z1,z2]at hd;simp [hw,hwh,aG.row,wr,z1,n1,n2,aZ.row,z2,ae,hd]
   |false=>
    simp [z1,z2]at hd;simp [hw,hwh,aG.row,wr,z1,n1,n2,aZ.row,z2,ae,hd]
  ·simp [z1]at hd;simp [hw,hwh,aG.row,wr,z1,ae,hd]
 have k5':(kind==5)=false:=(by simpa using k5);by_cases k6:kind=6
 ·subst k6;simp at hd;have P:=fun(t st:Int) (ht:t<s.aa.length) (hst:st≠0) (c:Nat) (H:aj) (hH:0<H.length)=>uF (c:=c) (H:=H) (ts:=s.aa) (x1:= .slice (s.ah.map aF)) (x2:= .slice (s.aq.map aG.row)) ht hst hH
  cases z1:eT s.aa s.aq[w].l 2 with
  |false=>
   simp [z1]at hd;simp [hw,hwh,aG.row,wr,P,l1,l2,z1,ae,hd]
  |true=>
  cases z2:eT s.aa s.aq[w].l 4 with
  |true=>
   simp [z1,z2]at hd;simp [hw,hwh,aG.row,wr,P,l1,l2,z1,z2,ae,hd]
  |false=>
  by_cases z3:0≤s.aq[w].r
  ·cases z4:eT s.aa s.aq[w].r 2 with
   |true=>
    simp [z1,z2,z3,z4]at hd;simp [hw,hwh,aG.row,wr,P,l1,l2,z1,z2,z3,z4,ae,hd]
   |false=>
    simp [z1,z2,z3,z4]at hd;simp [hw,hwh,aG.row,wr,P,l1,l2,z1,z2,z3,z4,ae,hd]
  ·simp [z1,z2,z3]at hd;simp [hw,hwh,aG.row,wr,P,l1,l2,z1,z2,z3,ae,hd]
 have k6':(kind==6)=false:=(by simpa using k6);have P:=fun(t st:Int) (ht:t<s.aa.length) (hst:st≠0) (c:Nat) (H:aj) (hH:0<H.length)=>uF (c:=c) (H:=H) (ts:=s.aa) (x1:= .slice (s.ah.map aF)) (x2:= .slice (s.aq.map aG.row)) ht hst hH;by_cases k7:kind=7
 ·subst k7;simp at hd;by_cases z1:0≤s.aq[w].l
  ·simp [z1]at hd;simp [hw,hwh,aG.row,wr,P,l1,l2,z1,ae,hd]
  ·simp [z1]at hd;simp [hw,hwh,aG.row,wr,z1,ae,hd]
 have k7':(kind==7)=false:=(by simpa using k7);simp only [k1,k2,k3,k4,k5,k6,k7,if_false]at hd;simp [hw,hwh,aG.row,wr,P,l1,l2,k1',k2',k3',k4',k5',k6',k7',ae,hd]
theorem zj {r:aA} {s:aw} {w:Nat} {q1 kind bf cell other q3 q4:Int} (hw:w<s.ah.length) (hwh:w<s.aq.length) (hhl:s.aq.length≤1000000) (hpl:s.ah.length≤1000000) (hwide:r.wide≠0)
  (hL: ∀h:w<s.aq.length,s.aq[w].l<s.aa.length∧s.aq[w].r<s.aa.length∧ -1≤s.aq[w].l∧ -1≤s.aq[w].r) (htl:s.aa.length=r.aa.length)
  (h2:kind=2→ ∃t:Nat,bf=t∧t<s.aa.length) (h4:kind=4→ ∃o:Nat,other=o∧o<s.ah.length∧o<s.aq.length) (hH:0<H.length):
  bI KC (aE KC) 84 [.pure (.agg r.row), .pure (.agg s.row), .pure (.agg [.int .i64 q1, .int .i64 w, .int .i64 kind, .int .i64 1, .int .i64 bf, .int .i64 cell, .int .i64 other, .int .i64 q3, .int .i64 q4])] c H=
   some (.pure (.bool (b7 r s w ⟨q1,w,kind,1,bf,cell,other,q3,q4⟩)),H):=by
 refine aM (aK KC au Tryz.func84 rfl rfl Hl (by simp) hH ?_);have hd:=du r s w ⟨q1,w,kind,1,bf,cell,other,q3,q4⟩;obtain⟨l1,l2,l3,l4⟩:=hL hwh;have hg:s.aq.getD w bA=s.aq[w]:=(by simp [List.getD_eq_getElem?_getD,hwh]);have hp:s.ah.getD w 0=s.ah[w]:=(by simp [List.getD_eq_getElem?_getD,hw]);have e1:bF s w 1=s.aq[w].r:=(by unfold bF;rw [hg];simp);have e2:bF s w (1-1)=s.aq[w].l:=(by unfold bF;rw [hg];simp);simp only [e1,e2,hp]at hd;have wr:IntKind.i64.wrap (1-1)=0:=rfl;rw [eE];simp only [aw.row];have sw:(1:Int)-1=0:=rfl;by_cases k1:kind=1
 ·subst k1;rw [if_pos rfl]at hd;simp [hw,hwh,aG.row,wr];have L:=fun Q=>vE (H:=H) r s hpl cell q1 w 1 1 bf other q3 q4 Q _ rfl s.ah.length 0 (by omega);simp only [aU,fY]at L;refine L _ (fun z=> ?_) (fun z=> ?_)
  ·have z':s.ah.contains cell=false:=(by simpa using z);rw [z',Bool.not_false,Bool.true_and]at hd;simp [hw,hwide,aF,mE,ae,hd]
  ·have z':s.ah.contains cell=true:=(by simpa using z);rw [z',Bool.not_true,Bool.false_and]at hd;simp [ae,hd]
 have k1':(kind==1)=false:=(by simpa using k1);by_cases k2:kind=2
 ·subst k2;obtain⟨t,rfl,ht⟩:=h2 rfl;have hgt:s.aa.getD t aR=s.aa[t]:=(by simp [List.getD_eq_getElem?_getD,ht]);simp [hgt]at hd;by_cases z1:s.aq[w].r= -1
  ·simp [z1]at hd;simp [hw,hwh,aG.row,wr,z1,ht,bC.row,aF,ae,hd]
  ·have z1':(s.aq[w].r== -1)=false:=(by simpa using z1);simp [z1']at hd;simp [hw,hwh,aG.row,wr,z1',ae,hd]
 have k2':(kind==2)=false:=(by simpa using k2);by_cases k3:kind=3
 ·subst k3;simp at hd;simp [hw,hwh,aG.row,wr,ae,hd]
 have k3':(kind==3)=false:=(by simpa using k3);by_cases k4:kind=4
 ·subst k4;obtain⟨o,rfl,ho,ho2⟩:=h4 rfl;have hgo:s.ah.getD o 0=s.ah[o]:=(by simp [List.getD_eq_getElem?_getD,ho]);simp [hgo]at hd;by_cases z1:0≤s.aq[w].r
  ·cases z2:ky r.wide s.ah[w] s.ah[o]with
   |true=>
    simp [z1,z2]at hd;simp [hw,hwh,aG.row,wr,z1,ho,aF,mE,hwide,z2,xL,ho2,hhl,ae,hd]
   |false=>
    simp [z1,z2]at hd;simp [hw,hwh,aG.row,wr,z1,ho,aF,mE,hwide,z2,ae,hd]
  ·simp [z1]at hd;simp [hw,hwh,aG.row,wr,z1,ae,hd]
 have k4':(kind==4)=false:=(by simpa using k4);by_cases k5:kind=5
 ·subst k5;simp at hd;by_cases z1:0≤s.aq[w].r
  ·have n1: ¬s.aq[w].r<0:=(by omega);have n2:(s.aq[w].r).toNat<r.aa.length:=(by omega);have hgt:r.aa[(s.aq[w].r).toNat]?.getD dm=r.aa[(s.aq[w].r).toNat]:=(by simp [n2]);rw [hgt]at hd
   cases z2:r.aa[(s.aq[w].r).toNat].pR with
   |true=>
    simp [z1,z2]at hd;simp [hw,hwh,aG.row,wr,z1,n1,n2,aZ.row,z2,ae,hd]
   |false=>
    simp [z1,z2]at hd;simp [hw,hwh,aG.row,wr,z1,n1,n2,aZ.row,z2,ae,hd]
  ·simp [z1]at hd;simp [hw,hwh,aG.row,wr,z1,ae,hd]
 have k5':(kind==5)=false:=(by simpa using k5);by_cases k6:kind=6
 ·subst k6;simp at hd;have P:=fun(t st:Int) (ht:t<s.aa.length) (hst:st≠0) (c:Nat) (H:aj) (hH:0<H.length)=>uF (c:=c) (H:=H) (ts:=s.aa) (x1:= .slice (s.ah.map aF)) (x2:= .slice (s.aq.map aG.row)) ht hst hH
  cases z1:eT s.aa s.aq[w].r 2 with
  |false=>
   simp [z1]at hd;simp [hw,hwh,aG.row,wr,P,l1,l2,z1,ae,hd]
  |true=>
  cases z2:eT s.aa s.aq[w].r 4 with
  |true=>
   simp [z1,z2]at hd;simp [hw,hwh,aG.row,wr,P,l1,l2,z1,z2,ae,hd]
  |false=>
  by_cases z3:0≤s.aq[w].l
  ·cases z4:eT s.aa s.aq[w].l 2 with
   |true=>
    simp [z1,z2,z3,z4]at hd;simp [hw,hwh,aG.row,wr,P,l1,l2,z1,z2,z3,z4,ae,hd]
   |false=>
    simp [z1,z2,z3,z4]at hd;simp [hw,hwh,aG.row,wr,P,l1,l2,z1,z2,z3,z4,ae,hd]
  ·simp [z1,z2,z3]at hd;simp [hw,hwh,aG.row,wr,P,l1,l2,z1,z2,z3,ae,hd]
 have k6':(kind==6)=false:=(by simpa using k6);have P:=fun(t st:Int) (ht:t<s.aa.length) (hst:st≠0) (c:Nat) (H:aj) (hH:0<H.length)=>uF (c:=c) (H:=H) (ts:=s.aa) (x1:= .slice (s.ah.map aF)) (x2:= .slice (s.aq.map aG.row)) ht hst hH;by_cases k7:kind=7
 ·subst k7;simp at hd;by_cases z1:0≤s.aq[w].r
  ·simp [z1]at hd;simp [hw,hwh,aG.row,wr,P,l1,l2,z1,ae,hd]
  ·simp [z1]at hd;simp [hw,hwh,aG.row,wr,z1,ae,hd]
 have k7':(kind==7)=false:=(by simpa using k7);simp only [k1,k2,k3,k4,k5,k6,k7,if_false]at hd;simp [hw,hwh,aG.row,wr,P,l1,l2,k1',k2',k3',k4',k5',k6',k7',ae,hd]
end
section
variable {c:Nat} {H:aj}
def bZ (aO kind hand bf cell other:Int):ak:=⟨0,aO,kind,hand,bf,cell,other,0,0⟩
def gJ (aO:Int)(k i:Nat):List ak:=(List.range' i k).map fun(x:Nat)=>bZ aO 1 0 0 x 0
def ib (aO hand:Int)(k i:Nat):List ak:=(List.range' i k).map fun(x:Nat)=>bZ aO 2 hand x 0 0
def gy (aO hand:Int)(k i:Nat):List ak:=((List.range' i k).filter fun(x:Nat)=> !((x:Int)==aO)).map fun(x:Nat)=>bZ aO 4 hand 0 0 x
def ia (nt np:Nat)(aO:Int)(kind:Nat)(hand:Int):List ak:=if kind=2 then ib aO hand nt 0 else if kind=4 then gy aO hand np 0 else [bZ aO kind hand 0 0 0]
def nX (nt np:Nat)(aO:Int)(kind:Nat):List ak:=ia nt np aO kind 0++ia nt np aO kind 1
def fy (nt np:Nat)(aO:Int)(k i:Nat):List ak:=(List.range' i k).flatMap (nX nt np aO)
def bL (n nt np:Nat)(aO:Int):List ak:=gJ aO n 0++fy nt np aO 7 2
theorem qz (aO:Int)(k i:Nat):gJ aO (k+1) i=bZ aO 1 0 0 i 0::gJ aO k (i+1):=by simp [gJ,List.range'_succ]
theorem tC (aO hand:Int)(k i:Nat):ib aO hand (k+1) i=bZ aO 2 hand i 0 0::ib aO hand k (i+1):=by simp [ib,List.range'_succ]
theorem oS (aO hand:Int)(k i:Nat):gy aO hand (k+1) i=if (i:Int)=aO then gy aO hand k (i+1)else bZ aO 4 hand 0 0 i::gy aO hand k (i+1):=by
 by_cases h:(i:Int)=aO
 ·simp [gy,List.range'_succ,h]
 ·simp [gy,List.range'_succ,h]
theorem ov (nt np:Nat)(aO:Int)(k i:Nat):fy nt np aO (k+1) i=nX nt np aO i++fy nt np aO k (i+1):=by simp [fy,List.range'_succ]
theorem CR (aO hand:Int)(k i:Nat):(ib aO hand k i).length=k:=by simp [ib]
theorem CS (aO hand:Int)(k i:Nat):(gy aO hand k i).length≤k:=by
 simp only [gy,List.length_map];exact Nat.le_trans (List.length_filter_le _ _) (by simp)
theorem sS (nt np:Nat)(aO:Int)(kind:Nat)(hand:Int):(ia nt np aO kind hand).length≤nt+np+1:=by
 have:=CS aO hand np 0;have:=CR aO hand nt 0;unfold ia;split
 ·omega
 ·split
  ·omega
  ·simp
theorem xM (nt np:Nat)(aO:Int)(kind:Nat):(nX nt np aO kind).length≤2*(nt+np+1):=by
 have:=sS nt np aO kind 0;have:=sS nt np aO kind 1;simp only [nX,List.length_append];omega
def qA (r:aA)(l:List ak):Fr:=[(2,aU r),(26, .arr 9 (l.map ak.row) 0 false)]
def qB (L:Nat)(l:List ak):GV:= .bc (L,26) 9 l.length 0 l.length
theorem M4 (r:aA)(aO hand:Int)(nt:Nat)(hnt:r.aa.length=nt)(hb:nt≤1000000)(Q:GX→bO→Prop): ∀(k i:Nat) (l:List ak) (x:Int),i+k=nt→l.length+k≤100000000→
  (∀y,Q (.exit 7) ⟨[(1, .pure (.int .i64 aO)),(2, .ay (H.length,2) 0),(5,qB H.length (l++ib aO hand k i)),(7, .pure (.int .i64 2)),(8, .pure (.int .i64 hand))],[(9,bW (bZ aO 2 hand y 0 0))]::[]::qA r (l++ib aO hand k i)::H,78⟩)→
  iB KC au 25 (lp Tryz.f25 3) [1,2,5,7,8,9,10] [1,2,5,7,8] Q
   [(1, .pure (.int .i64 aO)),(2, .ay (H.length,2) 0),(5,qB H.length l),(7, .pure (.int .i64 2)),(8, .pure (.int .i64 hand)),(9, .ay (H.length+2,9) 0),(10, .pure (.int .i64 i))]
   ([(9,bW (bZ aO 2 hand x 0 0))]::[]::qA r l::H) 78:=by
 intro k
 induction k with
 |zero=>
  intro i l x hi hl h1;have e0:ib aO hand 0 i=[]:=rfl;rw [e0,List.append_nil]at h1;have: ¬i<nt:=(by omega);apply ax;conv=>arg 4;whnf
  simp [qA,qB,aU,bW,bZ,hnt,this];simpa [qA,qB,aU,bW,bZ]using h1 x
 |succ k ih=>
  intro i l x hi hl h1;have hia:i<nt:=(by omega);have hw:=dp (x:=(i:Int)+1) (by omega) (by omega);rw [tC]at h1;have ih':=ih (i+1) (l++[bZ aO 2 hand i 0 0]) i (by omega) (by simp;omega);simp only [List.append_assoc,List.singleton_append]at ih';have hb2:(l.length+1)*72≤1099511627776:=(by omega);apply ax;conv=>arg 4;whnf
  simp [qA,qB,aU,bW,bZ,hnt,hia,hw,hb2];have:=ih' h1;simpa [qA,qB,aU,bW,bZ,ak.row]using this
theorem M5 (r:aA)(aO hand:Int)(np:Nat)(hnp:r.ah.length=np)(hb:np≤1000000)(Q:GX→bO→Prop): ∀(k i:Nat) (l:List ak) (x:Int),i+k=np→l.length+k≤100000000→l≠[]→
  (∀y,Q (.exit 9) ⟨[(1, .pure (.int .i64 aO)),(2, .ay (H.length,2) 0),(5,qB H.length (l++gy aO hand k i)),(7, .pure (.int .i64 4)),(8, .pure (.int .i64 hand))],[(9,bW (bZ aO 4 hand 0 0 y))]::[]::qA r (l++gy aO hand k i)::H,78⟩)→
  iB KC au 25 (lp Tryz.f25 4) [1,2,5,7,8,9,11] [1,2,5,7,8] Q
   [(1, .pure (.int .i64 aO)),(2, .ay (H.length,2) 0),(5,qB H.length l),(7, .pure (.int .i64 4)),(8, .pure (.int .i64 hand)),(9, .ay (H.length+2,9) 0),(11, .pure (.int .i64 i))]
   ([(9,bW (bZ aO 4 hand 0 0 x))]::[]::qA r l::H) 78:=by
 intro k
 induction k with
 |zero=>
  intro i l x hi hl hne h1;have e0:gy aO hand 0 i=[]:=rfl;rw [e0,List.append_nil]at h1;have: ¬i<np:=(by omega);apply ax;conv=>arg 4;whnf
  simp [qA,qB,aU,bW,bZ,hnp,this];simpa [qA,qB,aU,bW,bZ]using h1 x
 |succ k ih=>
  intro i l x hi hl hne h1;have hia:i<np:=(by omega);have hw:=dp (x:=(i:Int)+1) (by omega) (by omega);rw [oS]at h1;have hb2:(l.length+1)*72≤1099511627776:=(by omega);by_cases hwho:(i:Int)=aO
  ·rw [if_pos hwho]at h1;have ih':=ih (i+1) l i (by omega) (by omega) hne h1;apply ax;conv=>arg 4;whnf
   have hwho':((i:Int)==aO)=true:=(by simpa using hwho);simp [qA,qB,aU,bW,bZ,hnp,hia,hw,hb2,bne,hwho'];simpa [qA,qB,aU,bW,bZ,ak.row]using ih'
  ·rw [if_neg hwho]at h1;have ih':=ih (i+1) (l++[bZ aO 4 hand 0 0 i]) i (by omega) (by simp;omega) (by simp);simp only [List.append_assoc,List.singleton_append]at ih';have hwho':((i:Int)==aO)=false:=(by simpa using hwho);apply ax;conv=>arg 4;whnf
   simp [qA,qB,aU,bW,bZ,hnp,hia,hw,hb2,bne,hwho'];have:=ih' h1;simpa [qA,qB,aU,bW,bZ,ak.row]using this
theorem Ep (r:aA) (aO hand:Int) (kind:Nat) (hh:hand=0∨hand=1) (hk:2≤kind∧kind≤8) (nt np:Nat) (hnt:r.aa.length=nt) (hnp:r.ah.length=np) (hb1:nt≤1000000) (hb2:np≤1000000)
  (Q:GX→bO→Prop) (l:List ak) (hl:l.length≤50000000) (hne:l≠[])
  (h:iB KC au 25 (lp Tryz.f25 2) [1,2,5,7,8] [1,2,5,7] Q
   [(1, .pure (.int .i64 aO)),(2, .ay (H.length,2) 0),(5,qB H.length (l++ia nt np aO kind hand)),(7, .pure (.int .i64 kind)),(8, .pure (.int .i64 (hand+1)))] ([]::qA r (l++ia nt np aO kind hand)::H) 78):
  iB KC au 25 (lp Tryz.f25 2) [1,2,5,7,8] [1,2,5,7] Q
   [(1, .pure (.int .i64 aO)),(2, .ay (H.length,2) 0),(5,qB H.length l),(7, .pure (.int .i64 kind)),(8, .pure (.int .i64 hand))] ([]::qA r l::H) 78:=by
 have hw:=dp (x:=hand+1) (by omega) (by omega);have hlt:hand<2:=(by omega);have hb3:(l.length+1)*72≤1099511627776:=(by omega);have w2:IntKind.i64.wrap 2=2:=rfl;apply ax;conv=>arg 4;whnf
 by_cases k2:kind=2
 ·subst k2;have e:ia nt np aO 2 hand=ib aO hand nt 0:=(by simp [ia]);rw [e]at h;have L:=fun Q h=>M4 (H:=H) r aO hand nt hnt hb1 Q nt 0 l 0 (by omega) (by omega) h;simp [qA,qB,aU,bW,bZ]at L h;simp [qA,qB,aU,hlt];refine L _ fun y=> ?_;simp [hw];exact h
 ·by_cases k4:kind=4
  ·subst k4;have e:ia nt np aO 4 hand=gy aO hand np 0:=(by simp [ia]);rw [e]at h;have L:=fun Q h=>M5 (H:=H) r aO hand np hnp hb2 Q np 0 l 0 (by omega) (by omega) hne h;simp [qA,qB,aU,bW,bZ]at L h;simp [qA,qB,aU,hlt];refine L _ fun y=> ?_;simp [hw];exact h
  ·have e:ia nt np aO kind hand=[bZ aO kind hand 0 0 0]:=(by simp [ia,k2,k4]);rw [e]at h;have k2':((kind:Int)==2)=false:=(by simp;omega);have k4':((kind:Int)==4)=false:=(by simp;omega);simp [qA,qB,aU,bZ,ak.row]at h;simp [qA,qB,aU,hlt,k2',k4',hb3,hw];exact h
theorem M6 (r:aA) (aO:Int) (kind:Nat) (hk:2≤kind∧kind≤8) (nt np:Nat) (hnt:r.aa.length=nt) (hnp:r.ah.length=np) (hb1:nt≤1000000) (hb2:np≤1000000)
  (Q:GX→bO→Prop) (l:List ak) (hl:l.length≤40000000) (hne:l≠[])
  (h:Q (.exit 4) ⟨[(1, .pure (.int .i64 aO)),(2, .ay (H.length,2) 0),(5,qB H.length (l++nX nt np aO kind)),(7, .pure (.int .i64 kind))],[]::qA r (l++nX nt np aO kind)::H,78⟩):
  iB KC au 25 (lp Tryz.f25 2) [1,2,5,7,8] [1,2,5,7] Q
   [(1, .pure (.int .i64 aO)),(2, .ay (H.length,2) 0),(5,qB H.length l),(7, .pure (.int .i64 kind)),(8, .pure (.int .i64 0))] ([]::qA r l::H) 78:=by
 have l0:=sS nt np aO kind 0;refine Ep r aO 0 kind (.inl rfl) hk nt np hnt hnp hb1 hb2 Q l (by omega) hne ?_;refine Ep r aO 1 kind (.inr rfl) hk nt np hnt hnp hb1 hb2 Q _ (by simp;omega) (by simp [hne]) ?_;rw [nX,←List.append_assoc]at h;apply ax;conv=>arg 4;whnf
 simp [qA,qB]at h⊢;exact h
theorem M7 (r:aA) (aO:Int) (nt np:Nat) (hnt:r.aa.length=nt) (hnp:r.ah.length=np) (hb1:nt≤1000000) (hb2:np≤1000000)
  (Q:GX→bO→Prop): ∀(k i:Nat) (l:List ak),i+k=9→2≤i→l.length+5000000*k≤39000000→l≠[]→
  Q (.exit 2) ⟨[(5,qB H.length (l++fy nt np aO k i))],qA r (l++fy nt np aO k i)::H,78⟩→
  iB KC au 25 (lp Tryz.f25 1) [1,2,5,7] [5] Q
   [(1, .pure (.int .i64 aO)),(2, .ay (H.length,2) 0),(5,qB H.length l),(7, .pure (.int .i64 i))] (qA r l::H) 78:=by
 intro k
 induction k with
 |zero=>
  intro i l hi h2 hl hne h1;have e0:fy nt np aO 0 i=[]:=rfl;rw [e0,List.append_nil]at h1;have:i=9:=(by omega);subst this;apply ax;conv=>arg 4;whnf
  simp [qA,qB]at h1⊢;exact h1
 |succ k ih=>
  intro i l hi h2 hl hne h1;have hw:=dp (x:=(i:Int)+1) (by omega) (by omega);have hle:(i:Int)≤8:=(by omega);rw [ov,←List.append_assoc]at h1;have lb:=xM nt np aO i;have ih':=ih (i+1) (l++nX nt np aO i) (by omega) (by omega) (by simp;omega) (by simp [hne]) h1;apply ax;conv=>arg 4;whnf
  have L:=fun Q h=>M6 (H:=H) r aO i (by omega) nt np hnt hnp hb1 hb2 Q l (by omega) hne h;simp [qA,qB]at L ih';simp [qA,qB,hle];refine L _ ?_;simp [hw];exact ih'
theorem M8 (r:aA)(aO:Int)(n:Nat)(hn:IntKind.i64.wrap (r.wide*r.deep)=n)(hb:n≤1000000)(Q:GX→bO→Prop): ∀(k i:Nat) (l:List ak),i+k=n→l.length+k≤1000000→
  Q (.exit 0) ⟨[(1, .pure (.int .i64 aO)),(2, .ay (H.length,2) 0),(5,cY (H.length,26) 9 ((l++gJ aO k i).map ak.row))],eG 26 9 ((l++gJ aO k i).map ak.row) [(2,aU r)]::H,78⟩→
  iB KC au 25 (lp Tryz.f25 0) [1,2,5,6] [1,2,5] Q
   [(1, .pure (.int .i64 aO)),(2, .ay (H.length,2) 0),(5,cY (H.length,26) 9 (l.map ak.row)),(6, .pure (.int .i64 i))] (eG 26 9 (l.map ak.row) [(2,aU r)]::H) 78:=by
 intro k
 induction k with
 |zero=>
  intro i l hi hl h1;have e0:gJ aO 0 i=[]:=rfl;rw [e0,List.append_nil]at h1;have: ¬i<n:=(by omega);apply ax;conv=>arg 4;whnf
  simp [aU,hn,this];simpa [aU]using h1
 |succ k ih=>
  intro i l hi hl h1;have hia:i<n:=(by omega);have hw:=dp (x:=(i:Int)+1) (by omega) (by omega);rw [qz]at h1;have ih':=ih (i+1) (l++[bZ aO 1 0 0 i 0]) (by omega) (by simp;omega);simp only [List.append_assoc,List.singleton_append]at ih';have hb2:(l.length+1)*72≤1099511627776:=(by omega);apply ax;conv=>arg 4;whnf
  simp [aU,hn,hia,hw,hb2,Fr.get];have:=ih' h1;simpa [aU,bZ,ak.row]using this
theorem Ih (r:aA)(aO:Int)(n nt np:Nat)(hn:IntKind.i64.wrap (r.wide*r.deep)=n)(hn0:0<n)(hb:n≤1000000)(hnt:r.aa.length=nt)(hnp:r.ah.length=np)(hb1:nt≤1000000)(hb2:np≤1000000)(hH:0<H.length):
  aL KC (aE KC) 25 [.pure (.agg r.row), .pure (.int .i64 aO)] c H=some (.pure (.slice ((bL n nt np aO).map ak.row)),H):=by
 refine aM ?_;rw [show aL KC (aE KC) 25 [.pure (.agg r.row), .pure (.int .i64 aO)] c H=bI KC (aE KC) 25 [.pure (.agg r.row), .pure (.int .i64 aO)] c H from tD KC rfl rfl rfl]
 refine aK KC au Tryz.func25 rfl rfl SD (by simp) hH ?_;rw [eE];simp;have L:=fun Q h=>M8 (H:=H) r aO n hn hb Q n 0 [] (by omega) (by simp;omega) h;simp [fI,fJ,aU]at L;refine L _ ?_;have hne:gJ aO n 0≠[]:=by
  obtain⟨m,rfl⟩: ∃m,n=m+1:=⟨n-1,by omega⟩;rw [qz];simp
 have hlen:(gJ aO n 0).length=n:=(by simp [gJ]);have L2:=fun Q h=>M7 (H:=H) r aO nt np hnt hnp hb1 hb2 Q 7 2 (gJ aO n 0) rfl (by omega) (by omega) hne h;simp [qA,qB,aU]at L2;simp [cY,eG,hne,Fr.ins];refine L2 _ ?_;have e:bL n nt np aO=gJ aO n 0++fy nt np aO 7 2:=rfl;have hnl: ¬H.length≤H.length-1:=(by omega);have t1:List.take ((gJ aO n 0).length+(fy nt np aO 7 2).length) (List.map ak.row (gJ aO n 0)++List.map ak.row (fy nt np aO 7 2))=List.map ak.row (gJ aO n 0)++List.map ak.row (fy nt np aO 7 2):=List.take_of_length_le (by simp);simp [ae,e,hne,hnl,t1]
end
section
variable {c:Nat} {H:aj}
structure E9 (r:aA)(s:aw):Prop where
 pl:s.ah.length=r.ah.length
 hl:s.aq.length=r.ah.length
 tl:s.aa.length=r.aa.length
 hr: ∀i (h:i<s.aq.length),s.aq[i].l<s.aa.length∧s.aq[i].r<s.aa.length∧ -1≤s.aq[i].l∧ -1≤s.aq[i].r
structure ZN (np nt w:Nat)(a:ak):Prop where
 aO:a.aO=w
 hand:a.hand=0∨a.hand=1
 bf:a.kind=2→ ∃t:Nat,a.bf=t∧t<nt
 other:a.kind=4→ ∃o:Nat,a.other=o∧o<np
theorem Fs {n nt np w:Nat}{a:ak}(h:a∈bL n nt np w):ZN np nt w a:=by
 have one: ∀hand kind:Nat,(hand=0∨hand=1)→a∈ia nt np w kind hand→ZN np nt w a:=fun hand kind hh ha=>by
  have hh':(hand:Int)=0∨(hand:Int)=1:=(by omega);unfold ia at ha;split at ha
  ·simp only [ib,List.mem_map,List.mem_range']at ha;obtain⟨x,⟨i,hi,rfl⟩,rfl⟩:=ha;exact⟨rfl,hh',fun _=>⟨_,rfl,by omega⟩,fun h=>by simp [bZ]at h⟩
  ·split at ha
   ·simp only [gy,List.mem_map,List.mem_filter,List.mem_range']at ha;obtain⟨x,⟨⟨i,hi,rfl⟩,_⟩,rfl⟩:=ha;exact⟨rfl,hh',fun h=>by simp [bZ]at h,fun _=>⟨_,rfl,by omega⟩⟩
   ·rename_i k2 k4;simp only [List.mem_singleton]at ha;subst ha;exact⟨rfl,hh',fun h=>by simp [bZ]at h;omega,fun h=>by simp [bZ]at h;omega⟩
 simp only [bL,List.mem_append]at h;rcases h with h|h
 ·simp only [gJ,List.mem_map,List.mem_range']at h;obtain⟨x,⟨i,hi,rfl⟩,rfl⟩:=h;exact⟨rfl, .inl rfl,fun h=>by simp [bZ]at h,fun h=>by simp [bZ]at h⟩
 ·simp only [fy,List.mem_flatMap,nX,List.mem_append]at h;obtain⟨k,_,h|h⟩:=h
  ·exact one 0 k (.inl rfl) h
  ·exact one 1 k (.inr rfl) h
theorem vF (n nt np:Nat)(aO:Int):(bL n nt np aO).length≤n+14*(nt+np+1):=by
 have h: ∀k i,(fy nt np aO k i).length≤k*(2*(nt+np+1)):=by
  intro k
  induction k with
  |zero=>intro i;simp [fy]
  |succ k ih=>
   intro i;rw [ov,List.length_append,Nat.add_mul];have:=xM nt np aO i;have:=ih (i+1);omega
 have:=h 7 2;simp only [bL,List.length_append,gJ,List.length_map,List.length_range'];omega
theorem A7 {r:aA}{s:aw}{w:Nat}{a:ak}(hs:E9 r s)(hw:w<r.ah.length)(hpl:r.ah.length≤1000000)(hwide:r.wide≠0)(ha:ZN r.ah.length r.aa.length w a)(hH:0<H.length):
  bI KC (aE KC) 84 [.pure (.agg r.row), .pure (.agg s.row), .pure (.agg a.row)] c H=some (.pure (.bool (b7 r s w a)),H):=by
 obtain⟨q1,aO,kind,hand,bf,cell,other,q3,q4⟩:=a;obtain⟨h1,h2,h3,h4⟩:=ha;simp only at h1 h2 h3 h4;subst h1;have e1:=hs.pl;have e2:=hs.hl;have e3:=hs.tl;rcases h2 with rfl|rfl
 ·exact zi (by omega) (by omega) (by omega) (by omega) hwide (fun h=>hs.hr w h) e3 (fun h=>by obtain⟨t,a,b⟩:=h3 h;exact⟨t,a,by omega⟩) (fun h=>by obtain⟨t,a,b⟩:=h4 h;exact⟨t,a,by omega,by omega⟩) hH
 ·exact zj (by omega) (by omega) (by omega) (by omega) hwide (fun h=>hs.hr w h) e3 (fun h=>by obtain⟨t,a,b⟩:=h3 h;exact⟨t,a,by omega⟩) (fun h=>by obtain⟨t,a,b⟩:=h4 h;exact⟨t,a,by omega,by omega⟩) hH
theorem zk {r:aA}{s:aw}{w:Nat}{a:ak}(hs:E9 r s)(hw:w<r.ah.length)(hpl:r.ah.length≤1000000)(hwide:r.wide≠0)(ha:ZN r.ah.length r.aa.length w a)(hH:0<H.length):
  aL KC (aE KC) 84 [.pure (.agg r.row), .pure (.agg s.row), .pure (.agg a.row)] c H=some (.pure (.bool (b7 r s w a)),H):=eJ rfl rfl rfl rfl rfl hH fun H hH=>A7 hs hw hpl hwide ha hH
noncomputable def eZ:aA→aw→Nat→List ak→List ak:=nO fun r s w l=>l.flatMap fun a=>if b7 r s w a=true then (if a.kind=1 then [a]else [a,a,a])else []
theorem qC (r:aA)(s:aw)(w:Nat)(l:List ak):eZ r s w l=l.flatMap fun a=>if b7 r s w a=true then (if a.kind=1 then [a]else [a,a,a])else []:=by rw [eZ,cP]
theorem vG (r:aA)(s:aw)(w:Nat):eZ r s w []=[]:=by rw [qC];rfl
theorem tE (r:aA)(s:aw)(w:Nat)(a:ak)(l:List ak):eZ r s w (a::l)=(if b7 r s w a=true then (if a.kind=1 then [a]else [a,a,a])else [])++eZ r s w l:=by simp only [qC,List.flatMap_cons]
theorem CU {r:aA}{s:aw}{w:Nat}{a:ak}{l:List ak}(h:a∈eZ r s w l):a∈l∧b7 r s w a=true:=by
 rw [qC,List.mem_flatMap]at h;obtain⟨x,hx,h⟩:=h;split at h
 ·rename_i hp;split at h
  ·simp at h;subst h;exact⟨hx,hp⟩
  ·simp at h;subst h;exact⟨hx,hp⟩
 ·simp at h
theorem qD (r:aA)(s:aw)(w:Nat): ∀l:List ak,(eZ r s w l).length≤3*l.length
 | []=>by simp [vG]
 |a::l=>by
  have:=qD r s w l;rw [tE,List.length_append,List.length_cons];split
  ·split<;>simp<;>omega
  ·simp;omega
theorem T7 {key cZ es:Nat}{rows:List (List PV)}{fr f0:Fr}{l bytes:Nat}{r r1 r2:List PV}(hl:H.length=l)(hf:fr.get key=none)(hb:(rows.length+1+2)*bytes≤1099511627776):
  yH l cZ (cY (l,key) es (rows++[r])) es bytes [r1,r2] (f0::eG key es (rows++[r]) fr::H)=some (cY (l,key) es (rows++[r,r1,r2]),f0::eG key es (rows++[r,r1,r2]) fr::H):=by
 subst hl;simp [cY,eG,hb,Fr.bJ,Fr.iq]
def ni (r:aA)(s:aw):Fr:=[(5,aU r),(6,fY s),(8,bW cg)]
theorem CV (r:aA)(s:aw)(w:Nat)(hs:E9 r s)(hw:w<r.ah.length)(hpl:r.ah.length≤1000000)(hwide:r.wide≠0)(all:List ak)(hall: ∀a∈all,ZN r.ah.length r.aa.length w a)(hal:all.length≤30000000)(nm:Nm)(hnm:nm.1<H.length)(Q:GX→bO→Prop):
  ∀(k i:Nat) (l:List ak),i+k=all.length→l.length≤3*i→
  Q (.exit 0) ⟨[(0, .ay nm 0),(8, .ay (H.length,8) 0),(10,cY (H.length,35) 9 ((l++eZ r s w (all.drop i)).map ak.row))],eG 35 9 ((l++eZ r s w (all.drop i)).map ak.row) (ni r s)::H,64⟩→
  iB KC au 49 (lp Tryz.f49 0) [0,5,6,8,10,11,12] [0,8,10] Q
   [(0, .ay nm 0),(5, .ay (H.length,5) 0),(6, .ay (H.length,6) 0),(8, .ay (H.length,8) 0),(10,cY (H.length,35) 9 (l.map ak.row)),(11, .pure (.slice (all.map ak.row))),(12, .pure (.int .i64 i))]
   (eG 35 9 (l.map ak.row) (ni r s)::H) 64:=by
 have hle:nm.1≤H.length:=(by omega);intro k
 induction k with
 |zero=>
  intro i l hi hl h1;have e1:all.drop i=[]:=List.drop_of_length_le (by omega);rw [e1,vG,List.append_nil]at h1;have: ¬i<all.length:=(by omega);apply ax;conv=>arg 4;whnf
  simp [this,hle];exact h1
 |succ k ih=>
  intro i l hi hl h1;have hia:i<all.length:=(by omega);have hw1:=dp (x:=(i:Int)+1) (by omega) (by omega);have hev:=hall all[i] (List.getElem_mem hia);have P:=fun(c:Nat) (H:aj) (hH:0<H.length)=>zk (c:=c) (H:=H) hs hw hpl hwide hev hH;simp only [eE,aw.row,ak.row]at P;rw [List.drop_eq_getElem_cons hia,tE,←List.append_assoc]at h1;apply ax;conv=>arg 4;whnf
  cases hp:b7 r s w all[i]with
  |false=>
   simp only [hp,Bool.false_eq_true,if_false,List.append_nil]at h1;have ih':=ih (i+1) l (by omega) (by omega) h1;simp [ni,aU,fY,bW,hia,ak.row,P,hp,hw1,hle,Fr.get];simpa [ni,aU,fY,bW,ak.row]using ih'
  |true=>
   have hb:(l.length+1)*72≤1099511627776:=(by omega);have hl4:l.length+3≤90000003:=(by omega);have hb2:(l.length+1+2)*72≤1099511627776:=Nat.le_trans (Nat.mul_le_mul_right 72 (show l.length+1+2≤90000003 from hl4)) (by decide)
   have hi1:(i+1)+k=all.length:=(by omega);have hl1:(l++[all[i]]).length≤3*(i+1):=(by simp;omega);have hl3:(l++[all[i],all[i],all[i]]).length≤3*(i+1):=(by simp;omega);by_cases hk:all[i].kind=1
   ·simp only [hp,hk,if_true]at h1;have ih':=ih (i+1) (l++[all[i]]) hi1 hl1 h1;have hk':(all[i].kind==1)=true:=(by simpa using hk);simp [ni,aU,fY,bW,hia,ak.row,P,hp,hw1,hle,hb,bne,hk',Fr.get];simpa [ni,aU,fY,bW,ak.row]using ih'
   ·have hk':(all[i].kind==1)=false:=(by simpa using hk);simp only [hp,hk,if_true,if_false]at h1;have ih':=ih (i+1) (l++[all[i],all[i],all[i]]) hi1 hl3 h1;simp [ni,aU,fY,bW,hia,ak.row,P,hp,hw1,hle,hb,bne,hk',Fr.get,T7,hb2];simpa [ni,aU,fY,bW,ak.row]using ih'
noncomputable def gd:aA→aw→Nat→List ak→Int→(ak×Bool)×Int:=nO fun r s w all wd=>
 if eZ r s w all=[]then ((cg,false),wd)else (((eZ r s w all).getD (lA wd (eZ r s w all).length).1.toNat cg,true),(lA wd (eZ r s w all).length).2)
theorem vH (r:aA)(s:aw)(w:Nat)(all:List ak)(wd:Int):gd r s w all wd=
 if eZ r s w all=[]then ((cg,false),wd)else (((eZ r s w all).getD (lA wd (eZ r s w all).length).1.toNat cg,true),(lA wd (eZ r s w all).length).2):=by rw [gd,cP]
theorem HW (r:aA)(s:aw)(w n:Nat)(hs:E9 r s)(hw:w<r.ah.length)(hpl:r.ah.length≤1000000)(htl:r.aa.length≤1000000)(hwide:r.wide≠0)(hn:IntKind.i64.wrap (r.wide*r.deep)=n)(hn0:0<n)(hnb:n≤1000000){nm:Nm}(hB:fU H nm):
  bI KC (aE KC) 49 [.ay nm 0, .pure (.agg r.row), .pure (.agg s.row), .pure (.int .i64 w)] c H=
   some (.pure (.tuple [.agg (gd r s w (bL n r.aa.length r.ah.length w) (bD H nm)).1.1.row, .bool (gd r s w (bL n r.aa.length r.ah.length w) (bD H nm)).1.2]),H.set nm (bw (gd r s w (bL n r.aa.length r.ah.length w) (bD H nm)).2)):=by
 have hlt:=gz hB;have hset:=jI hB;have hne: ¬nm.1=H.length:=(by omega);have hle:nm.1≤H.length:=(by omega);refine aM (aK KC au Tryz.func49 rfl rfl SU (by simp) (by omega) ?_);have E:=fun c (H:aj) (hH:0<H.length)=>Ih (c:=c) (H:=H) r w n r.aa.length r.ah.length hn hn0 hnb rfl rfl htl hpl hH;have el:=vF n r.aa.length r.ah.length (w:Int);have L:=fun Q h=>CV (H:=H) r s w hs hw hpl hwide (bL n r.aa.length r.ah.length w) (fun a ha=>Fs ha) (by omega) nm hlt Q _ 0 [] (Nat.zero_add _) (by simp) h;have hd:=vH r s w (bL n r.aa.length r.ah.length w) (bD H nm);have ml:=qD r s w (bL n r.aa.length r.ah.length w);rw [eE]at E⊢;simp only [aw.row];simp [fI,fJ,ni,aU,fY,bW,cg]at L;simp [E];refine L _ ?_;generalize eZ r s w (bL n r.aa.length r.ah.length w)=l at*;generalize gd r s w (bL n r.aa.length r.ah.length w) (bD H nm)=res at*;by_cases hl:l=[]
 ·subst hl;simp at hd;subst hd;simp [fI,fJ,ae,ak.row,cg,hset]
 ·rw [if_neg hl]at hd;have hl0:0<l.length:=List.length_pos_iff.2 hl;have hll:(l.length:Int)≤9223372036854775807:=(by omega);have hr:=kB (bD H nm) l.length hll;have h3: ¬(lA (bD H nm) l.length).1<0:=(by omega);have h4:(lA (bD H nm) l.length).1.toNat<l.length:=(by have:=hr;omega);have h5:(lA (bD H nm) l.length).1<(l.length:Int):=(by have:=hr;omega);have hl2:((l.length:Int)==0)=false:=beq_eq_false_iff_ne.2 (by omega);have hgd:l.getD (lA (bD H nm) l.length).1.toNat cg=l[(lA (bD H nm) l.length).1.toNat]:=(by simp [List.getD_eq_getElem?_getD,h4]);rw [hgd]at hd;subst hd;have hB': ∀fr,fU (fr::H) nm:=fun fr=>dU hB;simp [cY,eG,hl,hl2,kV,hB',hll,dx,hlt,hne,aj.dF,h3,h4,h5,ae,ak.row,Fr.ins]
end
section
variable {c:Nat} {H:aj}
def empty:aG:=⟨-1,-1⟩
def eY (t:aZ):bC:=⟨t.cell,t.state⟩
def aJ (r:aA):aw:=⟨r.ah.map (·.cell),r.ah.map fun _=>empty,r.aa.map eY⟩
def T8 (r:aA)(L:Nat)(p:List Int)(h:List aG):Fr:=
 [(1,aU r),(2, .box [.aW, .aW, .aW]),(3, .box [.bc (L,22) 1 p.length 0 p.length, .bc (L,27) 2 h.length 0 h.length, .aW]),(22, .arr 1 (p.map aF) 0 false),(27, .arr 2 (h.map aG.row) 0 false)]
def T9 (r:aA)(L:Nat)(p:List Int)(h:List aG)(t:List bC):Fr:=
 [(1,aU r),(2, .box [.aW, .aW, .aW]),(3, .box [.bc (L,22) 1 p.length 0 p.length, .bc (L,27) 2 h.length 0 h.length, .bc (L,53) 2 t.length 0 t.length]),(22, .arr 1 (p.map aF) 0 false),(27, .arr 2 (h.map aG.row) 0 false),(53, .arr 2 (t.map bC.row) 0 false)]
theorem A8 (r:aA)(hpl:r.ah.length≤1000000)(Q:GX→bO→Prop): ∀(k i:Nat) (p:List Int) (h:List aG),i+k=r.ah.length→p.length=i→h.length=i→0<i→
  Q (.exit 0) ⟨[(1, .ay (H.length,1) 0),(2, .ay (H.length,2) 0),(3, .ay (H.length,3) 0)],T8 r H.length (p++(r.ah.drop i).map (·.cell)) (h++(r.ah.drop i).map fun _=>empty)::H,56⟩→
  iB KC au 48 (lp Tryz.f48 0) [1,2,3,4] [1,2,3] Q
   [(1, .ay (H.length,1) 0),(2, .ay (H.length,2) 0),(3, .ay (H.length,3) 0),(4, .pure (.int .i64 i))] (T8 r H.length p h::H) 56:=by
 intro k
 induction k with
 |zero=>
  intro i p h hi h1 h2 h3 hq;have e1:r.ah.drop i=[]:=List.drop_of_length_le (by omega);rw [e1]at hq;have: ¬i<r.ah.length:=(by omega);apply ax;conv=>arg 4;whnf
  simp [T8,aU,this];simpa [T8,aU]using hq
 |succ k ih=>
  intro i p h hi h1 h2 h3 hq;have hia:i<r.ah.length:=(by omega);have hw:=dp (x:=(i:Int)+1) (by omega) (by omega);rw [List.drop_eq_getElem_cons hia]at hq;have hb1:(i+1)*8≤1099511627776:=(by omega);have hb2:(i+1)*16≤1099511627776:=(by omega);have ih':=ih (i+1) (p++[r.ah[i].cell]) (h++[empty]) (by omega) (by simp [h1]) (by simp [h2]) (by omega);simp only [List.append_assoc,List.singleton_append,List.map_cons]at ih' hq;apply ax;conv=>arg 4;whnf
  simp [T8,aU,hia,hw,aS.row,h1,h2,hb1,hb2];have:=ih' hq;simpa [T8,aU,aF,aG.row,empty,h1,h2,aS.row]using this
theorem A9 (r:aA)(htl:r.aa.length≤1000000)(p:List Int)(h:List aG)(Q:GX→bO→Prop): ∀(k i:Nat) (t:List bC),i+k=r.aa.length→t.length=i→0<i→
  Q (.exit 2) ⟨[(2, .ay (H.length,2) 0),(3, .ay (H.length,3) 0)],T9 r H.length p h (t++(r.aa.drop i).map eY)::H,56⟩→
  iB KC au 48 (lp Tryz.f48 1) [1,2,3,5] [2,3] Q
   [(1, .ay (H.length,1) 0),(2, .ay (H.length,2) 0),(3, .ay (H.length,3) 0),(5, .pure (.int .i64 i))] (T9 r H.length p h t::H) 56:=by
 intro k
 induction k with
 |zero=>
  intro i t hi h1 h3 hq;have e1:r.aa.drop i=[]:=List.drop_of_length_le (by omega);rw [e1]at hq;have: ¬i<r.aa.length:=(by omega);apply ax;conv=>arg 4;whnf
  simp [T9,aU,this];simpa [T9,aU]using hq
 |succ k ih=>
  intro i t hi h1 h3 hq;have hia:i<r.aa.length:=(by omega);have hw:=dp (x:=(i:Int)+1) (by omega) (by omega);rw [List.drop_eq_getElem_cons hia]at hq;have hb2:(i+1)*16≤1099511627776:=(by omega);have ih':=ih (i+1) (t++[eY r.aa[i]]) (by omega) (by simp [h1]) (by omega);simp only [List.append_assoc,List.singleton_append,List.map_cons]at ih' hq;apply ax;conv=>arg 4;whnf
  simp [T9,aU,hia,hw,aZ.row,h1,hb2];have:=ih' hq;simpa [T9,aU,aF,bC.row,eY,h1,aZ.row]using this
def TQ (L k1 k2 k3:Nat)(s:aw):GV:= .agg [.bc (L,k1) 1 s.ah.length 0 s.ah.length, .bc (L,k2) 2 s.aq.length 0 s.aq.length, .bc (L,k3) 2 s.aa.length 0 s.aa.length]
theorem vI {α β:Type}(f:α→β)(l:List α)(h:0<l.length):f l[0]::(l.drop 1).map f=l.map f:=by
 cases l with
 |nil=>simp at h
 |cons a t=>rfl
theorem Fb (r:aA) (hp0:r.ah≠[]) (ht0:r.aa≠[]) (hpl:r.ah.length≤1000000) (htl:r.aa.length≤1000000) (hH:0<H.length)
  (hf1:H.get (H.length-1,ao c 22)=none) (hf2:H.get (H.length-1,ao c 27)=none) (hf3:H.get (H.length-1,ao c 53)=none):
  bI KC (aE KC) 48 [.pure (.agg r.row)] c H=some (TQ (H.length-1) (ao c 22) (ao c 27) (ao c 53) (aJ r),
   ((H.set (H.length-1,ao c 22) (.arr 1 ((aJ r).ah.map aF) 0 false)).set (H.length-1,ao c 27) (.arr 2 ((aJ r).aq.map aG.row) 0 false)).set (H.length-1,ao c 53) (.arr 2 ((aJ r).aa.map bC.row) 0 false)):=by
 refine aM (aK KC au Tryz.func48 rfl rfl SR (by simp) hH ?_);rw [eE];have lp0:0<r.ah.length:=List.length_pos_iff.2 hp0;have lt0:0<r.aa.length:=List.length_pos_iff.2 ht0;have nV:ao c 22≠ao c 27:=(by unfold ao;omega);have m9:ao c 22≠ao c 53:=(by unfold ao;omega);have lM:ao c 27≠ao c 53:=(by unfold ao;omega);have L1:=fun Q=>A8 (H:=H) r hpl Q (r.ah.length-1) 1 [r.ah[0].cell] [empty] (by omega) rfl rfl (by omega);have L2:=fun p h Q=>A9 (H:=H) r htl p h Q (r.aa.length-1) 1 [eY r.aa[0]] (by omega) rfl (by omega);have ep:r.ah[0].cell::(r.ah.drop 1).map (fun p=>p.cell)=r.ah.map (fun p=>p.cell):=vI (fun p:aS=>p.cell) r.ah lp0;have eh:empty::((r.ah.drop 1).map fun _=>empty)=r.ah.map fun _=>empty:=vI (fun _:aS=>empty) r.ah lp0;have et:eY r.aa[0]::(r.aa.drop 1).map eY=r.aa.map eY:=vI eY r.aa lt0;simp only [List.singleton_append,ep,eh,et]at L1 L2;simp [T8,aU,aF,aG.row,empty]at L1;simp;apply ax;conv=>arg 4;whnf
 simp [lp0,aS.row];refine L1 _ ?_;clear L1;have L3:=L2 (r.ah.map (·.cell)) (r.ah.map fun _=>empty);simp [T9,aU,aF,aG.row,empty,bC.row,eY]at L3;simp;apply ax;conv=>arg 4;whnf
 simp [lt0,aZ.row];refine L3 _ ?_;have k1:(H.length-1,ao c 27)≠((H.length-1,ao c 22):Nm):=fun e=>nV (Prod.mk.inj e).2.symm;have k2:(H.length-1,ao c 53)≠((H.length-1,ao c 22):Nm):=fun e=>m9 (Prod.mk.inj e).2.symm;have k3:(H.length-1,ao c 53)≠((H.length-1,ao c 27):Nm):=fun e=>lM (Prod.mk.inj e).2.symm;have g2: ∀b,(H.set (H.length-1,ao c 22) b).get (H.length-1,ao c 27)=none:=fun b=>(aj.aH b k1).trans hf2;have g3: ∀b b',((H.set (H.length-1,ao c 22) b).set (H.length-1,ao c 27) b').get (H.length-1,ao c 53)=none:=fun b b'=>(aj.aH b' k3).trans ((aj.aH b k2).trans hf3);simp [bU,refs,dM,c9,cz,dq,dr,dedup,cJ,cf,tr,hf1,g2,g3,ux,jY,gY,TQ,aJ,cW,bm,aF,aG.row,empty,bC.row,eY]
end
section
variable {c:Nat} {H:aj}
structure mD (H:aj)(n1 n2 n3:Nm)(v1 v2 v3:Nat)(s:aw):Prop where
 nV:n1≠n2
 m9:n1≠n3
 lM:n2≠n3
 g1:H.get n1=some (.arr 1 (s.ah.map aF) v1 false)
 g2:H.get n2=some (.arr 2 (s.aq.map aG.row) v2 false)
 g3:H.get n3=some (.arr 2 (s.aa.map bC.row) v3 false)
 e1:v1≤s.ah.length
 e2:v2≤s.aq.length
 e3:v3≤s.aa.length
def lC (n1 n2 n3:Nm)(s:aw):GV:= .agg [.bc n1 1 s.ah.length 0 s.ah.length, .bc n2 2 s.aq.length 0 s.aq.length, .bc n3 2 s.aa.length 0 s.aa.length]
theorem Ua {nm:Nm}{es v n:Nat}{rows:List (List PV)}{ro:Bool}(h:H.get nm=some (.arr es rows v ro))(hn:rows.length=n)(hv:v≤n):
  dH H (.bc nm es n 0 n)=(.slice rows,H.set nm (.arr es rows v true)):=by
 subst hn;simp [h,hv]
theorem CW {n1 n2 n3:Nm}{v1 v2 v3:Nat}{s:aw}(h:mD H n1 n2 n3 v1 v2 v3 s):(dy H (lC n1 n2 n3 s)).1= .pure (.agg s.row):=by
 have a1:(H.set n1 (.arr 1 (s.ah.map aF) v1 true)).get n2=some (.arr 2 (s.aq.map aG.row) v2 false):=(by rw [aj.aH _ h.nV.symm];exact h.g2);have a2:((H.set n1 (.arr 1 (s.ah.map aF) v1 true)).set n2 (.arr 2 (s.aq.map aG.row) v2 true)).get n3=some (.arr 2 (s.aa.map bC.row) v3 false):=by
  rw [aj.aH _ h.lM.symm,aj.aH _ h.m9.symm];exact h.g3
 simp only [lC,dy,gA,dY,Ua h.g1 (by simp) h.e1,Ua a1 (by simp) h.e2,Ua a2 (by simp) h.e3,aw.row];simp
theorem M9 {n1 n2 n3:Nm}{v1 v2 v3:Nat}{s:aw}(h:mD H n1 n2 n3 v1 v2 v3 s){t st:Int}(ht:t<s.aa.length)(hst:st≠0)(hH:0<H.length):
  aL KC (aE KC) 121 [lC n1 n2 n3 s, .pure (.int .i64 t), .pure (.int .i64 st)] c H=some (.pure (.bool (eT s.aa t st)),H):=by
 refine gX KC rfl rfl (args':=[.pure (.agg s.row), .pure (.int .i64 t), .pure (.int .i64 st)]) ?_ rfl hH (fun H hH=>Eo (c:=c) ht hst hH) rfl;simp only [bs,CW h,oT];rfl
noncomputable def dw:List bC→Nat→Int→Bool→List bC:=nO fun ts t bit on=>
 if eT ts t bit=on then ts else ts.set t ⟨(ts.getD t aR).cell,if on then IntKind.i64.wrap ((ts.getD t aR).state+bit)else IntKind.i64.wrap ((ts.getD t aR).state-bit)⟩
theorem jq (ts:List bC)(t:Nat)(bit:Int)(on:Bool):dw ts t bit on=if eT ts t bit=on then ts else ts.set t ⟨(ts.getD t aR).cell,if on then IntKind.i64.wrap ((ts.getD t aR).state+bit)else IntKind.i64.wrap ((ts.getD t aR).state-bit)⟩:=by rw [dw,cP]
theorem dJ (ts:List bC)(t:Nat)(bit:Int)(on:Bool):(dw ts t bit on).length=ts.length:=by
 rw [jq];split<;>simp
theorem Ub {n1 n2 n3:Nm}{v1 v2 v3:Nat}{s:aw}(h:mD H n1 n2 n3 v1 v2 v3 s){t:Nat}{bit:Int}{on:Bool}(ht:t<s.aa.length)(hst:bit≠0)(hH:0<H.length):
  aL KC (aE KC) 86 [lC n1 n2 n3 s, .pure (.int .i64 t), .pure (.int .i64 bit), .pure (.bool on)] c H=
   some (.pure (.tuple []),if eT s.aa t bit=on then H else H.set n3 (.arr 2 ((dw s.aa t bit on).map bC.row) s.aa.length false)):=by
 refine aM (bh KC au Tryz.func86 rfl rfl Tn rfl rfl rfl (by simp) hH ?_);have l1:=aj.bR h.g1;have l2:=aj.bR h.g2;have l3:=aj.bR h.g3;have d1: ¬n1.1=H.length:=(by omega);have d2: ¬n2.1=H.length:=(by omega);have d3: ¬n3.1=H.length:=(by omega);have hg:s.aa.getD t aR=s.aa[t]:=(by simp [List.getD_eq_getElem?_getD,ht]);have hd:=jq s.aa t bit on;rw [hg]at hd
 have P:=fun(c:Nat)=>M9 (c:=c) (H:=[(4, .box [.bc n1 1 s.ah.length 0 s.ah.length, .bc n2 2 s.aq.length 0 s.aq.length, .bc n3 2 s.aa.length 0 s.aa.length])]::H) (n1:=n1) (n2:=n2) (n3:=n3) (v1:=v1) (v2:=v2) (v3:=v3) (s:=s)
  ⟨h.nV,h.m9,h.lM,by simp [d1,h.g1],by simp [d2,h.g2],by simp [d3,h.g3],h.e1,h.e2,h.e3⟩ (t:=t) (st:=bit) (by omega) hst (by simp)
 simp only [lC]at P⊢
 cases on with
 |true=>
  cases hv:eT s.aa t bit with
  |true=>simp [P,hv,ae]
  |false=>
   simp [hv]at hd;simp [P,hv,d3,h.g3,h.e3,ht,bC.row,ae,hd,aD]
 |false=>
  cases hv:eT s.aa t bit with
  |false=>simp [P,hv,ae]
  |true=>
   simp [hv]at hd;simp [P,hv,d3,h.g3,h.e3,ht,bC.row,ae,hd,aD]
end
section
variable {c:Nat} {H:aj}
def bp (hs:List aG)(w:Nat)(hand:Int)(v:Int):List aG:=hs.set w (if hand=0 then ⟨v,(hs.getD w bA).r⟩else ⟨(hs.getD w bA).l,v⟩)
noncomputable def da:aw→Nat→ak→aw:=nO fun s w a=>
 if a.kind=1 then {s with ah:=s.ah.set w a.cell}
 else if a.kind=2 then {s with aq:=bp s.aq w a.hand a.bf,aa:=s.aa.set a.bf.toNat ⟨-1,(s.aa.getD a.bf.toNat aR).state⟩}
 else if a.kind=3 then {s with aq:=bp s.aq w a.hand (-1),aa:=s.aa.set (bF s w a.hand).toNat ⟨s.ah.getD w 0,(s.aa.getD (bF s w a.hand).toNat aR).state⟩}
 else if a.kind=4 then {s with aq:=bp (bp s.aq a.other.toNat (dR s.aq a.other.toNat) (bF s w a.hand)) w a.hand (-1)}
 else if a.kind=5 then {s with aa:=dw s.aa (bF s w (1-a.hand)).toNat 1 true}
 else if a.kind=6 then {s with aa:=dw (dw (dw s.aa (bF s w a.hand).toNat 2 false) (bF s w a.hand).toNat 1 false) (bF s w (1-a.hand)).toNat 2 true}
 else if a.kind=7 then {s with aa:=dw s.aa (bF s w a.hand).toNat 4 true}
 else {s with aa:=dw s.aa (bF s w a.hand).toNat 4 false}
theorem iv (s:aw)(w:Nat)(a:ak):da s w a=
 if a.kind=1 then {s with ah:=s.ah.set w a.cell}
 else if a.kind=2 then {s with aq:=bp s.aq w a.hand a.bf,aa:=s.aa.set a.bf.toNat ⟨-1,(s.aa.getD a.bf.toNat aR).state⟩}
 else if a.kind=3 then {s with aq:=bp s.aq w a.hand (-1),aa:=s.aa.set (bF s w a.hand).toNat ⟨s.ah.getD w 0,(s.aa.getD (bF s w a.hand).toNat aR).state⟩}
 else if a.kind=4 then {s with aq:=bp (bp s.aq a.other.toNat (dR s.aq a.other.toNat) (bF s w a.hand)) w a.hand (-1)}
 else if a.kind=5 then {s with aa:=dw s.aa (bF s w (1-a.hand)).toNat 1 true}
 else if a.kind=6 then {s with aa:=dw (dw (dw s.aa (bF s w a.hand).toNat 2 false) (bF s w a.hand).toNat 1 false) (bF s w (1-a.hand)).toNat 2 true}
 else if a.kind=7 then {s with aa:=dw s.aa (bF s w a.hand).toNat 4 true}
 else {s with aa:=dw s.aa (bF s w a.hand).toNat 4 false}:=by rw [da,cP]
structure Fe (s:aw)(w:Nat)(a:ak):Prop where
 hp:w<s.ah.length
 hh:w<s.aq.length
 aO:a.aO=w
 hand:a.hand=0∨a.hand=1
 kind:1≤a.kind∧a.kind≤8
 take:a.kind=2→ ∃t:Nat,a.bf=t∧t<s.aa.length
 held:3≤a.kind→ ∃t:Nat,bF s w a.hand=t∧t<s.aa.length
 pO:a.kind=4→ ∃o:Nat,a.other=o∧o<s.aq.length∧o≠w∧(dR s.aq o=0∨dR s.aq o=1)
 xE:a.kind=5∨a.kind=6→ ∃t:Nat,bF s w (1-a.hand)=t∧t<s.aa.length
theorem aj.set_comm {n m:Nm}{x y:dE}(h:n≠m): ∀{H:aj},(H.set n x).set m y=(H.set m y).set n x
 | []=>rfl
 |fr::H=>by
  by_cases e1:n.1=H.length
  ·by_cases e2:m.1=H.length
   ·have:n.2≠m.2:=fun e=>h (Prod.ext (e1.trans e2.symm) e);simp [e1,e2,Fr.uP _ _ this.symm]
   ·simp [e1,e2]
  ·by_cases e2:m.1=H.length
   ·simp [e1,e2]
   ·simp [e1,e2,aj.length_set,aj.set_comm h (H:=H)]
structure mc (H:aj)(n1 n2 n3:Nm)(v1 v2 v3:Nat)(s:aw):Prop extends mD H n1 n2 n3 v1 v2 v3 s where
 s1:H.set n1 (.arr 1 (s.ah.map aF) v1 false)=H
 s2:H.set n2 (.arr 2 (s.aq.map aG.row) v2 false)=H
 s3:H.set n3 (.arr 2 (s.aa.map bC.row) v3 false)=H
def cA (H:aj)(n1 n2 n3:Nm)(v1 v2 v3:Nat)(s:aw):aj:=((H.set n1 (.arr 1 (s.ah.map aF) v1 false)).set n2 (.arr 2 (s.aq.map aG.row) v2 false)).set n3 (.arr 2 (s.aa.map bC.row) v3 false)
theorem iQ {fr : Fr} {n1 n2 n3 : Nm} {v1 v2 v3 : Nat} {s : aw} (h : mc H n1 n2 n3 v1 v2 v3 s) {t : Nat} {bit : Int} {on : Bool} (ht : t < s.aa.length) (hst : bit ≠ 0) (c : Nat) :
    ∃ v, v ≤ s.aa.length ∧ aL KC (aE KC) 86 [lC n1 n2 n3 s, .pure (.int .i64 t), .pure (.int .i64 bit), .pure (.bool on)] c (fr :: H) =
      some (.pure (.tuple []), fr :: H.set n3 (.arr 2 ((dw s.aa t bit on).map bC.row) v false)) ∧
      mc (H.set n3 (.arr 2 ((dw s.aa t bit on).map bC.row) v false)) n1 n2 n3 v1 v2 v { s with aa := dw s.aa t bit on } := by
  have l1 := aj.bR h.g1
  have l2 := aj.bR h.g2
  have l3 := aj.bR h.g3
  have d1 : ¬ n1.1 = H.length := by omega
  have d2 : ¬ n2.1 = H.length := by omega
  have d3 : ¬ n3.1 = H.length := by omega
  have hS : mD (fr :: H) n1 n2 n3 v1 v2 v3 s := ⟨h.nV, h.m9, h.lM, by simp [d1, h.g1], by simp [d2, h.g2], by simp [d3, h.g3], h.e1, h.e2, h.e3⟩
  have C := Ub (c := c) hS (t := t) (bit := bit) (on := on) ht hst (by simp)
  have fin : ∀ v, v ≤ s.aa.length → mc (H.set n3 (.arr 2 ((dw s.aa t bit on).map bC.row) v false)) n1 n2 n3 v1 v2 v { s with aa := dw s.aa t bit on } := fun v hv =>
    { nV := h.nV, m9 := h.m9, lM := h.lM, g1 := by rw [aj.aH _ h.m9]; exact h.g1, g2 := by rw [aj.aH _ h.lM]; exact h.g2, g3 := aj.gV l3,
      e1 := h.e1, e2 := h.e2, e3 := by simpa [dJ] using hv, s1 := by rw [aj.set_comm h.m9.symm, h.s1], s2 := by rw [aj.set_comm h.lM.symm, h.s2], s3 := aj.set_set }
  by_cases hv : eT s.aa t bit = on
  · have e : dw s.aa t bit on = s.aa := by rw [jq, if_pos hv]
    rw [if_pos hv] at C
    refine ⟨v3, h.e3, ?_, fin v3 h.e3⟩
    rw [C, e, h.s3]
  · rw [if_neg hv] at C
    refine ⟨s.aa.length, Nat.le_refl _, ?_, fin _ (Nat.le_refl _)⟩
    rw [C, aj.dF l3]
theorem mD.up {fr:Fr}{n1 n2 n3:Nm}{v1 v2 v3:Nat}{s:aw}(h:mD H n1 n2 n3 v1 v2 v3 s):mD (fr::H) n1 n2 n3 v1 v2 v3 s:=by
 have l1:=aj.bR h.g1;have l2:=aj.bR h.g2;have l3:=aj.bR h.g3;have d1: ¬n1.1=H.length:=(by omega);have d2: ¬n2.1=H.length:=(by omega);have d3: ¬n3.1=H.length:=(by omega);exact⟨h.nV,h.m9,h.lM,by simp [d1,h.g1],by simp [d2,h.g2],by simp [d3,h.g3],h.e1,h.e2,h.e3⟩
theorem Uc {n1 n2 n3:Nm}{v1 v2 v3:Nat}{s:aw}(h:mc H n1 n2 n3 v1 v2 v3 s){w:Nat}{q1 kind bf cell other q3 q4:Int}(hb:Fe s w ⟨q1,w,kind,0,bf,cell,other,q3,q4⟩)(hhl:s.aq.length≤1000000)(hH:0<H.length):
  ∃v1' v2' v3',v1'≤s.ah.length∧v2'≤s.aq.length∧v3'≤s.aa.length∧
   aL KC (aE KC) 51 [lC n1 n2 n3 s, .pure (.agg [.int .i64 q1, .int .i64 w, .int .i64 kind, .int .i64 0, .int .i64 bf, .int .i64 cell, .int .i64 other, .int .i64 q3, .int .i64 q4])] c H=
    some (.pure (.tuple []),cA H n1 n2 n3 v1' v2' v3' (da s w ⟨q1,w,kind,0,bf,cell,other,q3,q4⟩)):=by
 have l1:=aj.bR h.g1;have l2:=aj.bR h.g2;have l3:=aj.bR h.g3;have d1: ¬n1.1=H.length:=(by omega);have d2: ¬n2.1=H.length:=(by omega);have d3: ¬n3.1=H.length:=(by omega);have hp:=hb.hp;have hh:=hb.hh;have hg:s.aq.getD w bA=s.aq[w]:=(by simp [List.getD_eq_getElem?_getD,hh]);have hgp:s.ah.getD w 0=s.ah[w]:=(by simp [List.getD_eq_getElem?_getD,hp]);have eh:bF s w 0=s.aq[w].l:=(by unfold bF;rw [hg];simp);have eo:bF s w (1-0)=s.aq[w].r:=(by unfold bF;rw [hg];simp);have wr:IntKind.i64.wrap (1-0)=1:=rfl;have hk:=hb.kind;have hd:=iv s w ⟨q1,w,kind,0,bf,cell,other,q3,q4⟩;have hheld:=hb.held;have hoth:=hb.xE;have htake:=hb.take;have hgive:=hb.pO;have G23: ∀b,(H.set n2 b).get n3=H.get n3:=fun b=>aj.aH b h.lM.symm;have S2: ∀x,(H.set n1 x).set n2 (.arr 2 (s.aq.map aG.row) v2 false)=H.set n1 x:=fun x=>(by rw [aj.set_comm h.nV,h.s2]);have S3: ∀x,(H.set n1 x).set n3 (.arr 2 (s.aa.map bC.row) v3 false)=H.set n1 x:=fun x=>(by rw [aj.set_comm h.m9,h.s3]);have S4: ∀x,(H.set n2 x).set n3 (.arr 2 (s.aa.map bC.row) v3 false)=H.set n2 x:=fun x=>(by rw [aj.set_comm h.lM,h.s3]);have s1:=h.s1;have s2:=h.s2;have s3:=h.s3;have G22: ∀b,(H.set n2 b).get n2=some b:=fun b=>aj.gV l2;simp only [eh,eo,hgp,bp,hg]at hd hk hheld hoth htake hgive;simp only [lC];by_cases k1:kind=1
 ·subst k1;simp at hd;refine⟨s.ah.length,v2,v3,Nat.le_refl _,h.e2,h.e3,aM (bh KC au Tryz.func51 rfl rfl gH rfl rfl rfl (by simp) hH ?_)⟩;simp [d1,d2,d3,h.g1,h.g2,h.g3,h.e1,h.e2,h.e3,hp,hh,aF,aG.row,wr,aD,ae,hd,cA,S2,S3]
 by_cases k2:kind=2
 ·subst k2;obtain⟨t,rfl,ht⟩:=htake rfl;have hgt:s.aa[t]?.getD aR=s.aa[t]:=(by simp [ht]);simp [hgt]at hd;refine⟨v1,s.aq.length,s.aa.length,h.e1,Nat.le_refl _,Nat.le_refl _,aM (bh KC au Tryz.func51 rfl rfl gH rfl rfl rfl (by simp) hH ?_)⟩;simp [d1,d2,d3,h.g1,h.g2,h.g3,h.e1,h.e2,h.e3,hp,hh,ht,aG.row,bC.row,wr,aD,ae,hd,cA,G23,s1]
 have hk3:3≤kind:=(by omega);obtain⟨t,et,ht⟩:=hheld hk3;simp only [et]at hd hgive;have hgt:s.aa[t]?.getD aR=s.aa[t]:=(by simp [ht]);by_cases k3:kind=3
 ·subst k3;simp [hgt]at hd;refine⟨v1,s.aq.length,s.aa.length,h.e1,Nat.le_refl _,Nat.le_refl _,aM (bh KC au Tryz.func51 rfl rfl gH rfl rfl rfl (by simp) hH ?_)⟩;simp [d1,d2,d3,h.g1,h.g2,h.g3,h.e1,h.e2,h.e3,hp,hh,ht,et,aF,aG.row,bC.row,wr,aD,ae,hd,cA,G23,s1]
 by_cases k4:kind=4
 ·subst k4;obtain⟨o,rfl,ho,how,htk⟩:=hgive rfl;have hgo:s.aq[o]?.getD bA=s.aq[o]:=(by simp [ho]);have hsw: ∀x,(s.aq.set o x)[w]?.getD bA=s.aq[w]:=fun x=>(by rw [List.getElem?_set_ne how];simp [hh]);simp [hgo,hsw]at hd;have R:(bs ([(2, .box [.bc n1 1 s.ah.length 0 s.ah.length, .bc n2 2 s.aq.length 0 s.aq.length, .bc n3 2 s.aa.length 0 s.aa.length]),(3,bW ⟨q1,w,4,0,bf,cell,o,q3,q4⟩)]::H) [lC n1 n2 n3 s, .pure (.int .i64 o)]).1.map canon=[.pure (.agg s.row), .pure (.int .i64 o)]:=by
   simp only [bs,CW (mD.up h.tomD),oT];rfl
  have T:=fun(c:Nat)=>gX KC (f:=85) (c:=c) rfl rfl R rfl (by simp) (fun H hH=>sR (c:=c) ho hhl hH) rfl;simp only [lC,bW]at T;rcases htk with z|z
  ·rw [z]at hd T;simp at hd;refine⟨v1,s.aq.length,v3,h.e1,Nat.le_refl _,h.e3,aM (bh KC au Tryz.func51 rfl rfl gH rfl rfl rfl (by simp) hH ?_)⟩;simp [d1,d2,d3,h.g1,h.g2,h.g3,h.e1,h.e2,h.e3,hp,hh,ht,et,ho,T,aF,aG.row,bC.row,wr,aD,ae,hd,cA,G22,G23,s1,S4,how,List.getElem_set_ne]
  ·rw [z]at hd T;simp at hd;refine⟨v1,s.aq.length,v3,h.e1,Nat.le_refl _,h.e3,aM (bh KC au Tryz.func51 rfl rfl gH rfl rfl rfl (by simp) hH ?_)⟩;simp [d1,d2,d3,h.g1,h.g2,h.g3,h.e1,h.e2,h.e3,hp,hh,ht,et,ho,T,aF,aG.row,bC.row,wr,aD,ae,hd,cA,G22,G23,s1,S4,how,List.getElem_set_ne]
 by_cases k5:kind=5
 ·subst k5;obtain⟨u,eu,hu⟩:=hoth (.inl rfl);rw [eu]at hd;simp at hd;obtain⟨v,hv,C,hS⟩:=iQ (fr:=[(2, .box [.bc n1 1 s.ah.length 0 s.ah.length, .bc n2 2 s.aq.length 0 s.aq.length, .bc n3 2 s.aa.length 0 s.aa.length]),(3,bW ⟨q1,w,5,0,bf,cell,other,q3,q4⟩)]) h (t:=u) (bit:=1) (on:=true) hu (by decide) 100;simp only [lC,bW]at C;refine⟨v1,v2,v,h.e1,h.e2,hv,aM (bh KC au Tryz.func51 rfl rfl gH rfl rfl rfl (by simp) hH ?_)⟩;simp [d1,d2,d3,h.g1,h.g2,h.g3,h.e1,h.e2,h.e3,hp,hh,ht,et,eu,C,aG.row,wr,ae,hd,cA,s1,s2]
 by_cases k6:kind=6
 ·subst k6;obtain⟨u,eu,hu⟩:=hoth (.inr rfl);rw [eu]at hd;simp at hd;obtain⟨v,hv,C,hS⟩:=iQ (fr:=[(2, .box [.bc n1 1 s.ah.length 0 s.ah.length, .bc n2 2 s.aq.length 0 s.aq.length, .bc n3 2 s.aa.length 0 s.aa.length]),(3,bW ⟨q1,w,6,0,bf,cell,other,q3,q4⟩)]) h (t:=t) (bit:=2) (on:=false) ht (by decide) 105;obtain⟨v',hv',C',hS'⟩:=iQ (fr:=[(2, .box [.bc n1 1 s.ah.length 0 s.ah.length, .bc n2 2 s.aq.length 0 s.aq.length, .bc n3 2 s.aa.length 0 s.aa.length]),(3,bW ⟨q1,w,6,0,bf,cell,other,q3,q4⟩)]) hS (t:=t) (bit:=1) (on:=false) (by rw [dJ];exact ht) (by decide) 108;obtain⟨v'',hv'',C'',hS''⟩:=iQ (fr:=[(2, .box [.bc n1 1 s.ah.length 0 s.ah.length, .bc n2 2 s.aq.length 0 s.aq.length, .bc n3 2 s.aa.length 0 s.aa.length]),(3,bW ⟨q1,w,6,0,bf,cell,other,q3,q4⟩)]) hS' (t:=u) (bit:=2) (on:=true) (by simp only [dJ];exact hu) (by decide) 111;simp only [lC,bW,dJ,aj.set_set]at C C' C'';simp only [dJ]at hv'';refine⟨v1,v2,v'',h.e1,h.e2,hv'',aM (bh KC au Tryz.func51 rfl rfl gH rfl rfl rfl (by simp) hH ?_)⟩;simp [d1,d2,d3,h.g1,h.g2,h.g3,h.e1,h.e2,h.e3,hp,hh,ht,et,eu,C,C',C'',aG.row,wr,ae,hd,cA,s1,s2]
 by_cases k7:kind=7
 ·subst k7;simp at hd;obtain⟨v,hv,C,hS⟩:=iQ (fr:=[(2, .box [.bc n1 1 s.ah.length 0 s.ah.length, .bc n2 2 s.aq.length 0 s.aq.length, .bc n3 2 s.aa.length 0 s.aa.length]),(3,bW ⟨q1,w,7,0,bf,cell,other,q3,q4⟩)]) h (t:=t) (bit:=4) (on:=true) ht (by decide) 116;simp only [lC,bW]at C;refine⟨v1,v2,v,h.e1,h.e2,hv,aM (bh KC au Tryz.func51 rfl rfl gH rfl rfl rfl (by simp) hH ?_)⟩;simp [d1,d2,d3,h.g1,h.g2,h.g3,h.e1,h.e2,h.e3,hp,hh,ht,et,C,aG.row,wr,ae,hd,cA,s1,s2]
 have k8:kind=8:=(by omega);subst k8;simp at hd;obtain⟨v,hv,C,hS⟩:=iQ (fr:=[(2, .box [.bc n1 1 s.ah.length 0 s.ah.length, .bc n2 2 s.aq.length 0 s.aq.length, .bc n3 2 s.aa.length 0 s.aa.length]),(3,bW ⟨q1,w,8,0,bf,cell,other,q3,q4⟩)]) h (t:=t) (bit:=4) (on:=false) ht (by decide) 121;simp only [lC,bW]at C;refine⟨v1,v2,v,h.e1,h.e2,hv,aM (bh KC au Tryz.func51 rfl rfl gH rfl rfl rfl (by simp) hH ?_)⟩;simp [d1,d2,d3,h.g1,h.g2,h.g3,h.e1,h.e2,h.e3,hp,hh,ht,et,C,aG.row,wr,ae,hd,cA,s1,s2]
theorem Ud {n1 n2 n3:Nm}{v1 v2 v3:Nat}{s:aw}(h:mc H n1 n2 n3 v1 v2 v3 s){w:Nat}{q1 kind bf cell other q3 q4:Int}(hb:Fe s w ⟨q1,w,kind,1,bf,cell,other,q3,q4⟩)(hhl:s.aq.length≤1000000)(hH:0<H.length):
  ∃v1' v2' v3',v1'≤s.ah.length∧v2'≤s.aq.length∧v3'≤s.aa.length∧
   aL KC (aE KC) 51 [lC n1 n2 n3 s, .pure (.agg [.int .i64 q1, .int .i64 w, .int .i64 kind, .int .i64 1, .int .i64 bf, .int .i64 cell, .int .i64 other, .int .i64 q3, .int .i64 q4])] c H=
    some (.pure (.tuple []),cA H n1 n2 n3 v1' v2' v3' (da s w ⟨q1,w,kind,1,bf,cell,other,q3,q4⟩)):=by
 have l1:=aj.bR h.g1;have l2:=aj.bR h.g2;have l3:=aj.bR h.g3;have d1: ¬n1.1=H.length:=(by omega);have d2: ¬n2.1=H.length:=(by omega);have d3: ¬n3.1=H.length:=(by omega);have hp:=hb.hp;have hh:=hb.hh;have hg:s.aq.getD w bA=s.aq[w]:=(by simp [List.getD_eq_getElem?_getD,hh]);have hgp:s.ah.getD w 0=s.ah[w]:=(by simp [List.getD_eq_getElem?_getD,hp]);have eh:bF s w 1=s.aq[w].r:=(by unfold bF;rw [hg];simp);have eo:bF s w (1-1)=s.aq[w].l:=(by unfold bF;rw [hg];simp);have wr:IntKind.i64.wrap (1-1)=0:=rfl;have hk:=hb.kind;have hd:=iv s w ⟨q1,w,kind,1,bf,cell,other,q3,q4⟩;have hheld:=hb.held;have hoth:=hb.xE;have htake:=hb.take;have hgive:=hb.pO;have G23: ∀b,(H.set n2 b).get n3=H.get n3:=fun b=>aj.aH b h.lM.symm;have S2: ∀x,(H.set n1 x).set n2 (.arr 2 (s.aq.map aG.row) v2 false)=H.set n1 x:=fun x=>(by rw [aj.set_comm h.nV,h.s2]);have S3: ∀x,(H.set n1 x).set n3 (.arr 2 (s.aa.map bC.row) v3 false)=H.set n1 x:=fun x=>(by rw [aj.set_comm h.m9,h.s3]);have S4: ∀x,(H.set n2 x).set n3 (.arr 2 (s.aa.map bC.row) v3 false)=H.set n2 x:=fun x=>(by rw [aj.set_comm h.lM,h.s3]);have s1:=h.s1;have s2:=h.s2;have s3:=h.s3;have G22: ∀b,(H.set n2 b).get n2=some b:=fun b=>aj.gV l2;simp only [eh,eo,hgp,bp,hg]at hd hk hheld hoth htake hgive;simp only [lC];by_cases k1:kind=1
 ·subst k1;simp at hd;refine⟨s.ah.length,v2,v3,Nat.le_refl _,h.e2,h.e3,aM (bh KC au Tryz.func51 rfl rfl gH rfl rfl rfl (by simp) hH ?_)⟩;simp [d1,d2,d3,h.g1,h.g2,h.g3,h.e1,h.e2,h.e3,hp,hh,aF,aG.row,wr,aD,ae,hd,cA,S2,S3]
 by_cases k2:kind=2
 ·subst k2;obtain⟨t,rfl,ht⟩:=htake rfl;have hgt:s.aa[t]?.getD aR=s.aa[t]:=(by simp [ht]);simp [hgt]at hd;refine⟨v1,s.aq.length,s.aa.length,h.e1,Nat.le_refl _,Nat.le_refl _,aM (bh KC au Tryz.func51 rfl rfl gH rfl rfl rfl (by simp) hH ?_)⟩;simp [d1,d2,d3,h.g1,h.g2,h.g3,h.e1,h.e2,h.e3,hp,hh,ht,aG.row,bC.row,wr,aD,ae,hd,cA,G23,s1]
 have hk3:3≤kind:=(by omega);obtain⟨t,et,ht⟩:=hheld hk3;simp only [et]at hd hgive;have hgt:s.aa[t]?.getD aR=s.aa[t]:=(by simp [ht]);by_cases k3:kind=3
 ·subst k3;simp [hgt]at hd;refine⟨v1,s.aq.length,s.aa.length,h.e1,Nat.le_refl _,Nat.le_refl _,aM (bh KC au Tryz.func51 rfl rfl gH rfl rfl rfl (by simp) hH ?_)⟩;simp [d1,d2,d3,h.g1,h.g2,h.g3,h.e1,h.e2,h.e3,hp,hh,ht,et,aF,aG.row,bC.row,wr,aD,ae,hd,cA,G23,s1]
 by_cases k4:kind=4
 ·subst k4;obtain⟨o,rfl,ho,how,htk⟩:=hgive rfl;have hgo:s.aq[o]?.getD bA=s.aq[o]:=(by simp [ho]);have hsw: ∀x,(s.aq.set o x)[w]?.getD bA=s.aq[w]:=fun x=>(by rw [List.getElem?_set_ne how];simp [hh]);simp [hgo,hsw]at hd;have R:(bs ([(2, .box [.bc n1 1 s.ah.length 0 s.ah.length, .bc n2 2 s.aq.length 0 s.aq.length, .bc n3 2 s.aa.length 0 s.aa.length]),(3,bW ⟨q1,w,4,1,bf,cell,o,q3,q4⟩)]::H) [lC n1 n2 n3 s, .pure (.int .i64 o)]).1.map canon=[.pure (.agg s.row), .pure (.int .i64 o)]:=by
   simp only [bs,CW (mD.up h.tomD),oT];rfl
  have T:=fun(c:Nat)=>gX KC (f:=85) (c:=c) rfl rfl R rfl (by simp) (fun H hH=>sR (c:=c) ho hhl hH) rfl;simp only [lC,bW]at T;rcases htk with z|z
  ·rw [z]at hd T;simp at hd;refine⟨v1,s.aq.length,v3,h.e1,Nat.le_refl _,h.e3,aM (bh KC au Tryz.func51 rfl rfl gH rfl rfl rfl (by simp) hH ?_)⟩;simp [d1,d2,d3,h.g1,h.g2,h.g3,h.e1,h.e2,h.e3,hp,hh,ht,et,ho,T,aF,aG.row,bC.row,wr,aD,ae,hd,cA,G22,G23,s1,S4,how,List.getElem_set_ne]
  ·rw [z]at hd T;simp at hd;refine⟨v1,s.aq.length,v3,h.e1,Nat.le_refl _,h.e3,aM (bh KC au Tryz.func51 rfl rfl gH rfl rfl rfl (by simp) hH ?_)⟩;simp [d1,d2,d3,h.g1,h.g2,h.g3,h.e1,h.e2,h.e3,hp,hh,ht,et,ho,T,aF,aG.row,bC.row,wr,aD,ae,hd,cA,G22,G23,s1,S4,how,List.getElem_set_ne]
 by_cases k5:kind=5
 ·subst k5;obtain⟨u,eu,hu⟩:=hoth (.inl rfl);rw [eu]at hd;simp at hd;obtain⟨v,hv,C,hS⟩:=iQ (fr:=[(2, .box [.bc n1 1 s.ah.length 0 s.ah.length, .bc n2 2 s.aq.length 0 s.aq.length, .bc n3 2 s.aa.length 0 s.aa.length]),(3,bW ⟨q1,w,5,1,bf,cell,other,q3,q4⟩)]) h (t:=u) (bit:=1) (on:=true) hu (by decide) 100;simp only [lC,bW]at C;refine⟨v1,v2,v,h.e1,h.e2,hv,aM (bh KC au Tryz.func51 rfl rfl gH rfl rfl rfl (by simp) hH ?_)⟩;simp [d1,d2,d3,h.g1,h.g2,h.g3,h.e1,h.e2,h.e3,hp,hh,ht,et,eu,C,aG.row,wr,ae,hd,cA,s1,s2]
 by_cases k6:kind=6
 ·subst k6;obtain⟨u,eu,hu⟩:=hoth (.inr rfl);rw [eu]at hd;simp at hd;obtain⟨v,hv,C,hS⟩:=iQ (fr:=[(2, .box [.bc n1 1 s.ah.length 0 s.ah.length, .bc n2 2 s.aq.length 0 s.aq.length, .bc n3 2 s.aa.length 0 s.aa.length]),(3,bW ⟨q1,w,6,1,bf,cell,other,q3,q4⟩)]) h (t:=t) (bit:=2) (on:=false) ht (by decide) 105;obtain⟨v',hv',C',hS'⟩:=iQ (fr:=[(2, .box [.bc n1 1 s.ah.length 0 s.ah.length, .bc n2 2 s.aq.length 0 s.aq.length, .bc n3 2 s.aa.length 0 s.aa.length]),(3,bW ⟨q1,w,6,1,bf,cell,other,q3,q4⟩)]) hS (t:=t) (bit:=1) (on:=false) (by rw [dJ];exact ht) (by decide) 108;obtain⟨v'',hv'',C'',hS''⟩:=iQ (fr:=[(2, .box [.bc n1 1 s.ah.length 0 s.ah.length, .bc n2 2 s.aq.length 0 s.aq.length, .bc n3 2 s.aa.length 0 s.aa.length]),(3,bW ⟨q1,w,6,1,bf,cell,other,q3,q4⟩)]) hS' (t:=u) (bit:=2) (on:=true) (by simp only [dJ];exact hu) (by decide) 111;simp only [lC,bW,dJ,aj.set_set]at C C' C'';simp only [dJ]at hv'';refine⟨v1,v2,v'',h.e1,h.e2,hv'',aM (bh KC au Tryz.func51 rfl rfl gH rfl rfl rfl (by simp) hH ?_)⟩;simp [d1,d2,d3,h.g1,h.g2,h.g3,h.e1,h.e2,h.e3,hp,hh,ht,et,eu,C,C',C'',aG.row,wr,ae,hd,cA,s1,s2]
 by_cases k7:kind=7
 ·subst k7;simp at hd;obtain⟨v,hv,C,hS⟩:=iQ (fr:=[(2, .box [.bc n1 1 s.ah.length 0 s.ah.length, .bc n2 2 s.aq.length 0 s.aq.length, .bc n3 2 s.aa.length 0 s.aa.length]),(3,bW ⟨q1,w,7,1,bf,cell,other,q3,q4⟩)]) h (t:=t) (bit:=4) (on:=true) ht (by decide) 116;simp only [lC,bW]at C;refine⟨v1,v2,v,h.e1,h.e2,hv,aM (bh KC au Tryz.func51 rfl rfl gH rfl rfl rfl (by simp) hH ?_)⟩;simp [d1,d2,d3,h.g1,h.g2,h.g3,h.e1,h.e2,h.e3,hp,hh,ht,et,C,aG.row,wr,ae,hd,cA,s1,s2]
 have k8:kind=8:=(by omega);subst k8;simp at hd;obtain⟨v,hv,C,hS⟩:=iQ (fr:=[(2, .box [.bc n1 1 s.ah.length 0 s.ah.length, .bc n2 2 s.aq.length 0 s.aq.length, .bc n3 2 s.aa.length 0 s.aa.length]),(3,bW ⟨q1,w,8,1,bf,cell,other,q3,q4⟩)]) h (t:=t) (bit:=4) (on:=false) ht (by decide) 121;simp only [lC,bW]at C;refine⟨v1,v2,v,h.e1,h.e2,hv,aM (bh KC au Tryz.func51 rfl rfl gH rfl rfl rfl (by simp) hH ?_)⟩;simp [d1,d2,d3,h.g1,h.g2,h.g3,h.e1,h.e2,h.e3,hp,hh,ht,et,C,aG.row,wr,ae,hd,cA,s1,s2]
theorem Qk {n1 n2 n3:Nm}{v1 v2 v3:Nat}{s:aw}(h:mc H n1 n2 n3 v1 v2 v3 s){w:Nat}{a:ak}(hb:Fe s w a)(hhl:s.aq.length≤1000000)(hH:0<H.length):
  ∃v1' v2' v3',v1'≤s.ah.length∧v2'≤s.aq.length∧v3'≤s.aa.length∧
   aL KC (aE KC) 51 [lC n1 n2 n3 s, .pure (.agg a.row)] c H=some (.pure (.tuple []),cA H n1 n2 n3 v1' v2' v3' (da s w a)):=by
 obtain⟨q1,aO,kind,hand,bf,cell,other,q3,q4⟩:=a;have e1:=hb.aO;have e2:=hb.hand;simp only at e1 e2;subst e1;rcases e2 with rfl|rfl
 ·exact Uc h hb hhl hH
 ·exact Ud h hb hhl hH
end
section
variable {c:Nat} {H:aj}
noncomputable def gf:List Int→List Int→Bool:=nO fun l m=>l.any fun x=>m.contains x
theorem lI (l m:List Int):gf l m=l.any fun x=>m.contains x:=by rw [gf,cP]
theorem zl (l m:List Int)(hm:m.length≤1000000)(i:Nat)(hi:i<l.length)(H':aj)(f0 f1:Fr)(hH':H'=f1::f0::H)(Q:GX→bO→Prop):
  ∀k j:Nat,j+k=m.length→
  ((m.drop j).contains l[i]=false→Q (.exit 2) ⟨[(0, .pure (.slice (l.map aF))),(1, .pure (.slice (m.map aF))),(4,aN),(5, .pure (.int .i64 i))],H',28⟩)→
  ((m.drop j).contains l[i]=true→Q .ret ⟨[(0, .pure (.slice (l.map aF))),(1, .pure (.slice (m.map aF))),(4, .pure (.bool true)),(5, .pure (.int .i64 i))],H',28⟩)→
  iB KC au 122 (lp Tryz.f122 1) [0,1,5,6] [0,1,4,5] Q
   [(0, .pure (.slice (l.map aF))),(1, .pure (.slice (m.map aF))),(5, .pure (.int .i64 i)),(6, .pure (.int .i64 j))] H' 28:=by
 subst hH';intro k
 induction k with
 |zero=>
  intro j hj h1 h2;have e1:m.drop j=[]:=List.drop_of_length_le (by omega);rw [e1]at h1;have: ¬j<m.length:=(by omega);apply ax;conv=>arg 4;whnf
  simp [this];exact h1 rfl
 |succ k ih=>
  intro j hj h1 h2;have hja:j<m.length:=(by omega);have hw:=dp (x:=(j:Int)+1) (by omega) (by omega);have ih':=ih (j+1) (by omega);rw [List.drop_eq_getElem_cons hja,List.contains_cons]at h1 h2;apply ax;conv=>arg 4;whnf
  cases he:l[i]==m[j]with
  |true=>
   rw [he]at h2;simp [hi,hja,aF,he];exact h2 rfl
  |false=>
   rw [he]at h1 h2;rw [Bool.false_or]at h1 h2;simp [hi,hja,aF,he,hw];exact ih' h1 h2
theorem Ba (l m:List Int)(hl:l.length≤1000000)(hm:m.length≤1000000)(f0:Fr)(Q:GX→bO→Prop):
  ∀k i:Nat,i+k=l.length→
  (((l.drop i).any fun x=>m.contains x)=false→Q (.exit 0) ⟨[(4,aN)],f0::H,28⟩)→
  (((l.drop i).any fun x=>m.contains x)=true→Q .ret ⟨[(4, .pure (.bool true))],f0::H,28⟩)→
  iB KC au 122 (lp Tryz.f122 0) [0,1,5] [4] Q
   [(0, .pure (.slice (l.map aF))),(1, .pure (.slice (m.map aF))),(5, .pure (.int .i64 i))] (f0::H) 28:=by
 intro k
 induction k with
 |zero=>
  intro i hi h1 h2;have e1:l.drop i=[]:=List.drop_of_length_le (by omega);rw [e1]at h1;have: ¬i<l.length:=(by omega);apply ax;conv=>arg 4;whnf
  simp [this];exact h1 rfl
 |succ k ih=>
  intro i hi h1 h2;have hia:i<l.length:=(by omega);have hw:=dp (x:=(i:Int)+1) (by omega) (by omega);have ih':=ih (i+1) (by omega);rw [List.drop_eq_getElem_cons hia,List.any_cons]at h1 h2;apply ax;conv=>arg 4;whnf
  have L:=fun f1 Q=>zl l m hm i hia (f1::f0::H) f0 f1 rfl Q m.length 0 (by omega);simp only [List.drop_zero]at L;simp [hia];refine L _ _ (fun z=> ?_) (fun z=> ?_)
  ·rw [z,Bool.false_or]at h1 h2;simp [hw];exact ih' h1 h2
  ·rw [z,Bool.true_or]at h2;simp;exact h2 rfl
theorem Ft {l m:List Int}(hl:l.length≤1000000)(hm:m.length≤1000000)(hH:0<H.length):
  aL KC (aE KC) 122 [.pure (.slice (l.map aF)), .pure (.slice (m.map aF))] c H=some (.pure (.bool (gf l m)),H):=by
 refine eJ rfl rfl rfl rfl rfl hH fun H hH=> ?_;refine aM (aK KC au Tryz.func122 rfl rfl LM (by simp) hH ?_);have hd:=lI l m;have L:=fun f0 Q=>Ba (H:=H) l m hl hm f0 Q l.length 0 (by omega);simp only [List.drop_zero]at L;simp;refine L _ _ (fun z=> ?_) (fun z=> ?_)
 ·rw [z]at hd;simp [ae,hd]
 ·rw [z]at hd;simp [ae,hd]
structure Touch where
 ah:List Int
 aa:List Int
 cells:List Int
def Touch.row (t:Touch):List PV:=[.slice (t.ah.map aF), .slice (t.aa.map aF), .slice (t.cells.map aF)]
noncomputable def b9:aw→Nat→ak→Touch:=nO fun s w a=>
 if a.kind=1 then ⟨[a.aO],[],[s.ah.getD w 0,a.cell]⟩
 else if a.kind=2 then ⟨[a.aO],[a.bf],[]⟩
 else if a.kind=4 then ⟨[a.aO,a.other],[bF s w a.hand],[]⟩
 else if a.kind=5∨a.kind=6 then ⟨[a.aO],[bF s w a.hand,bF s w (1-a.hand)],[]⟩
 else ⟨[a.aO],[bF s w a.hand],[]⟩
theorem dS (s:aw)(w:Nat)(a:ak):b9 s w a=
 if a.kind=1 then ⟨[a.aO],[],[s.ah.getD w 0,a.cell]⟩
 else if a.kind=2 then ⟨[a.aO],[a.bf],[]⟩
 else if a.kind=4 then ⟨[a.aO,a.other],[bF s w a.hand],[]⟩
 else if a.kind=5∨a.kind=6 then ⟨[a.aO],[bF s w a.hand,bF s w (1-a.hand)],[]⟩
 else ⟨[a.aO],[bF s w a.hand],[]⟩:=by rw [b9,cP]
theorem vJ (s:aw)(w:Nat)(a:ak):(b9 s w a).ah.length≤2∧(b9 s w a).aa.length≤2∧(b9 s w a).cells.length≤2:=by
 rw [dS]
 repeat' split
 all_goals simp
theorem Fu {s:aw}{w:Nat}{q1 kind bf cell other q3 q4:Int}(hp:w<s.ah.length)(hh:w<s.aq.length)(hH:0<H.length):
  aL KC (aE KC) 88 [.pure (.agg s.row), .pure (.agg [.int .i64 q1, .int .i64 w, .int .i64 kind, .int .i64 0, .int .i64 bf, .int .i64 cell, .int .i64 other, .int .i64 q3, .int .i64 q4])] c H=
    some (.pure (.agg (b9 s w ⟨q1,w,kind,0,bf,cell,other,q3,q4⟩).row),H):=by
 refine aM (bd KC au Tryz.func88 rfl rfl Hn rfl rfl rfl (by simp) hH ?_);have hg:s.aq.getD w bA=s.aq[w]:=(by simp [List.getD_eq_getElem?_getD,hh]);have hgp:s.ah.getD w 0=s.ah[w]:=(by simp [List.getD_eq_getElem?_getD,hp]);have eh:bF s w 0=s.aq[w].l:=(by unfold bF;rw [hg];simp);have eo:bF s w (1-0)=s.aq[w].r:=(by unfold bF;rw [hg];simp);have wr:IntKind.i64.wrap (1-0)=1:=rfl;have hnl: ¬H.length≤H.length-1:=(by omega);have hd:=dS s w ⟨q1,w,kind,0,bf,cell,other,q3,q4⟩;simp only [eh,eo,hgp]at hd;simp only [aw.row];by_cases k1:kind=1
 ·subst k1;simp at hd;simp [hp,hh,aF,aG.row,wr,ae,hd,Touch.row,hnl]
 by_cases k2:kind=2
 ·subst k2;simp at hd;simp [hp,hh,aF,aG.row,wr,ae,hd,Touch.row,hnl]
 by_cases k4:kind=4
 ·subst k4;simp at hd;simp [hp,hh,aF,aG.row,wr,ae,hd,Touch.row,hnl]
 by_cases k5:kind=5
 ·subst k5;simp at hd;simp [hp,hh,aF,aG.row,wr,ae,hd,Touch.row,hnl]
 by_cases k6:kind=6
 ·subst k6;simp at hd;simp [hp,hh,aF,aG.row,wr,ae,hd,Touch.row,hnl]
 have k1':(kind==1)=false:=(by simpa using k1);have k2':(kind==2)=false:=(by simpa using k2);have k4':(kind==4)=false:=(by simpa using k4);have k5':(kind==5)=false:=(by simpa using k5);have k6':(kind==6)=false:=(by simpa using k6);simp [k1,k2,k4,k5,k6]at hd;simp [hp,hh,aF,aG.row,wr,k1',k2',k4',k5',k6',ae,hd,Touch.row,hnl]
theorem Fv {s:aw}{w:Nat}{q1 kind bf cell other q3 q4:Int}(hp:w<s.ah.length)(hh:w<s.aq.length)(hH:0<H.length):
  aL KC (aE KC) 88 [.pure (.agg s.row), .pure (.agg [.int .i64 q1, .int .i64 w, .int .i64 kind, .int .i64 1, .int .i64 bf, .int .i64 cell, .int .i64 other, .int .i64 q3, .int .i64 q4])] c H=
    some (.pure (.agg (b9 s w ⟨q1,w,kind,1,bf,cell,other,q3,q4⟩).row),H):=by
 refine aM (bd KC au Tryz.func88 rfl rfl Hn rfl rfl rfl (by simp) hH ?_);have hg:s.aq.getD w bA=s.aq[w]:=(by simp [List.getD_eq_getElem?_getD,hh]);have hgp:s.ah.getD w 0=s.ah[w]:=(by simp [List.getD_eq_getElem?_getD,hp]);have eh:bF s w 1=s.aq[w].r:=(by unfold bF;rw [hg];simp);have eo:bF s w (1-1)=s.aq[w].l:=(by unfold bF;rw [hg];simp);have wr:IntKind.i64.wrap (1-1)=0:=rfl;have hnl: ¬H.length≤H.length-1:=(by omega);have hd:=dS s w ⟨q1,w,kind,1,bf,cell,other,q3,q4⟩;simp only [eh,eo,hgp]at hd;simp only [aw.row];by_cases k1:kind=1
 ·subst k1;simp at hd;simp [hp,hh,aF,aG.row,wr,ae,hd,Touch.row,hnl]
 by_cases k2:kind=2
 ·subst k2;simp at hd;simp [hp,hh,aF,aG.row,wr,ae,hd,Touch.row,hnl]
 by_cases k4:kind=4
 ·subst k4;simp at hd;simp [hp,hh,aF,aG.row,wr,ae,hd,Touch.row,hnl]
 by_cases k5:kind=5
 ·subst k5;simp at hd;simp [hp,hh,aF,aG.row,wr,ae,hd,Touch.row,hnl]
 by_cases k6:kind=6
 ·subst k6;simp at hd;simp [hp,hh,aF,aG.row,wr,ae,hd,Touch.row,hnl]
 have k1':(kind==1)=false:=(by simpa using k1);have k2':(kind==2)=false:=(by simpa using k2);have k4':(kind==4)=false:=(by simpa using k4);have k5':(kind==5)=false:=(by simpa using k5);have k6':(kind==6)=false:=(by simpa using k6);simp [k1,k2,k4,k5,k6]at hd;simp [hp,hh,aF,aG.row,wr,k1',k2',k4',k5',k6',ae,hd,Touch.row,hnl]
theorem Bb {s:aw}{w:Nat}{a:ak}(hp:w<s.ah.length)(hh:w<s.aq.length)(hw:a.aO=w)(ha:a.hand=0∨a.hand=1)(hH:0<H.length):
  aL KC (aE KC) 88 [.pure (.agg s.row), .pure (.agg a.row)] c H=some (.pure (.agg (b9 s w a).row),H):=by
 obtain⟨q1,aO,kind,hand,bf,cell,other,q3,q4⟩:=a;simp only at hw ha;subst hw;rcases ha with rfl|rfl
 ·exact Fu hp hh hH
 ·exact Fv hp hh hH
noncomputable def xG:Touch→Touch→Bool:=nO fun a b=>gf a.ah b.ah||(gf a.aa b.aa||gf a.cells b.cells)
theorem xH (a b:Touch):xG a b=(gf a.ah b.ah||(gf a.aa b.aa||gf a.cells b.cells)):=by rw [xG,cP]
theorem Na {a b:Touch}(ha:a.ah.length≤2∧a.aa.length≤2∧a.cells.length≤2)(hb:b.ah.length≤2∧b.aa.length≤2∧b.cells.length≤2)(hH:0<H.length):
  aL KC (aE KC) 87 [.pure (.agg a.row), .pure (.agg b.row)] c H=some (.pure (.bool (xG a b)),H):=by
 refine eJ rfl rfl rfl rfl rfl hH fun H hH=> ?_;refine aM (aK KC au Tryz.func87 rfl rfl Tp (by simp) hH ?_);have hd:=xH a b;have C:=fun(l m:List Int) (hl:l.length≤2) (hm:m.length≤2) (c:Nat) (H:aj) (hH:0<H.length)=>Ft (c:=c) (H:=H) (l:=l) (m:=m) (by omega) (by omega) hH;simp only [Touch.row]
 cases z1:gf a.ah b.ah with
 |true=>
  simp [z1]at hd;simp [C,ha,hb,z1,ae,hd]
 |false=>
  cases z2:gf a.aa b.aa with
  |true=>
   simp [z1,z2]at hd;simp [C,ha,hb,z1,z2,ae,hd]
  |false=>
   simp [z1,z2]at hd;simp [C,ha,hb,z1,z2,ae,hd]
noncomputable def qm:aw→Nat→ak→Nat→ak→Bool:=nO fun s w a v b=> !xG (b9 s w a) (b9 s v b)
theorem vp (s:aw)(w:Nat)(a:ak)(v:Nat)(b:ak):qm s w a v b= !xG (b9 s w a) (b9 s v b):=by rw [qm,cP]
theorem HX {s:aw} {w v:Nat} {a b:ak} (hp:w<s.ah.length) (hh:w<s.aq.length) (hw:a.aO=w) (ha:a.hand=0∨a.hand=1)
  (hp2:v<s.ah.length) (hh2:v<s.aq.length) (hw2:b.aO=v) (hb:b.hand=0∨b.hand=1) (hH:0<H.length):
  bI KC (aE KC) 53 [.pure (.agg s.row), .pure (.agg a.row), .pure (.agg b.row)] c H=some (.pure (.bool (qm s w a v b)),H):=by
 refine aM (aK KC au Tryz.func53 rfl rfl SY (by simp) hH ?_);have hd:=vp s w a v b;have T1:=fun c (H:aj) (hH:0<H.length)=>Bb (c:=c) (H:=H) hp hh hw ha hH;have T2:=fun c (H:aj) (hH:0<H.length)=>Bb (c:=c) (H:=H) hp2 hh2 hw2 hb hH;have B:=fun c (H:aj) (hH:0<H.length)=>Na (c:=c) (H:=H) (vJ s w a) (vJ s v b) hH;simp only [aw.row,ak.row,Touch.row]at T1 T2 B⊢;simp [T1,T2,B,ae,hd]
end
section
variable {c:Nat} {H:aj}
@[simp] theorem ZO (x:Int):(aF x).length=1:=rfl
@[simp] theorem ZP (x:aG):x.row.length=2:=rfl
@[simp] theorem ZQ (x:bC):x.row.length=2:=rfl
theorem T3 {n1 n2 n3:Nm} {v1 v2 v3:Nat} {s:aw} (h:mD H n1 n2 n3 v1 v2 v3 s) (p0:s.ah≠[]) (h0:s.aq≠[]) (t0:s.aa≠[]) (pl:s.ah.length≤1000000) (hl:s.aq.length≤1000000) (tl:s.aa.length≤1000000) (hH:0<H.length)
  (hf1:H.get (H.length-1,ao c 6)=none) (hf2:H.get (H.length-1,ao c 10)=none) (hf3:H.get (H.length-1,ao c 14)=none):
  aL KC (aE KC) 50 [lC n1 n2 n3 s] c H=some (lC (H.length-1,ao c 6) (H.length-1,ao c 10) (H.length-1,ao c 14) s,
   cA H (H.length-1,ao c 6) (H.length-1,ao c 10) (H.length-1,ao c 14) 0 0 0 s):=by
 refine aM (bh KC au Tryz.func50 rfl rfl SV rfl rfl rfl (by simp) hH ?_);have l1:=aj.bR h.g1;have l2:=aj.bR h.g2;have l3:=aj.bR h.g3;have d1: ¬n1.1=H.length:=(by omega);have d2: ¬n2.1=H.length:=(by omega);have d3: ¬n3.1=H.length:=(by omega);have b1:s.ah.length*8≤1099511627776:=(by omega);have b2:s.aq.length*16≤1099511627776:=(by omega);have b3:s.aa.length*16≤1099511627776:=(by omega);have nV:ao c 6≠ao c 10:=(by unfold ao;omega);have m9:ao c 6≠ao c 14:=(by unfold ao;omega);have lM:ao c 10≠ao c 14:=(by unfold ao;omega);have k1:(H.length-1,ao c 10)≠((H.length-1,ao c 6):Nm):=fun e=>nV (Prod.mk.inj e).2.symm;have k2:(H.length-1,ao c 14)≠((H.length-1,ao c 6):Nm):=fun e=>m9 (Prod.mk.inj e).2.symm;have k3:(H.length-1,ao c 14)≠((H.length-1,ao c 10):Nm):=fun e=>lM (Prod.mk.inj e).2.symm;have g2: ∀b,(H.set (H.length-1,ao c 6) b).get (H.length-1,ao c 10)=none:=fun b=>(aj.aH b k1).trans hf2;have g3: ∀b b',((H.set (H.length-1,ao c 6) b).set (H.length-1,ao c 10) b').get (H.length-1,ao c 14)=none:=fun b b'=>(aj.aH b' k3).trans ((aj.aH b k2).trans hf3);have tp:List.take s.ah.length (s.ah.map aF)=s.ah.map aF:=List.take_of_length_le (by simp);have th:List.take s.aq.length (s.aq.map aG.row)=s.aq.map aG.row:=List.take_of_length_le (by simp);have tt:List.take s.aa.length (s.aa.map bC.row)=s.aa.map bC.row:=List.take_of_length_le (by simp);have hn: ¬H.length+1≤H.length:=(by omega);simp only [lC];simp [tp,th,tt,hn,d1,d2,d3,h.g1,h.g2,h.g3,h.e1,h.e2,h.e3,p0,h0,t0,b1,b2,b3];simp [bU,refs,dM,c9,cz,dq,dr,dedup,cJ,cf,tr,hf1,g2,g3,ux,jY,gY,cA]
end
section
variable {c:Nat} {H:aj}
def rP (l:List Int)(i j:Nat):List Int:=((l++[(i:Int)]).set i ((l++[(i:Int)]).getD j 0)).set j i
theorem Fy (l:List Int)(i j:Nat):(rP l i j).length=l.length+1:=by simp [rP]
noncomputable def iZ:Nat→Nat→List Int→Int→List Int×Int
 |0,_,l,wd=>(l,wd)
 |k+1,i,l,wd=>iZ k (i+1) (rP l i (lA wd (i+1:Nat)).1.toNat) (lA wd (i+1:Nat)).2
theorem set_perm (l:List Int)(j:Nat)(hj:j<l.length)(x:Int):(l.set j x++[l[j]]).Perm (l++[x]):=by
 have e:l=l.take j++l[j]::l.drop (j+1):=(by rw [←List.drop_eq_getElem_cons hj,List.take_append_drop]);have e2:l.set j x=l.take j++x::l.drop (j+1):=List.set_eq_take_append_cons_drop .. |>.trans (by simp [hj]);rw [e2];conv=>rhs;rw [e]
 simp only [List.append_assoc];refine List.Perm.append_left _ ?_;simp only [List.cons_append];refine(List.Perm.cons x List.perm_append_comm).trans ?_;simp only [List.singleton_append];refine(List.Perm.swap ..).trans ?_;refine List.Perm.cons _ ?_;exact(List.perm_append_comm (l₁:=[x]) (l₂:=l.drop (j+1)))
theorem CX (l:List Int)(i j:Nat)(hl:l.length=i)(hj:j≤i):(rP l i j).Perm (l++[(i:Int)]):=by
 subst hl;unfold rP;by_cases e:j=l.length
 ·subst e;simp
 ·have hj':j<l.length:=(by omega);have h1:(l++[(l.length:Int)]).getD j 0=l[j]:=(by simp [List.getD_eq_getElem?_getD,List.getElem?_append_left hj',hj']);rw [h1];have h2:(l++[(l.length:Int)]).set l.length l[j]=l++[l[j]]:=(by simp);rw [h2];have h3:(l++[l[j]]).set j (l.length:Int)=l.set j l.length++[l[j]]:=(by rw [List.set_append_left _ _ hj']);rw [h3];exact set_perm l j hj' _
theorem tF: ∀(k i:Nat) (l:List Int) (wd:Int),l.Perm ((List.range i).map Int.ofNat)→i+k≤1000000→(iZ k i l wd).1.Perm ((List.range (i+k)).map Int.ofNat)
 |0,i,l,wd,h,_=>by simpa [iZ]using h
 |k+1,i,l,wd,h,hk=>by
  have hr:=kB wd ((i+1:Nat):Int) (by omega);have hl:l.length=i:=(by simpa using h.length_eq);have e:i+(k+1)=i+1+k:=(by omega);rw [iZ,e];refine tF k (i+1) _ _ ((CX l i _ hl (by omega)).trans ?_) (by omega);rw [List.range_succ,List.map_append];exact h.append_right _
def CY (l:List Int):Fr:=[(20, .arr 1 (l.map aF) l.length false)]
theorem CZ {nm:Nm}(hlt:nm.1<H.length)(n:Nat)(hn:n≤1000000)(Q:GX→bO→Prop): ∀(k i:Nat) (l:List Int) (wd:Int),i+k=n→l.length=i→0<i→
  Q (.exit 0) ⟨[(5, .bc (H.length,20) 1 (iZ k i l wd).1.length 0 (iZ k i l wd).1.length)],CY (iZ k i l wd).1::H.set nm (bw (iZ k i l wd).2),36⟩→
  iB KC au 83 (lp Tryz.f83 0) [0,1,5,6] [5] Q
   [(0, .ay nm 0),(1, .pure (.int .i64 n)),(5, .bc (H.length,20) 1 l.length 0 l.length),(6, .pure (.int .i64 i))] (CY l::H.set nm (bw wd)) 36:=by
 have hB: ∀w f0 f1,fU (f0::f1::H.set nm (bw w)) nm:=fun w f0 f1=>dU (dU (kU hlt));have hne: ¬nm.1=H.length:=(by omega);have hne2: ¬nm.1=H.length+1:=(by omega);have hle:nm.1≤H.length:=(by omega);intro k
 induction k with
 |zero=>
  intro i l wd hi hl h0 hq;have: ¬i<n:=(by omega);apply ax;conv=>arg 4;whnf
  simp [CY,this,aj.length_set];simpa [CY,iZ]using hq
 |succ k ih=>
  intro i l wd hi hl h0 hq;have hia:i<n:=(by omega);have hw:=dp (x:=(i:Int)+1) (by omega) (by omega);have hr:=kB wd ((i+1:Nat):Int) (by omega);obtain⟨j,ej⟩: ∃j:Nat,(lA wd ((i+1:Nat):Int)).1=j:=⟨(lA wd ((i+1:Nat):Int)).1.toNat,by omega⟩;have ih':=ih (i+1) (rP l i j) (lA wd ((i+1:Nat):Int)).2 (by omega) (by rw [Fy,hl]) (by omega);rw [iZ,ej,Int.toNat_natCast]at hq;have ih'':=ih' hq;have hji:j<l.length+1:=(by omega);have ec:((i+1:Nat):Int)=(i:Int)+1:=(by omega);rw [ec]at ej ih'';have hb:(l.length+1)*8≤1099511627776:=(by omega);have hnb:(i:Int)+1≤9223372036854775807:=(by omega);have hW: ∀w f0 f1,bD (f0::f1::H.set nm (bw w)) nm=w:=fun w f0 f1=>(by rw [dx (by simp [aj.length_set];omega),dx (by simpa [aj.length_set]using hlt),kT hlt]);subst hl;obtain⟨m,em⟩: ∃m,m=l++[(l.length:Int)]:=⟨_,rfl⟩;have hm:m.length=l.length+1:=(by simp [em]);have ra:List.map aF l++[[PV.int .i64 l.length]]=List.map aF m:=(by simp [em,aF]);have hjm:j<m.length:=(by omega);have him:l.length<m.length:=(by omega);have hjI:(j:Int)<(l.length:Int)+1:=(by omega);have hiI:(l.length:Int)<(l.length:Int)+1:=(by omega);have gi:m[l.length]=(l.length:Int):=(by simp [em]);have sw:rP l l.length j=(m.set l.length m[j]).set j l.length:=by
   unfold rP;rw [←em];simp [List.getD_eq_getElem?_getD,hjm]
  rw [sw]at ih'';have hgj:((List.map aF m).set l.length [PV.int .i64 m[j]])[j]'(by simpa using hjm)=[PV.int .i64 m[j]]:=by rw [List.getElem_set];split<;>simp [aF]
  apply ax;conv=>arg 4;whnf
  simp [CY,hia,hw,aj.length_set,kV,hB,hW,hnb,hlt,hne,hne2,aj.dF,ej,hb,hji,hjI,hiI,hle,ra,hm,aF,aD,gi,hgj];simpa [CY,aF,hm]using ih''
noncomputable def sT:Nat→Int→List Int×Int:=nO fun n wd=>iZ n 0 [] wd
theorem vK (n:Nat)(wd:Int):sT n wd=iZ n 0 [] wd:=by rw [sT,cP]
theorem Bc {n:Nat}(wd:Int)(hn:n≤1000000):(sT n wd).1.Perm ((List.range n).map Int.ofNat):=by
 rw [vK];simpa using tF n 0 [] wd (by simp) (by omega)
theorem Ii {nm:Nm}(hB:fU H nm){n:Nat}(h0:0<n)(hn:n≤1000000):
  aL KC (aE KC) 83 [.ay nm 0, .pure (.int .i64 n)] c H=some (.pure (.slice ((sT n (bD H nm)).1.map aF)),H.set nm (bw (sT n (bD H nm)).2)):=by
 have hlt:=gz hB;have hset:=jI hB;have hne: ¬nm.1=H.length:=(by omega);have hne2: ¬nm.1=H.length+1:=(by omega);have hle:nm.1≤H.length:=(by omega);have hB2: ∀f0 f1,fU (f0::f1::H) nm:=fun f0 f1=>dU (dU hB);have hW: ∀f0 f1,bD (f0::f1::H) nm=bD H nm:=fun f0 f1=>(by rw [dx (by simp;omega),dx hlt]);have hnl: ¬H.length≤H.length-1:=(by omega);refine aM (bd KC au Tryz.func83 rfl rfl Tl rfl rfl rfl (by simp) (by omega) ?_);obtain⟨k,rfl⟩: ∃k,n=k+1:=⟨n-1,by omega⟩;have hr:=kB (bD H nm) 1 (by omega);have ej:(lA (bD H nm) 1).1=0:=(by omega);have L:=fun Q=>CZ (H:=H) hlt (k+1) hn Q k 1 [0] (lA (bD H nm) 1).2 (by omega) rfl (by omega);have hd:=vK (k+1) (bD H nm);have e1:iZ (k+1) 0 [] (bD H nm)=iZ k 1 [0] (lA (bD H nm) 1).2:=by
  rw [iZ];simp [ej,rP]
 rw [e1]at hd;have hk:(0:Int)<(k:Int)+1:=(by omega);simp [CY]at L;simp;apply ax;conv=>arg 4;whnf
 simp [hk,aj.length_set,kV,hB2,hW,hlt,hne,hne2,aj.dF,ej,hle,aF,aD];simp [aF]at L;refine L _ ?_;have tk: ∀l:List Int,List.take l.length (List.map aF l)=List.map aF l:=fun l=>List.take_of_length_le (by simp);simp [ae,hd,aj.length_set,hnl,tk]
end
section
variable {c:Nat} {H:aj}
theorem Cq {nm:Nm}(hlt:nm.1<H.length)(w:Int)(f0 f1:Fr):fU (f0::f1::H.set nm (bw w)) nm:=dU (dU (kU hlt))
theorem ZR {nm:Nm}(hlt:nm.1<H.length)(w:Int)(f1:Fr):fU (f1::H.set nm (bw w)) nm:=dU (kU hlt)
theorem u7 {nm:Nm}(hlt:nm.1<H.length)(w:Int)(f0 f1:Fr):bD (f0::f1::H.set nm (bw w)) nm=w:=by
 rw [dx (by simp [aj.length_set];omega),dx (by simpa [aj.length_set]using hlt),kT hlt]
theorem Qm {nm:Nm}(hlt:nm.1<H.length)(w:Int)(f1:Fr):bD (f1::H.set nm (bw w)) nm=w:=by
 rw [dx (by simpa [aj.length_set]using hlt),kT hlt]
def iI:dE:= .box [.pure (.int .i64 0), .pure (.int .i64 0), .aW, .aW, .aW, .aW, .aW]
def Ue (w d:Int)(L:Nat)(p:List aS):Fr:=
 [(4,iI),(5, .box [.pure (.int .i64 w), .pure (.int .i64 d), .bc (L,46) 2 p.length 0 p.length, .aW, .aW, .aW, .aW]),(46, .arr 2 (p.map aS.row) 0 false)]
theorem C0 {nm:Nm}(hlt:nm.1<H.length)(w d:Int)(cells:List Int)(hcl:cells.length≤1000000)(Q:GX→bO→Prop): ∀(k:Nat) (p:List aS) (wd:Int),p.length+k≤cells.length→0<p.length→p.map aS.cell=cells.take p.length→(∀x∈p,1≤x.role∧x.role≤3)→
  (∀(p':List aS) (wd':Int),p'.length=p.length+k→p'.map aS.cell=cells.take p'.length→(∀x∈p',1≤x.role∧x.role≤3)→
   Q (.exit 0) ⟨[(0, .ay nm 0),(4, .ay (H.length,4) 0),(5, .ay (H.length,5) 0)],Ue w d H.length p'::H.set nm (bw wd'),99⟩)→
  iB KC au 47 (lp Tryz.f47 0) [0,4,5,6,7] [0,4,5] Q
   [(0, .ay nm 0),(4, .ay (H.length,4) 0),(5, .ay (H.length,5) 0),(6, .pure (.slice (cells.map aF))),(7, .pure (.int .i64 k))] (Ue w d H.length p::H.set nm (bw wd)) 99:=by
 have hne: ¬nm.1=H.length:=(by omega);have hne2: ¬nm.1=H.length+1:=(by omega);have hle:nm.1≤H.length:=(by omega);have hB:=fun w f0 f1=>Cq hlt w f0 f1;have hW:=fun w f0 f1=>u7 hlt w f0 f1;intro k
 induction k with
 |zero=>
  intro p wd hi h0 hpc hpr hq;have hq':=hq p wd (by omega) hpc hpr;apply ax;conv=>arg 4;whnf
  simp [Ue,aj.length_set,hle];simpa [Ue]using hq'
 |succ k ih=>
  intro p wd hi h0 hpc hpr hq;have hw:=dp (x:=((k:Int)+1)-1) (by omega) (by omega);have hk:(0:Int)<(k:Int)+1:=(by omega);have hia:p.length<cells.length:=(by omega);have hr:=Am wd 1 3 (by omega) (by omega) (by omega);have hb:(p.length+1)*16≤1099511627776:=(by omega);have es:(k:Int)+1-1=k:=(by omega);rw [es]at hw
  have ih':=ih (p++[⟨(uR wd 1 3).1,cells[p.length]⟩]) (uR wd 1 3).2 (by simp;omega) (by simp) (by
   simp only [List.map_append,List.map_cons,List.map_nil,hpc,List.length_append,List.length_singleton];exact List.take_append_getElem hia) (by
   intro x hx;rcases List.mem_append.1 hx with hx|hx
   ·exact hpr x hx
   ·simp at hx;subst hx;exact hr) (fun p' wd' h1 h2 h3=>hq p' wd' (by rw [h1];simp;omega) h2 h3)
  apply ax;conv=>arg 4;whnf
  simp [Ue,hk,es,hw,aj.length_set,uS,hB,hW,hlt,hne,hne2,aj.dF,hle,aF,hia,hb];simpa [Ue,aS.row]using ih'
end
section
variable {c:Nat} {H:aj}
theorem pE (w n:Int)(h:n≤9223372036854775807)(h1:1≤n): ∃(i:Nat) (w':Int),lA w n=((i:Int),w')∧(i:Int)<n:=by
 have:=kB w n h;refine⟨(lA w n).1.toNat,(lA w n).2, ?_, ?_⟩
 ·rw [Int.toNat_of_nonneg this.1]
 ·omega
theorem mF (w:Int)(hi:Int)(h:hi≤1000000)(h1:1≤hi): ∃(i:Nat) (w':Int),uR w 1 hi=((i:Int),w')∧1≤i∧(i:Int)≤hi:=by
 have:=Am w 1 hi (by omega) (by omega) (by omega);refine⟨(uR w 1 hi).1.toNat,(uR w 1 hi).2, ?_, ?_, ?_⟩
 ·rw [Int.toNat_of_nonneg (by omega)]
 ·omega
 ·omega
def Nb (w d:Int)(L:Nat)(p:List aS)(ts:List aZ):Fr:=
 [(4,iI),(5, .box [.pure (.int .i64 w), .pure (.int .i64 d), .bc (L,46) 2 p.length 0 p.length,cY (L,83) 5 (ts.map aZ.row), .aW, .aW, .aW]),(46, .arr 2 (p.map aS.row) 0 false)]
def ThB (w d:Int)(t:aZ):Prop:=0≤t.cell∧t.cell<w*d∧0≤t.state∧t.state<16∧t.home=0∧t.want=0
theorem C6 {nm:Nm}(hlt:nm.1<H.length)(w d:Int)(hwd:IntKind.i64.wrap (w*d)=w*d)(hwd1:0<w*d)(hwd2:w*d≤1000000)(p:List aS)(hp:p≠[])(hpl:p.length≤1000000)(hpc: ∀x∈p,0≤x.cell∧x.cell<w*d)(Q:GX→bO→Prop): ∀(k:Nat) (ts:List aZ) (wd:Int),ts.length+k≤1000000→(∀t∈ts,ThB w d t)→
  (∀(ts':List aZ) (wd':Int),ts'.length=ts.length+k→(∀t∈ts',ThB w d t)→
   Q (.exit 2) ⟨[(0, .ay nm 0),(4, .ay (H.length,4) 0),(5, .ay (H.length,5) 0)],eG 83 5 (ts'.map aZ.row) (Nb w d H.length p ts')::H.set nm (bw wd'),99⟩)→
  iB KC au 47 (lp Tryz.f47 1) [0,4,5,8] [0,4,5] Q
   [(0, .ay nm 0),(4, .ay (H.length,4) 0),(5, .ay (H.length,5) 0),(8, .pure (.int .i64 k))] (eG 83 5 (ts.map aZ.row) (Nb w d H.length p ts)::H.set nm (bw wd)) 99:=by
 have hne: ¬nm.1=H.length:=(by omega);have hne2: ¬nm.1=H.length+1:=(by omega);have hle:nm.1≤H.length:=(by omega);have hB:=fun w f0 f1=>Cq hlt w f0 f1;have hW:=fun w f0 f1=>u7 hlt w f0 f1;have lp0:0<p.length:=List.length_pos_iff.2 hp;have hplI:(p.length:Int)≤9223372036854775807:=(by omega);have hwdI:w*d≤9223372036854775807:=(by omega);intro k
 induction k with
 |zero=>
  intro ts wd hi hts hq;have hq':=hq ts wd (by omega) hts;apply ax;conv=>arg 4;whnf
  simp [Nb,aj.length_set,hle];simpa [Nb]using hq'
 |succ k ih=>
  intro ts wd hi hts hq;have hw:=dp (x:=((k:Int)+1)-1) (by omega) (by omega);have hk:(0:Int)<(k:Int)+1:=(by omega);have hb:(ts.length+1)*40≤1099511627776:=(by omega);have es:(k:Int)+1-1=k:=(by omega);rw [es]at hw;obtain⟨i,w1,e1,hi1I⟩:=pE wd p.length hplI (by omega);have hi1:i<p.length:=(by omega);obtain⟨st,w2,e2,hst⟩:=pE w1 16 (by omega) (by omega);obtain⟨cl,w3,e3⟩: ∃(cl:Bool) (w3:Int),yJ w2 3=(cl,w3):=⟨_,_,rfl⟩;obtain⟨mv,w4,e4⟩: ∃(mv:Bool) (w4:Int),yJ w3 5=(mv,w4):=⟨_,_,rfl⟩;have hin: ¬(i:Int)<0:=by omega
  have ih':=fun(t:aZ) (w':Int) (ht:ThB w d t)=>ih (ts++[t]) w' (by simp;omega) (by
   intro x hx;rcases List.mem_append.1 hx with hx|hx
   ·exact hts x hx
   ·simp at hx;subst hx;exact ht) (fun p' wd' h1 h2=>hq p' wd' (by rw [h1];simp;omega) h2)
  have hcell:=hpc p[i] (List.getElem_mem hi1);apply ax;conv=>arg 4;whnf
  cases mv with
  |false=>
   have ih2:=ih' ⟨p[i].cell,st,0,0,cl⟩ w4 ⟨hcell.1,hcell.2,Int.natCast_nonneg st,hst,rfl,rfl⟩;simp [Nb,aZ.row]at ih2;simp [Nb,hk,es,hw,aj.length_set,kV,mZ,hB,hW,hplI,hlt,hne,hne2,aj.dF,hle,aF,hb,e1,e2,e3,e4,hi1,hi1I,hin,aS.row];exact ih2
  |true=>
   obtain⟨cc,w5,e5,hcc⟩:=pE w4 (w*d) hwdI (by omega);have ih2:=ih' ⟨cc,st,0,0,cl⟩ w5 ⟨Int.natCast_nonneg cc,hcc,Int.natCast_nonneg st,hst,rfl,rfl⟩;simp [Nb,aZ.row]at ih2;simp [Nb,hk,es,hw,aj.length_set,kV,mZ,hB,hW,hplI,hlt,hne,hne2,aj.dF,hle,aF,hb,e1,e2,e3,e4,e5,hwd,hwdI,hi1,hi1I,hin,aS.row];exact ih2
def Nc (w d:Int)(L:Nat)(p:List aS)(ts:List aZ)(ls:List Int):Fr:=
 [(4,iI),(5, .box [.pure (.int .i64 w), .pure (.int .i64 d), .bc (L,46) 2 p.length 0 p.length, .bc (L,83) 5 ts.length 0 ts.length, .aW,cY (L,96) 1 (ls.map aF), .aW]),(46, .arr 2 (p.map aS.row) 0 false),(83, .arr 5 (ts.map aZ.row) 0 false)]
theorem C7 {nm:Nm}(hlt:nm.1<H.length)(w d:Int)(p:List aS)(ts:List aZ)(Q:GX→bO→Prop): ∀(k i:Nat) (ls:List Int) (wd:Int),i+k=4→1≤i→ls.length<i→ls.Pairwise (· < ·)→(∀x∈ls,1≤x∧x<i)→
  (∀(ls':List Int) (wd':Int),ls'.length≤3→ls'.Pairwise (· < ·)→(∀x∈ls',1≤x∧x<4)→
   Q (.exit 4) ⟨[(4, .ay (H.length,4) 0),(5, .ay (H.length,5) 0)],eG 96 1 (ls'.map aF) (Nc w d H.length p ts ls')::H.set nm (bw wd'),99⟩)→
  iB KC au 47 (lp Tryz.f47 2) [0,4,5,10] [4,5] Q
   [(0, .ay nm 0),(4, .ay (H.length,4) 0),(5, .ay (H.length,5) 0),(10, .pure (.int .i64 i))] (eG 96 1 (ls.map aF) (Nc w d H.length p ts ls)::H.set nm (bw wd)) 99:=by
 have hne: ¬nm.1=H.length:=(by omega);have hne2: ¬nm.1=H.length+1:=(by omega);have hle:nm.1≤H.length:=(by omega);have hB:=fun w f0 f1=>Cq hlt w f0 f1;have hW:=fun w f0 f1=>u7 hlt w f0 f1;intro k
 induction k with
 |zero=>
  intro i ls wd hi h1 hl hps hb hq;have hq':=hq ls wd (by omega) hps (fun x hx=>⟨(hb x hx).1,by have:=(hb x hx).2;omega⟩);have: ¬(i:Int)≤3:=(by omega);apply ax;conv=>arg 4;whnf
  simp [Nc,aj.length_set,this];simpa [Nc]using hq'
 |succ k ih=>
  intro i ls wd hi h1 hl hps hb hq;have hw:=dp (x:=(i:Int)+1) (by omega) (by omega);have hk:(i:Int)≤3:=(by omega);have hbb:(ls.length+1)*8≤1099511627776:=(by omega);obtain⟨on,w1,e1⟩: ∃(on:Bool) (w1:Int),yJ wd 3=(on,w1):=⟨_,_,rfl⟩;apply ax;conv=>arg 4;whnf
  cases on with
  |true=>
   have ih2:=ih (i+1) ls w1 (by omega) (by omega) (by omega) hps (fun x hx=>⟨(hb x hx).1,by have:=(hb x hx).2;omega⟩) hq;simp [Nc]at ih2;simp [Nc,hk,hw,aj.length_set,mZ,hB,hW,hlt,hne,hne2,aj.dF,hle,e1];exact ih2
  |false=>
   have ih2:=ih (i+1) (ls++[(i:Int)]) w1 (by omega) (by omega) (by simp;omega) (List.pairwise_append.2 ⟨hps,by simp,fun a ha b hb'=>by simp at hb';subst hb';exact(hb a ha).2⟩)
    (fun x hx=>by
     rcases List.mem_append.1 hx with hx|hx
     ·exact⟨(hb x hx).1,by have:=(hb x hx).2;omega⟩
     ·simp at hx;subst hx;constructor<;>omega) hq
   simp [Nc,aF]at ih2;simp [Nc,hk,hw,aj.length_set,mZ,hB,hW,hlt,hne,hne2,aj.dF,hle,e1,aF,hbb];exact ih2
structure vC (r:aA):Prop where
 w1:1≤r.wide
 w3:r.wide≤3
 d1:1≤r.deep
 d3:r.deep≤3
 p0:r.ah≠[]
 p3:r.ah.length≤3
 pn:(r.ah.map aS.cell).Nodup
 pc: ∀x∈r.ah,(1≤x.role∧x.role≤3)∧0≤x.cell∧x.cell<r.wide*r.deep
 t0:r.aa≠[]
 t4:r.aa.length≤4
 tc: ∀t∈r.aa,ThB r.wide r.deep t
 seen:r.seen=[]
 lp:r.aX.Pairwise (· < ·)
 lr: ∀x∈r.aX,1≤x∧x<4
 ll:r.aX.length≤3
 ai:r.ai=[]
def vL (n2 n3 n5:Nm)(r:aA):GV:= .agg [.pure (.int .i64 r.wide), .pure (.int .i64 r.deep), .bc n2 2 r.ah.length 0 r.ah.length, .bc n3 5 r.aa.length 0 r.aa.length, .aW,cY n5 1 (r.aX.map aF), .aW]
def jf (H:aj)(nm:Nm)(es:Nat)(rows:List (List PV)):aj:=if rows=[]then H else H.set nm (.arr es rows 0 false)
theorem Fz {nm : Nm} (hB0 : fU H nm) {sd : Nat} (hsd : 1 ≤ sd ∧ sd ≤ 3)
    (hf1 : H.get (H.length - 1, ao c 46) = none) (hf2 : H.get (H.length - 1, ao c 83) = none) (hf3 : H.get (H.length - 1, ao c 96) = none) (hnk : ∀ k, nm ≠ (H.length - 1, ao c k)) :
    ∃ r wd, vC r ∧ aL KC (aE KC) 47 [.ay nm 0, .pure (.int .i64 sd)] c H = some (vL (H.length - 1, ao c 46) (H.length - 1, ao c 83) (H.length - 1, ao c 96) r,
      jf (((H.set nm (bw wd)).set (H.length - 1, ao c 46) (.arr 2 (r.ah.map aS.row) 0 false)).set (H.length - 1, ao c 83) (.arr 5 (r.aa.map aZ.row) 0 false)) (H.length - 1, ao c 96) 1 (r.aX.map aF)) := by
  have hlt := gz hB0
  have hset := jI hB0
  have hne : ¬ nm.1 = H.length := by omega
  have hne2 : ¬ nm.1 = H.length + 1 := by omega
  have hle : nm.1 ≤ H.length := by omega
  suffices hs : mm (aL KC (aE KC) 47 [.ay nm 0, .pure (.int .i64 sd)] c H) (fun x => ∃ r wd, vC r ∧ x = (vL (H.length - 1, ao c 46) (H.length - 1, ao c 83) (H.length - 1, ao c 96) r,
      jf (((H.set nm (bw wd)).set (H.length - 1, ao c 46) (.arr 2 (r.ah.map aS.row) 0 false)).set (H.length - 1, ao c 83) (.arr 5 (r.aa.map aZ.row) 0 false)) (H.length - 1, ao c 96) 1 (r.aX.map aF))) by
    obtain ⟨x, hx, r, wd, h1, h2⟩ := hs
    exact ⟨r, wd, h1, by rw [hx, h2]⟩
  refine bd KC au Tryz.func47 rfl rfl SQ rfl rfl rfl (by simp) (by omega) ?_
  obtain ⟨w0, hw0⟩ : ∃ w0, bD H nm = w0 := ⟨_, rfl⟩
  rw [hw0] at hset
  have hB' : ∀ f, fU (f :: H) nm := fun f => dU hB0
  have hW' : ∀ f, bD (f :: H) nm = w0 := fun f => (dx hlt).trans hw0
  have hB1 := fun w f => ZR hlt w f
  have hW1 := fun w f => Qm hlt w f
  have hB2 := fun w f0 f1 => Cq hlt w f0 f1
  have hW2 := fun w f0 f1 => u7 hlt w f0 f1
  obtain ⟨wi, w1, e1, hwi1, hwi3⟩ := mF w0 sd (by omega) (by omega)
  obtain ⟨de, w2, e2, hde1, hde3⟩ := mF w1 sd (by omega) (by omega)
  obtain ⟨N, hN⟩ : ∃ N, N = wi * de := ⟨_, rfl⟩
  have hN9 : N ≤ 3 * 3 := by rw [hN]; exact Nat.mul_le_mul (by omega) (by omega)
  have hN0 : 0 < N := by rw [hN]; exact Nat.mul_pos hwi1 hde1
  have hNI : (wi : Int) * (de : Int) = (N : Int) := by rw [hN]; simp
  have hwN : IntKind.i64.wrap ((wi : Int) * (de : Int)) = (N : Int) := by rw [hNI]; exact dp (by omega) (by omega)
  obtain ⟨cells, w3, e3⟩ : ∃ cells w3, sT N w2 = (cells, w3) := ⟨_, _, rfl⟩
  have hpm : cells.Perm ((List.range N).map Int.ofNat) := by have := Bc (n := N) w2 (by omega); rwa [e3] at this
  have hcl : cells.length = N := by simpa using hpm.length_eq
  have hcn : cells.Nodup := hpm.nodup_iff.2 (List.Pairwise.map Int.ofNat (fun a b h e => h (Int.ofNat.inj e)) List.nodup_range)
  have hcr : ∀ x ∈ cells, 0 ≤ x ∧ x < N := fun x hx => by
    have := hpm.mem_iff.1 hx
    simp only [List.mem_map, List.mem_range] at this
    obtain ⟨a, h1, h2⟩ := this
    subst h2; constructor
    · exact Int.natCast_nonneg a
    · exact Int.ofNat_lt.2 h1
  obtain ⟨mn, hmn⟩ : ∃ mn : Nat, mn = min 3 N := ⟨_, rfl⟩
  have hmI : (if (N : Int) < 3 then (N : Int) else 3) = (mn : Int) := by split <;> omega
  obtain ⟨np, w4, e4, hnp1, hnp2⟩ := mF w3 mn (by omega) (by omega)
  obtain ⟨m, rfl⟩ : ∃ m, np = m + 1 := ⟨np - 1, by omega⟩
  obtain ⟨ro, w5, e5, hro1, hro3⟩ := mF w4 3 (by omega) (by omega)
  have c0 : 0 < cells.length := by omega
  have hNm : N ≤ 1000000 := by omega
  have gc : cells[0]? = some cells[0] := List.getElem?_eq_getElem c0
  simp
  simp [aj.length_set, uS, Ii, hB', hW', hB1, hW1, hB2, hW2, hlt, hne, hne2, aj.dF, hle, e1, e2, hwN, hN0, hNm, e3, hcl, hmI, e4]
  have hes : ((m : Int) + 1) - 1 = m := by omega
  have hwm := dp (x := (m : Int)) (by omega) (by omega)
  have hm0 : (0 : Int) < (m : Int) + 1 := by omega
  have hN1 : (0 : Int) < (N : Int) := by omega
  have L1 := fun Q => C0 (H := H) hlt wi de cells (by omega) Q m [⟨ro, cells[0]⟩] w5 (by simp; omega) (by simp) (by simp [List.take_one, List.head?_eq_getElem?, c0]) (by simp; omega)
  simp [Ue, iI, aS.row] at L1
  apply ax
  conv => arg 4; whnf
  simp [hm0, hes, hwm, aj.length_set, uS, hB2, hW2, hlt, hne, hne2, aj.dF, hle, e5, hN1, hcl, aF, gc]
  refine L1 _ fun p wd1 hp1 hp2 hp3 => ?_
  clear L1
  have hp0 : p ≠ [] := by intro h; subst h; simp at hp1; omega
  have hpl : p.length ≤ 3 := by omega
  have hpc : ∀ x ∈ p, 0 ≤ x.cell ∧ x.cell < (wi : Int) * de := fun x hx => by
    have h1 : x.cell ∈ p.map aS.cell := List.mem_map_of_mem hx
    rw [hp2] at h1
    have := hcr _ (List.mem_of_mem_take h1)
    rw [hNI]; exact this
  obtain ⟨nt, w6, e6, hnt1, hnt4⟩ := mF wd1 4 (by omega) (by omega)
  have L2 := fun Q => C6 (H := H) hlt wi de (by rw [hwN, hNI]) (by rw [hNI]; omega) (by rw [hNI]; omega) p hp0 (by omega) hpc Q nt [] w6 (by simp; omega) (by simp)
  simp [Nb, iI, fI, fJ] at L2
  simp [aj.length_set, uS, hB1, hW1, hlt, hne, hne2, aj.dF, hle, e6]
  refine L2 _ fun ts wd2 ht1 ht2 => ?_
  clear L2
  have ht0 : ts ≠ [] := by intro h; subst h; simp at ht1; omega
  have L3 := fun Q => C7 (H := H) hlt wi de p ts Q 3 1 [] wd2 (by omega) (by omega) (by simp) .nil (by simp)
  simp [Nc, iI, fI, fJ] at L3
  simp [cY, eG, ht0]
  refine L3 _ fun ls wd3 hl1 hl2 hl3 => ?_
  clear L3
  have hRB : vC ⟨wi, de, p, ts, [], ls, []⟩ :=
    { w1 := by show (1 : Int) ≤ wi; omega, w3 := by show (wi : Int) ≤ 3; omega, d1 := by show (1 : Int) ≤ de; omega, d3 := by show (de : Int) ≤ 3; omega, p0 := hp0, p3 := hpl, pn := by
        show (p.map aS.cell).Nodup
        rw [hp2]; exact hcn.sublist (List.take_sublist ..), pc := fun x hx => ⟨hp3 x hx, hpc x hx⟩, t0 := ht0, t4 := by show ts.length ≤ 4; omega, tc := ht2, seen := rfl, lp := hl2, lr := hl3, ll := hl1, ai := rfl }
  have nV : ao c 46 ≠ ao c 83 := by unfold ao; omega
  have m9 : ao c 46 ≠ ao c 96 := by unfold ao; omega
  have lM : ao c 83 ≠ ao c 96 := by unfold ao; omega
  have k1 : (H.length - 1, ao c 83) ≠ ((H.length - 1, ao c 46) : Nm) := fun e => nV (Prod.mk.inj e).2.symm
  have k2 : (H.length - 1, ao c 96) ≠ ((H.length - 1, ao c 46) : Nm) := fun e => m9 (Prod.mk.inj e).2.symm
  have k3 : (H.length - 1, ao c 96) ≠ ((H.length - 1, ao c 83) : Nm) := fun e => lM (Prod.mk.inj e).2.symm
  have g1 : (H.set nm (bw wd3)).get (H.length - 1, ao c 46) = none := (aj.aH _ (hnk _).symm).trans hf1
  have g2 : ∀ b, ((H.set nm (bw wd3)).set (H.length - 1, ao c 46) b).get (H.length - 1, ao c 83) = none := fun b => (aj.aH b k1).trans ((aj.aH _ (hnk _).symm).trans hf2)
  have g3 : ∀ b b', (((H.set nm (bw wd3)).set (H.length - 1, ao c 46) b).set (H.length - 1, ao c 83) b').get (H.length - 1, ao c 96) = none := fun b b' => (aj.aH b' k3).trans ((aj.aH b k2).trans ((aj.aH _ (hnk _).symm).trans hf3))
  simp
  suffices hs : ∀ x, fW KC 47 c (GV.agg
        [GV.pure (PV.int IntKind.i64 ↑wi), GV.pure (PV.int IntKind.i64 ↑de),
          GV.bc (List.length H, 46) 2 p.length 0 p.length, GV.bc (List.length H, 83) 5 ts.length 0 ts.length, GV.aW,
          cY (List.length H, 96) 1 (List.map aF ls), GV.aW])
      (eG 96 1 (List.map aF ls)
          [(4, x), (5, x),
            (46, dE.arr 2 (List.map aS.row p) 0 false), (83, dE.arr 5 (List.map aZ.row ts) 0 false)] ::
        H.set nm (bw wd3)) = some (vL (List.length H - 1, ao c 46) (List.length H - 1, ao c 83) (List.length H - 1, ao c 96) ⟨wi, de, p, ts, [], ls, []⟩,
              jf
                (((H.set nm (bw wd3)).set (List.length H - 1, ao c 46)
                      (dE.arr 2 (List.map aS.row p) 0 false)).set
                  (List.length H - 1, ao c 83) (dE.arr 5 (List.map aZ.row ts) 0 false))
                (List.length H - 1, ao c 96) 1 (List.map aF ls)) by
    rw [hs]
    rw [gB]
    exact ⟨_, hRB, _, rfl⟩
  intro x
  by_cases hls : ls = []
  · subst hls
    simp [fI, fJ, bU, refs, dM, c9, cz, dq, dr, dedup, cJ, cf, tr, g1, g2, g3, ux, jY, gY, vL, jf, aj.length_set, aS.row, aZ.row]
  · simp [cY, eG, hls, bU, refs, dM, c9, cz, dq, dr, dedup, cJ, cf, tr, g1, g2, g3, ux, jY, gY, vL, jf, aj.length_set, aS.row, aZ.row]
end
end Go.Gh
