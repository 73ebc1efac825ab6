/- Texts joined: the evaluator over ghost values, its soundness, the walks. Spaces struck and names made short by a program, for the size. -/
import Derived.Test.YtkcmcjohoockcaaGreatGc4f
namespace Go.Gh
open Go.Proofs
set_option linter.unusedVariables false
set_option linter.unusedSimpArgs false
set_option linter.unnecessarySimpa false
set_option maxRecDepth 100000
set_option maxHeartbeats 8000000
section
variable {c:Nat} {H:aj}
def oD (p:Nat→Bool):Nat→Nat→Int
 |0,_=> -1
 |k+1,i=>if p i=true then (i:Int)else oD p k (i+1)
theorem oE {p:Nat→Bool}: ∀{k i:Nat},0≤oD p k i↔ ∃j,i≤j∧j<i+k∧p j=true
 |0,i=>by simp [oD];intro j h1 h2;omega
 |k+1,i=>by
  unfold oD;by_cases h:p i=true
  ·simp only [h,if_true];exact⟨fun _=>⟨i,Nat.le_refl _,by omega,h⟩,fun _=>by omega⟩
  ·rw [if_neg h,oE];constructor
   ·rintro⟨j,h1,h2,h3⟩;exact⟨j,by omega,by omega,h3⟩
   ·rintro⟨j,h1,h2,h3⟩;rcases Nat.lt_or_ge i j with h4|h4
    ·exact⟨j,h4,by omega,h3⟩
    ·have:j=i:=(by omega);subst this;exact absurd h3 h
def cn:ak:=⟨0,0,0,0,0,0,0,0,0⟩
@[simp] theorem ak.eta (a:ak):(⟨a.aR,a.aO,a.kind,a.hand,a.a9,a.cell,a.other,a.cd,a.iv⟩:ak)=a:=rfl
def V9 (p:ak→Bool)(l:List ak)(j:Nat):Bool:=p (l.getD j cn)
theorem Ai (p:ak→Bool)(l:List ak)(i:Nat)(h:i<l.length):V9 p l i=p l[i]:=by simp [V9,List.getD_eq_getElem?_getD,h]
theorem JP (l:List ak) (hn:l.length≤4611686018427387904) (p:ak→Bool) (g:GV) (hg: ∀(x:ak) (c:Nat) (fr:Fr),ff KC (aC KC) g [.pure (.agg x.row)] c (fr::H)=some (.pure (.bool (p x)),fr::H))
  (hcl: ∀fr,clean (fr::H) (H.length-1) g=g) (Q:GX→bP→Prop) (hH:0<H.length): ∀k i:Nat,i+k=l.length→
  (oD (V9 p l) k i= -1→Q (.exit 0) ⟨[(4,aP)],H,19⟩)→(0≤oD (V9 p l) k i→Q .ret ⟨[(4, .pure (.int .i64 (oD (V9 p l) k i)))],H,19⟩)→
  fL KC au 126 (lp Tryz.f126 0) [0,1,7,8] [4] Q [(0, .pure (.slice (l.map ak.row))),(1,g),(7, .pure (.int .i64 l.length)),(8, .pure (.int .i64 i))] H 19:=by
 intro k
 induction k with
 |zero=>
  intro i hi h1 h2;apply aw;conv=>arg 4;whnf
  have: ¬i<l.length:=(by omega);simp [this,hH];exact h1 rfl
 |succ k ih=>
  intro i hi h1 h2;have hia:i<l.length:=(by omega);have hw:=cu (x:=(i:Int)+1) (by omega) (by omega);have ih':=ih (i+1) (by omega);unfold oD at h1 h2;rw [Ai p l i hia]at h1 h2;have hg':=hg l[i];simp only [ak.row]at hg';apply aw;conv=>arg 4;whnf
  cases hp:p l[i]with
  |true=>
   simp [hp]at h1 h2;simp [hia,hH,ak.row,hg',hp];exact h2
  |false=>
   simp only [hp,Bool.false_eq_true,if_false]at h1 h2;simp [hia,hH,ak.row,hg',hp,hw,hcl];have:=ih' h1 h2;simpa [ak.row]using this
theorem JQ (l:List ak) (hn:l.length≤4611686018427387904) (p:ak→Bool) (g:GV) (hcan:canon g=g) (hfz: ∀H,dt H g=(g,H)) (hg: ∀(x:ak) (c:Nat) (f0 fr:Fr),ff KC (aC KC) g [.pure (.agg x.row)] c (f0::fr::H)=some (.pure (.bool (p x)),f0::fr::H))
  (hcl: ∀f0 fr,clean (f0::fr::H) (H.length) g=g) (hH:0<H.length):
  aI KC (aC KC) 126 [.pure (.slice (l.map ak.row)),g] c H=some (.pure (.int .i64 (oD (V9 p l) l.length 0)),H):=by
 refine aN (bj KC au Tryz.func126 rfl rfl Ol (by simp [bm,hfz]) rfl rfl (by simp) hH ?_);simp [hcan];refine JP (H:=[]::H) l hn p g (fun x c fr=>hg x c fr []) (fun fr=>by simpa using hcl fr []) _ (by simp) l.length 0 (by omega) (fun h=> ?_) (fun h=> ?_)
 ·simp [h,aa]
 ·simp [aa]
theorem B6 (l:List ak) (hn:l.length≤4611686018427387904) (p:ak→Bool) (g:GV) (hcan:canon g=g) (hfz: ∀H,dt H g=(g,H)) (hg: ∀(x:ak) (c:Nat) (f0 f1 fr:Fr),ff KC (aC KC) g [.pure (.agg x.row)] c (f0::f1::fr::H)=some (.pure (.bool (p x)),f0::f1::fr::H))
  (hcl: ∀f0 f1 fr,clean (f0::f1::fr::H) (H.length+1) g=g) (hH:0<H.length):
  aI KC (aC KC) 90 [.pure (.slice (l.map ak.row)),g] c H=some (.pure (.bool (l.any p)),H):=by
 refine aN (bj KC au Tryz.func90 rfl rfl VO (by simp [bm,hfz]) rfl rfl (by simp) hH ?_);have I:=fun c (fr:Fr)=>JQ (c:=c) (H:=fr::H) l hn p g hcan hfz (fun x c f0 f1=>hg x c f0 f1 fr) (fun f0 f1=>by simpa using hcl f0 f1 fr) (by simp);have e:(decide (0≤oD (V9 p l) l.length 0))=l.any p:=by
  rw [Bool.eq_iff_iff,decide_eq_true_eq,oE,List.any_eq_true];constructor
  ·rintro⟨j,_,h2,h3⟩;have hj:j<l.length:=(by omega);exact⟨l[j],List.getElem_mem hj,by rw [←Ai p l j hj];exact h3⟩
  ·rintro⟨x,hx,hp⟩;obtain⟨j,hj,rfl⟩:=List.getElem_of_mem hx;exact⟨j,Nat.zero_le _,by omega,by rw [Ai p l j hj];exact hp⟩
 simp [hcan,I,aa,e]
def bR (a:ak):dM:= .box [.pure (.int .i64 a.aR), .pure (.int .i64 a.aO), .pure (.int .i64 a.kind), .pure (.int .i64 a.hand), .pure (.int .i64 a.a9), .pure (.int .i64 a.cell), .pure (.int .i64 a.other), .pure (.int .i64 a.cd), .pure (.int .i64 a.iv)]
def fl (a b:ak):Bool:=b.aR==a.aR && b.aO==a.aO
theorem JR (a b:ak){nm:Nm}(hg:H.get nm=some (bR a)):aI KC (aC KC) 91 [.pure (.agg b.row), .aD nm 0] c H=some (.pure (.bool (fl a b)),H):=by
 have hl:nm.1<H.length:=aj.bS hg;have hne: ¬nm.1=H.length:=(by omega);refine aN (bj KC au Tryz.func91 rfl rfl VP rfl rfl rfl (by simp) (by omega) ?_);unfold bR at hg;unfold fl
 cases h1:(b.aR==a.aR)with
 |true=>simp [aa,hg,hne,ak.row,h1]
 |false=>simp [aa,hg,hne,ak.row,h1]
noncomputable def tw:aH→Nat→Int:=na fun r i=>
 if cE (r.ai.getD i cn).aR 0 1000=false then 2 else if 0<i∧(r.ai.getD i cn).aR<(r.ai.getD (i-1) cn).aR then 11
 else if cE (r.ai.getD i cn).aO 0 ((r.ah.length:Int)-1)=false then 7 else if (r.ai.take i).any (fl (r.ai.getD i cn))=true then 12
 else if dh (b9 r.wide r.deep) r.ae.length r.ah.length (r.ai.getD i cn)≠0 then dh (b9 r.wide r.deep) r.ae.length r.ah.length (r.ai.getD i cn)
 else if cE (r.ai.getD i cn).cd 0 15=false∨cE (r.ai.getD i cn).iv 0 9=false then 2 else 0
theorem wS (r:aH)(i:Nat):tw r i=
 if cE (r.ai.getD i cn).aR 0 1000=false then 2 else if 0<i∧(r.ai.getD i cn).aR<(r.ai.getD (i-1) cn).aR then 11
 else if cE (r.ai.getD i cn).aO 0 ((r.ah.length:Int)-1)=false then 7 else if (r.ai.take i).any (fl (r.ai.getD i cn))=true then 12
 else if dh (b9 r.wide r.deep) r.ae.length r.ah.length (r.ai.getD i cn)≠0 then dh (b9 r.wide r.deep) r.ae.length r.ah.length (r.ai.getD i cn)
 else if cE (r.ai.getD i cn).cd 0 15=false∨cE (r.ai.getD i cn).iv 0 9=false then 2 else 0:=by rw [tw,cO]
noncomputable def dG:aH→Int:=na fun r=>if o8 r≠0 then o8 r else if 40<r.ai.length then 8 else bC (tw r) r.ai.length 0
theorem qY (r:aH):dG r=if o8 r≠0 then o8 r else if 40<r.ai.length then 8 else bC (tw r) r.ai.length 0:=by rw [dG,cO]
theorem JS (r:aH)(hl:r.ai.length≤40)(hp:r.ah.length≤1000000)(ht:r.ae.length≤1000000)(Q:GX→bP→Prop): ∀k i:Nat,i+k=r.ai.length→
  (bC (tw r) k i=0→Q (.exit 0) ⟨[(2,aP)],[(1,aA r)]::H,77⟩)→
  (bC (tw r) k i≠0→Q .ret ⟨[(2, .pure (.int .i64 (bC (tw r) k i)))],[(1,aA r)]::H,77⟩)→
  fL KC au 57 (lp Tryz.f57 0) [1,17,18,19] [2] Q
   [(1, .aD (H.length,1) 0),(17, .pure (.slice (r.ai.map ak.row))),(18, .pure (.int .i64 r.ai.length)),(19, .pure (.int .i64 i))] ([(1,aA r)]::H) 77:=by
 intro k
 induction k with
 |zero=>
  intro i hi h1 h2;apply aw;conv=>arg 4;whnf
  have: ¬i<r.ai.length:=(by omega);simp [this];exact h1 rfl
 |succ k ih=>
  intro i hi h1 h2;have hia:i<r.ai.length:=(by omega);have hw:=cu (x:=(i:Int)+1) (by omega) (by omega);have hw2:=cu (x:=(i:Int)-1) (by omega) (by omega);have hwp:=cu (x:=(r.ah.length:Int)-1) (by omega) (by omega);have ih':=ih (i+1) (by omega);unfold bC at h1 h2;have hf:=wS r i;have hgi:r.ai.getD i cn=r.ai[i]:=(by simp [List.getD_eq_getElem?_getD,hia]);rw [hgi]at hf;have hile:i≤r.ai.length:=(by omega);have hmin:min i r.ai.length=i:=(by omega);have C:=fun(c:Nat)=>B6 (c:=c) (H:=[(5,bR r.ai[i])]::[(1,aA r)]::H) (r.ai.take i) (by simp;omega) (fl r.ai[i]) (.func 91 [] [.aD (H.length+1,5) 0]) rfl (fun _=>rfl) (fun x c f0 f1 fr=>by
   rw [sn];exact JR r.ai[i] x (by simp)) (fun f0 f1 fr=>by simp) (by simp)
  simp [aA,bR]at C;have CF:=fun(c:Nat) (H:aj) (hH:0<H.length)=>pe (c:=c) (r:=r) (H:=H) (q1:=r.ai[i].aR) (q2:=r.ai[i].aO) (kind:=r.ai[i].kind) (hand:=r.ai[i].hand) (a9:=r.ai[i].a9) (cell:=r.ai[i].cell) (other:=r.ai[i].other) (q3:=r.ai[i].cd) (q4:=r.ai[i].iv) hp ht hH;simp only [ak.eta,cQ]at CF;apply aw;conv=>arg 4;whnf
  cases z1:cE r.ai[i].aR 0 1000 with
  |false=>
   simp [z1]at hf;simp [hf]at h1 h2;simp [hia,ak.row,aA,dx,z1];simpa [aA]using h2
  |true=>
  have ord:(0<i∧r.ai[i].aR<(r.ai.getD (i-1) cn).aR)∨ ¬(0<i∧r.ai[i].aR<(r.ai.getD (i-1) cn).aR):=Classical.em _;have step: ∀(Q':Prop),(0<i→ ∀h:i-1<r.ai.length,¬((i:Int)-1<0)→((i:Int)-1).toNat=i-1→(0:Int)<i→r.ai.getD (i-1) cn=r.ai[i-1]→Q')→(i=0→Q')→Q':=fun Q' a b=>by
   by_cases h0:0<i
   ·have hi1:i-1<r.ai.length:=(by omega);exact a h0 hi1 (by omega) (by omega) (by omega) (by simp [List.getD_eq_getElem?_getD,hi1])
   ·exact b (by omega)
  refine step _ (fun h0 hi1 hnn htn h0' hg1=> ?_) (fun h0=> ?_)
  ·rw [hg1]at hf;by_cases z2:r.ai[i].aR<r.ai[i-1].aR
   ·simp [z1,z2,h0]at hf;simp [hf]at h1 h2;simp [hia,ak.row,aA,dx,z1,h0',hw2,hnn,htn,hi1,z2,h0];simpa [aA]using h2
   ·cases z3:cE r.ai[i].aO 0 ((r.ah.length:Int)-1)with
    |false=>
     simp [z1,z2,z3,h0]at hf;simp [hf]at h1 h2;simp [hia,ak.row,aA,dx,z1,h0',hw2,hnn,htn,hi1,z2,hwp,z3,h0];simpa [aA]using h2
    |true=>
    cases z4:(r.ai.take i).any (fl r.ai[i])with
    |true=>
     simp only [z1,z2,z3,z4,and_false,Bool.true_eq_false,if_false,if_true]at hf;simp [hf]at h1 h2;simp [hia,ak.row,aA,dx,z1,h0',hw2,hnn,htn,hi1,z2,hwp,z3,hile,C,z4,h0];simpa [aA]using h2
    |false=>
    by_cases z5:dh (b9 r.wide r.deep) r.ae.length r.ah.length r.ai[i]=0
    ·cases z6:cE r.ai[i].cd 0 15 with
     |false=>
      simp only [z1,z2,z3,z4,z5,z6,and_false,Bool.true_eq_false,Bool.false_eq_true,ne_eq,not_true_eq_false,true_or,if_false,if_true]at hf;simp [hf]at h1 h2;simp [hia,ak.row,aA,dx,z1,h0',hw2,hnn,htn,hi1,z2,hwp,z3,hile,C,z4,CF,z5,z6,h0];simpa [aA]using h2
     |true=>
     cases z7:cE r.ai[i].iv 0 9 with
     |false=>
      simp only [z1,z2,z3,z4,z5,z6,z7,and_false,Bool.true_eq_false,Bool.false_eq_true,ne_eq,not_true_eq_false,or_true,if_false,if_true]at hf;simp [hf]at h1 h2;simp [hia,ak.row,aA,dx,z1,h0',hw2,hnn,htn,hi1,z2,hwp,z3,hile,C,z4,CF,z5,z6,z7,h0];simpa [aA]using h2
     |true=>
      simp only [z1,z2,z3,z4,z5,z6,z7,and_false,Bool.true_eq_false,Bool.false_eq_true,ne_eq,not_true_eq_false,or_self,if_false,if_true]at hf;simp [hf]at h1 h2;simp [hia,ak.row,aA,dx,z1,h0',hw2,hnn,htn,hi1,z2,hwp,z3,hile,C,z4,CF,z5,z6,z7,hw,h0];simpa [aA,ak.row]using ih' h1 h2
    ·have z5':(dh (b9 r.wide r.deep) r.ae.length r.ah.length r.ai[i] !=0)=true:=(by simpa using z5);simp only [z1,z2,z3,z4,z5,and_false,Bool.true_eq_false,Bool.false_eq_true,ne_eq,not_false_eq_true,if_false,if_true]at hf;simp [hf,z5]at h1 h2;simp [hia,ak.row,aA,dx,z1,h0',hw2,hnn,htn,hi1,z2,hwp,z3,hile,C,z4,CF,z5,z5',h0];simpa [aA]using h2
  ·subst h0;simp at C;have z4:(r.ai.take 0).any (fl r.ai[0])=false:=by simp
   cases z3:cE r.ai[0].aO 0 ((r.ah.length:Int)-1)with
   |false=>
    simp [z1,z3]at hf;simp [hf]at h1 h2;simp [hia,ak.row,aA,dx,z1,hwp,z3];simpa [aA]using h2
   |true=>
   by_cases z5:dh (b9 r.wide r.deep) r.ae.length r.ah.length r.ai[0]=0
   ·cases z6:cE r.ai[0].cd 0 15 with
    |false=>
     simp [z1,z3,z5,z6]at hf;simp [hf]at h1 h2;simp [hia,ak.row,aA,dx,z1,hwp,z3,C,CF,z5,z6];simpa [aA]using h2
    |true=>
    cases z7:cE r.ai[0].iv 0 9 with
    |false=>
     simp [z1,z3,z5,z6,z7]at hf;simp [hf]at h1 h2;simp [hia,ak.row,aA,dx,z1,hwp,z3,C,CF,z5,z6,z7];simpa [aA]using h2
    |true=>
     simp [z1,z3,z5,z6,z7]at hf;simp [hf]at h1 h2;simp [hia,ak.row,aA,dx,z1,hwp,z3,C,CF,z5,z6,z7,hw];simpa [aA,ak.row]using ih' h1 h2
   ·have z5':(dh (b9 r.wide r.deep) r.ae.length r.ah.length r.ai[0] !=0)=true:=(by simpa using z5);simp [z1,z3,z5]at hf;simp [hf,z5]at h1 h2;simp [hia,ak.row,aA,dx,z1,hwp,z3,C,CF,z5,z5'];simpa [aA]using h2
theorem Hp (r:aH)(h1:r.seen.length≤1000000)(h2:r.aY.length≤1000000)(h3:r.ah.length≤1000000)(h4:r.ae.length≤1000000)(h5:r.ai.length≤1000000)(hH:0<H.length):
  bM KC (aC KC) 57 [.pure (.agg r.row)] c H=some (.pure (.int .i64 (dG r)),H):=by
 refine aN (aJ KC au Tryz.func57 rfl rfl Vs (by simp) hH ?_);have hr:=qY r;have R:=fun c (H:aj) (hH:0<H.length)=>zX (c:=c) (H:=H) r h1 h2 h3 h4 hH;rw [cQ]at R⊢;by_cases z1:o8 r=0
 ·by_cases z2:40<r.ai.length
  ·have z2':(40:Int)<r.ai.length:=(by omega);simp [z1,z2]at hr;simp [R,z1,z2,z2',aa,hr]
  ·have z2': ¬(40:Int)<r.ai.length:=(by omega);simp only [z1,z2,ne_eq,not_true_eq_false,if_false]at hr;simp [R,z1,z2,z2'];have L:=fun Q=>JS (H:=H) r (by omega) h3 h4 Q r.ai.length 0 (by omega);simp [aA]at L;refine L _ (fun h=> ?_) (fun h=> ?_)
   ·simp [h]at hr;simp [aa,hr]
   ·simp [aa,hr]
 ·have z1':(o8 r !=0)=true:=(by simpa using z1);simp [z1]at hr;simp [R,z1,z1',aa,hr]
theorem BB (r:aH)(h1:r.seen.length≤1000000)(h2:r.aY.length≤1000000)(h3:r.ah.length≤1000000)(h4:r.ae.length≤1000000)(h5:r.ai.length≤1000000)(hH:0<H.length):
  aI KC (aC KC) 57 [.pure (.agg r.row)] c H=some (.pure (.int .i64 (dG r)),H):=dq rfl rfl rfl rfl rfl hH fun H hH=>Hp r h1 h2 h3 h4 h5 hH
end
section
variable {c:Nat} {H:aj}
theorem cU {k:Int}(hH:0<H.length):aI KC (aC KC) 82 [.pure (.int .i64 k)] c H=some (.pure (.bool (k !=1)),H):=by
 refine dq rfl rfl rfl rfl rfl hH fun H hH=> ?_;refine aN (aJ KC au Tryz.func82 rfl rfl VJ (by simp) hH ?_);simp [aa]
theorem sy {r:aH}{q1 q2 kind hand a9 cell other q3 q4:Int}(h1:r.ah.length≤1000000)(h2:r.ae.length≤1000000)(hH:0<H.length):
  aI KC (aC KC) 76 [.pure (.agg r.row), .pure (.agg [.int .i64 q1, .int .i64 q2, .int .i64 kind, .int .i64 hand, .int .i64 a9, .int .i64 cell, .int .i64 other, .int .i64 q3, .int .i64 q4])] c H=
   some (.pure (.int .i64 (dh (b9 r.wide r.deep) r.ae.length r.ah.length ⟨q1,q2,kind,hand,a9,cell,other,q3,q4⟩)),H):=by
 refine dq rfl rfl rfl rfl rfl hH fun H hH=> ?_;refine aN (aJ KC au Tryz.func76 rfl rfl VF (by simp) hH ?_);have hr:=o9 (b9 r.wide r.deep) r.ae.length r.ah.length ⟨q1,q2,kind,hand,a9,cell,other,q3,q4⟩;simp only [mF]at hr;rw [cQ];have w1:=cu (x:=(r.ah.length:Int)-1) (by omega) (by omega);have w2:=cu (x:=(r.ae.length:Int)-1) (by omega) (by omega);have i0:cE 0 0 1=true:=rfl;rcases wM kind with rfl|rfl|rfl|hk|⟨hk,n1,n2,n3,n4,n5,n6,n7,n8⟩
 ·have i1:cE 1 1 8=true:=rfl;by_cases a1:hand=0
  ·by_cases a2:a9=0
   ·by_cases a3:other=0
    ·subst a1;subst a2;subst a3
     cases a4:cE cell 0 (b9 r.wide r.deep)with
     |false=>
      simp [a4,i1,i0]at hr;simp [aZ,cU,gZ,a4,i1,aa,hr]
     |true=>
      simp [a4,i1,i0]at hr;simp [aZ,cU,gZ,a4,i0,i1,aa,hr]
    ·have a3':(other==0)=false:=(by simpa using a3);subst a1;subst a2;simp [a3,i1]at hr;simp [aZ,cU,i1,a3',bne,aa,hr]
   ·have a2':(a9==0)=false:=(by simpa using a2);subst a1;simp [a2,i1]at hr;simp [aZ,cU,i1,a2',bne,aa,hr]
  ·have a1':(hand==0)=false:=(by simpa using a1);simp [a1,i1]at hr;simp [aZ,cU,i1,a1',bne,aa,hr]
 ·have i1:cE 2 1 8=true:=rfl;by_cases a1:cell=0
  ·by_cases a2:other=0
   ·subst a1;subst a2
    cases a3:cE hand 0 1 with
    |false=>
     simp [a3,i1]at hr;simp [aZ,cU,i1,a3,aa,hr]
    |true=>
     cases a4:cE a9 0 ((r.ae.length:Int)-1)with
     |false=>
      simp [a3,a4,i1]at hr;simp [aZ,cU,i1,a3,a4,w2,aa,hr]
     |true=>
      simp [a3,a4,i1]at hr;simp [aZ,cU,i1,a3,a4,w2,aa,hr]
   ·have a2':(other==0)=false:=(by simpa using a2);subst a1;simp [a2,i1]at hr;simp [aZ,cU,i1,a2',bne,aa,hr]
  ·have a1':(cell==0)=false:=(by simpa using a1);simp [a1,i1]at hr;simp [aZ,cU,i1,a1',bne,aa,hr]
 ·have i1:cE 4 1 8=true:=rfl;by_cases a1:a9=0
  ·by_cases a2:cell=0
   ·subst a1;subst a2
    cases a3:cE hand 0 1 with
    |false=>
     simp [a3,i1]at hr;simp [aZ,cU,i1,a3,aa,hr]
    |true=>
     cases a4:cE other 0 ((r.ah.length:Int)-1)with
     |false=>
      simp [a3,a4,i1]at hr;simp [aZ,cU,i1,a3,a4,w1,aa,hr]
     |true=>
      by_cases a5:other=q2
      ·subst a5;simp [a3,a4,i1]at hr;simp [aZ,cU,i1,a3,a4,w1,aa,hr]
      ·have a5':(other==q2)=false:=(by simpa using a5);simp [a3,a4,a5,i1]at hr;simp [aZ,cU,i1,a3,a4,a5',w1,aa,hr]
   ·have a2':(cell==0)=false:=(by simpa using a2);subst a1;simp [a2,i1]at hr;simp [aZ,cU,i1,a2',bne,aa,hr]
  ·have a1':(a9==0)=false:=(by simpa using a1);simp [a1,i1]at hr;simp [aZ,cU,i1,a1',bne,aa,hr]
 ·have i1:cE kind 1 8=true:=(by simp [cE];omega);have m1:kind≠1:=(by omega);have m2:kind≠2:=(by omega);have m4:kind≠4:=(by omega);have m1':(kind==1)=false:=(by simpa using m1);have m2':(kind==2)=false:=(by simpa using m2);have m4':(kind==4)=false:=(by simpa using m4);by_cases a1:a9=0
  ·by_cases a2:cell=0
   ·by_cases a3:other=0
    ·subst a1;subst a2;subst a3
     cases a4:cE hand 0 1 with
     |false=>
      simp [a4,i1,m1,m2,m4]at hr;simp [aZ,cU,i1,m1',m2',m4',bne,a4,aa,hr]
     |true=>
      simp [a4,i1,m1,m2,m4]at hr;simp [aZ,cU,i1,m1',m2',m4',bne,a4,aa,hr]
    ·have a3':(other==0)=false:=(by simpa using a3);subst a1;subst a2;simp [a3,i1,m1,m2,m4]at hr;simp [aZ,cU,i1,m1',m2',m4',bne,a3',aa,hr]
   ·have a2':(cell==0)=false:=(by simpa using a2);subst a1;simp [a2,i1,m1,m2,m4]at hr;simp [aZ,cU,i1,m1',m2',m4',bne,a2',aa,hr]
  ·have a1':(a9==0)=false:=(by simpa using a1);simp [a1,i1,m1,m2,m4]at hr;simp [aZ,cU,i1,m1',m2',m4',bne,a1',aa,hr]
 ·simp [hk]at hr;simp [aZ,hk,aa,hr]
theorem Ed (r:aH)(n:Nat)(hn:n≤r.ah.length)(hl:r.ah.length≤4)(p:aQ)(Q:GX→bP→Prop)(f0:Fr)(hf0:f0=[(4, .box [.pure (.int .i64 p.role), .pure (.int .i64 p.cell)])]):
  ∀k i:Nat,i+k=n→da r.ah i p.cell=false→
  (da r.ah n p.cell=false→Q (.exit 2) ⟨[(1, .aD (H.length,1) 0),(2,aP),(3, .pure (.int .i64 n))],f0::[(1,aA r)]::H,49⟩)→
  (da r.ah n p.cell=true→Q .ret ⟨[(1, .aD (H.length,1) 0),(2, .pure (.int .i64 12)),(3, .pure (.int .i64 n))],f0::[(1,aA r)]::H,49⟩)→
  fL KC au 95 (lp Tryz.f95 1) [1,3,4,5] [1,2,3] Q
   [(1, .aD (H.length,1) 0),(3, .pure (.int .i64 n)),(4, .aD (H.length+1,4) 0),(5, .pure (.int .i64 i))] (f0::[(1,aA r)]::H) 49:=by
 subst hf0;intro k
 induction k with
 |zero=>
  intro i hi hs h1 h2;have e:i=n:=(by omega);subst e;apply aw;conv=>arg 4;whnf
  simp [aA];exact h1 hs
 |succ k ih=>
  intro i hi hs h1 h2;have hin:i<n:=(by omega);have hil:i<r.ah.length:=(by omega);have hw:=cu (x:=(i:Int)+1) (by omega) (by omega);have hs1:=qh r.ah i hil p.cell;apply aw;conv=>arg 4;whnf
  by_cases he:r.ah[i].cell=p.cell
  ·have ht:da r.ah n p.cell=true:=by
    unfold da;rw [List.any_eq_true];exact⟨r.ah[i],List.mem_take_iff_getElem.2 ⟨i,by omega,rfl⟩,by simp [he]⟩
   simp [hin,hil,hw,aA,aQ.row,he];exact h2 ht
  ·have hs':da r.ah (i+1) p.cell=false:=(by rw [hs1,hs];simpa using he);have he':(r.ah[i].cell==p.cell)=false:=(by simpa using he);simp [hin,hil,hw,aA,aQ.row,he'];simpa [aA]using ih (i+1) (by omega) hs' h1 h2
theorem Aj (r:aH)(hl:r.ah.length≤4)(Q:GX→bP→Prop): ∀k i:Nat,i+k=r.ah.length→
  (bC (hJ (b9 r.wide r.deep) r.ah) k i=0→Q (.exit 0) ⟨[(2,aP)],[(1,aA r)]::H,49⟩)→
  (bC (hJ (b9 r.wide r.deep) r.ah) k i≠0→Q .ret ⟨[(2, .pure (.int .i64 (bC (hJ (b9 r.wide r.deep) r.ah) k i)))],[(1,aA r)]::H,49⟩)→
  fL KC au 95 (lp Tryz.f95 0) [1,3] [2] Q
   [(1, .aD (H.length,1) 0),(3, .pure (.int .i64 i))] ([(1,aA r)]::H) 49:=by
 intro k
 induction k with
 |zero=>
  intro i hi h1 h2;apply aw;conv=>arg 4;whnf
  have: ¬i<r.ah.length:=(by omega);simp [this,aA];exact h1 rfl
 |succ k ih=>
  intro i hi h1 h2;have hia:i<r.ah.length:=(by omega);have hw:=cu (x:=(i:Int)+1) (by omega) (by omega);have ih':=ih (i+1) (by omega);unfold bC at h1 h2;have hf:=o7 (b9 r.wide r.deep) r.ah i;have hgi:r.ah.getD i ⟨0,0⟩=r.ah[i]:=(by simp [List.getD_eq_getElem?_getD,hia]);rw [hgi]at hf;apply aw;conv=>arg 4;whnf
  by_cases h3:cE r.ah[i].role 1 3=true
  ·by_cases h4:cE r.ah[i].cell 0 (b9 r.wide r.deep)=true
   ·simp [hia,aQ.row,aA,aZ,gZ,h3,h4];have L:=fun Q=>Ed (H:=H) r i (by omega) hl r.ah[i] Q _ rfl i 0 (by omega) (by simp [da]);simp [aA]at L;refine L _ (fun h5=> ?_) (fun h5=> ?_)
    ·simp [h3,h4,h5]at hf;simp [hf]at h1 h2;simp [hw];simpa [aA]using ih' h1 h2
    ·simp [h3,h4,h5]at hf;simp [hf]at h1 h2;simp;simpa [aA]using h2
   ·have h4':cE r.ah[i].cell 0 (b9 r.wide r.deep)=false:=(by simpa using h4);simp [h3,h4']at hf;simp [hf]at h1 h2;simp [hia,aQ.row,aA,aZ,gZ,h3,h4'];simpa [aA]using h2
  ·have h3':cE r.ah[i].role 1 3=false:=(by simpa using h3);simp [h3']at hf;simp [hf]at h1 h2;simp [hia,aQ.row,aA,aZ,gZ,h3'];simpa [aA]using h2
noncomputable def l6:aH→Int:=na fun r=>if r.ah.length=0 then 6 else if 4<r.ah.length then 8 else bC (hJ (b9 r.wide r.deep) r.ah) r.ah.length 0
theorem uD (r:aH):l6 r=if r.ah.length=0 then 6 else if 4<r.ah.length then 8 else bC (hJ (b9 r.wide r.deep) r.ah) r.ah.length 0:=by rw [l6,cO]
theorem w7 (r:aH)(hH:0<H.length):
  aI KC (aC KC) 95 [.pure (.agg r.row)] c H=some (.pure (.int .i64 (l6 r)),H):=by
 refine dq rfl rfl rfl rfl rfl hH fun H hH=> ?_;refine aN (aJ KC au Tryz.func95 rfl rfl VS (by simp) hH ?_);have hr:=uD r;rw [cQ];by_cases e3:r.ah.length=0
 ·have e3':r.ah=[]:=List.length_eq_zero_iff.1 e3;simp [e3,e3']at hr;simp [e3,e3',aa,hr]
 have e3':((r.ah.length:Int)==0)=false:=beq_eq_false_iff_ne.2 (by omega);by_cases e4:4<r.ah.length
 ·have e4':(4:Int)<r.ah.length:=(by omega);simp [e3,e4]at hr;simp [e3,e3',e4,e4',aa,hr]
 have e4': ¬(4:Int)<r.ah.length:=(by omega);simp only [e3,e4,if_false]at hr;simp [e3,e3',e4,e4'];have L:=fun Q=>Aj (H:=H) r (by omega) Q r.ah.length 0 (by omega);simp [aA]at L;refine L _ (fun z1=> ?_) (fun z1=> ?_)
 ·simp [z1]at hr;simp [aa,hr]
 ·simp [aa,hr]
end
section
variable {c:Nat} {H:aj}
theorem B7 (r:aH)(hl:r.ae.length≤8)(Q:GX→bP→Prop): ∀k i:Nat,i+k=r.ae.length→
  (bC (iH (b9 r.wide r.deep) r.ae) k i=0→Q (.exit 0) ⟨[(1, .aD (H.length,1) 0),(2,aP)],[(1,aA r)]::H,106⟩)→
  (bC (iH (b9 r.wide r.deep) r.ae) k i≠0→Q .ret ⟨[(1, .aD (H.length,1) 0),(2, .pure (.int .i64 (bC (iH (b9 r.wide r.deep) r.ae) k i)))],[(1,aA r)]::H,106⟩)→
  fL KC au 96 (lp Tryz.f96 0) [1,3] [1,2] Q
   [(1, .aD (H.length,1) 0),(3, .pure (.int .i64 i))] ([(1,aA r)]::H) 106:=by
 intro k
 induction k with
 |zero=>
  intro i hi h1 h2;apply aw;conv=>arg 4;whnf
  have: ¬i<r.ae.length:=(by omega);simp [this,aA];exact h1 rfl
 |succ k ih=>
  intro i hi h1 h2;have hia:i<r.ae.length:=(by omega);have hw:=cu (x:=(i:Int)+1) (by omega) (by omega);have ih':=ih (i+1) (by omega);unfold bC at h1 h2;have hf:=qX (b9 r.wide r.deep) r.ae i;have hgi:r.ae.getD i ⟨0,0,0,0,false⟩=r.ae[i]:=(by simp [List.getD_eq_getElem?_getD,hia]);rw [hgi]at hf;apply aw;conv=>arg 4;whnf
  cases h3:cE r.ae[i].cell 0 (b9 r.wide r.deep)with
  |false=>
   simp [h3]at hf;simp [hf]at h1 h2;simp [hia,aV.row,aA,aZ,gZ,h3];simpa [aA]using h2
  |true=>
   cases h4:cE r.ae[i].home 0 (b9 r.wide r.deep)with
   |false=>
    simp [h3,h4]at hf;simp [hf]at h1 h2;simp [hia,aV.row,aA,aZ,gZ,h3,h4];simpa [aA]using h2
   |true=>
    cases h5:cE r.ae[i].state 0 15 with
    |false=>
     simp [h3,h4,h5]at hf;simp [hf]at h1 h2;simp [hia,aV.row,aA,aZ,gZ,h3,h4,h5];simpa [aA]using h2
    |true=>
     cases h6:cE r.ae[i].want 0 15 with
     |false=>
      simp [h3,h4,h5,h6]at hf;simp [hf]at h1 h2;simp [hia,aV.row,aA,aZ,gZ,h3,h4,h5,h6];simpa [aA]using h2
     |true=>
      simp [h3,h4,h5,h6]at hf;simp [hf]at h1 h2;simp [hia,aV.row,aA,aZ,gZ,h3,h4,h5,h6,hw];simpa [aA]using ih' h1 h2
theorem Ee (r:aH)(hl:r.seen.length≤1000000)(Q:GX→bP→Prop): ∀k i:Nat,i+k=r.seen.length→
  (bC (kh (fun x=>cE x 0 (b9 r.wide r.deep)) 7 r.seen) k i=0→Q (.exit 2) ⟨[(1, .aD (H.length,1) 0),(2,aP)],[(1,aA r)]::H,106⟩)→
  (bC (kh (fun x=>cE x 0 (b9 r.wide r.deep)) 7 r.seen) k i≠0→Q .ret ⟨[(1, .aD (H.length,1) 0),(2, .pure (.int .i64 (bC (kh (fun x=>cE x 0 (b9 r.wide r.deep)) 7 r.seen) k i)))],[(1,aA r)]::H,106⟩)→
  fL KC au 96 (lp Tryz.f96 1) [1,5] [1,2] Q
   [(1, .aD (H.length,1) 0),(5, .pure (.int .i64 i))] ([(1,aA r)]::H) 106:=by
 intro k
 induction k with
 |zero=>
  intro i hi h1 h2;apply aw;conv=>arg 4;whnf
  have: ¬i<r.seen.length:=(by omega);simp [this,aA];exact h1 rfl
 |succ k ih=>
  intro i hi h1 h2;have hia:i<r.seen.length:=(by omega);have hw:=cu (x:=(i:Int)+1) (by omega) (by omega);have hw2:=cu (x:=(i:Int)-1) (by omega) (by omega);have ih':=ih (i+1) (by omega);unfold bC at h1 h2;have hf:=sm (fun x=>cE x 0 (b9 r.wide r.deep)) 7 r.seen i;have hgi:r.seen.getD i 0=r.seen[i]:=(by simp [List.getD_eq_getElem?_getD,hia]);rw [hgi]at hf;apply aw;conv=>arg 4;whnf
  cases hp:cE r.seen[i] 0 (b9 r.wide r.deep)with
  |true=>
   by_cases h0:0<i
   ·have h0':(0:Int)<i:=(by omega);have hi1:i-1<r.seen.length:=(by omega);have hgi1:r.seen.getD (i-1) 0=r.seen[i-1]:=(by simp [List.getD_eq_getElem?_getD,hi1]);have hnn: ¬(i:Int)-1<0:=(by omega);have htn:((i:Int)-1).toNat=i-1:=(by omega);rw [hgi1]at hf;by_cases hle:r.seen[i]≤r.seen[i-1]
    ·simp [hp,h0,hle]at hf;simp [hf]at h1 h2;simp [hia,aA,aG,gZ,hp,hw,hw2,h0,h0',hnn,htn,hi1,hle];simpa [aA,aG]using h2
    ·simp [hp,h0,hle]at hf;simp [hf]at h1 h2;simp [hia,aA,aG,gZ,hp,hw,hw2,h0,h0',hnn,htn,hi1,hle];simpa [aA,aG]using ih' h1 h2
   ·have h00:i=0:=(by omega);simp [hp,h0]at hf;simp [hf]at h1 h2;subst h00;simp [hia,aA,aG,gZ,hp,hw];simpa [aA,aG]using ih' h1 h2
  |false=>
   simp [hp]at hf;simp [hf]at h1 h2;simp [hia,aA,aG,gZ,hp];simpa [aA,aG]using h2
theorem B8 (r:aH)(hl:r.aY.length≤1000000)(Q:GX→bP→Prop): ∀k i:Nat,i+k=r.aY.length→
  (bC (kh (fun x=>cE x 1 3) 4 r.aY) k i=0→Q (.exit 4) ⟨[(2,aP)],[(1,aA r)]::H,106⟩)→
  (bC (kh (fun x=>cE x 1 3) 4 r.aY) k i≠0→Q .ret ⟨[(2, .pure (.int .i64 (bC (kh (fun x=>cE x 1 3) 4 r.aY) k i)))],[(1,aA r)]::H,106⟩)→
  fL KC au 96 (lp Tryz.f96 2) [1,6] [2] Q
   [(1, .aD (H.length,1) 0),(6, .pure (.int .i64 i))] ([(1,aA r)]::H) 106:=by
 intro k
 induction k with
 |zero=>
  intro i hi h1 h2;apply aw;conv=>arg 4;whnf
  have: ¬i<r.aY.length:=(by omega);simp [this,aA];exact h1 rfl
 |succ k ih=>
  intro i hi h1 h2;have hia:i<r.aY.length:=(by omega);have hw:=cu (x:=(i:Int)+1) (by omega) (by omega);have hw2:=cu (x:=(i:Int)-1) (by omega) (by omega);have ih':=ih (i+1) (by omega);unfold bC at h1 h2;have hf:=sm (fun x=>cE x 1 3) 4 r.aY i;have hgi:r.aY.getD i 0=r.aY[i]:=(by simp [List.getD_eq_getElem?_getD,hia]);rw [hgi]at hf;apply aw;conv=>arg 4;whnf
  cases hp:cE r.aY[i] 1 3 with
  |true=>
   by_cases h0:0<i
   ·have h0':(0:Int)<i:=(by omega);have hi1:i-1<r.aY.length:=(by omega);have hgi1:r.aY.getD (i-1) 0=r.aY[i-1]:=(by simp [List.getD_eq_getElem?_getD,hi1]);have hnn: ¬(i:Int)-1<0:=(by omega);have htn:((i:Int)-1).toNat=i-1:=(by omega);rw [hgi1]at hf;by_cases hle:r.aY[i]≤r.aY[i-1]
    ·simp [hp,h0,hle]at hf;simp [hf]at h1 h2;simp [hia,aA,aG,aZ,hp,hw,hw2,h0,h0',hnn,htn,hi1,hle];simpa [aA,aG]using h2
    ·simp [hp,h0,hle]at hf;simp [hf]at h1 h2;simp [hia,aA,aG,aZ,hp,hw,hw2,h0,h0',hnn,htn,hi1,hle];simpa [aA,aG]using ih' h1 h2
   ·have h00:i=0:=(by omega);simp [hp,h0]at hf;simp [hf]at h1 h2;subst h00;simp [hia,aA,aG,aZ,hp,hw];simpa [aA,aG]using ih' h1 h2
  |false=>
   simp [hp]at hf;simp [hf]at h1 h2;simp [hia,aA,aG,aZ,hp];simpa [aA,aG]using h2
noncomputable def nO:aH→Int:=na fun r=>
 if 8<r.ae.length then 8 else if bC (iH (b9 r.wide r.deep) r.ae) r.ae.length 0≠0 then bC (iH (b9 r.wide r.deep) r.ae) r.ae.length 0
 else if bC (kh (fun x=>cE x 0 (b9 r.wide r.deep)) 7 r.seen) r.seen.length 0≠0 then bC (kh (fun x=>cE x 0 (b9 r.wide r.deep)) 7 r.seen) r.seen.length 0
 else bC (kh (fun x=>cE x 1 3) 4 r.aY) r.aY.length 0
theorem uE (r:aH):nO r=
 if 8<r.ae.length then 8 else if bC (iH (b9 r.wide r.deep) r.ae) r.ae.length 0≠0 then bC (iH (b9 r.wide r.deep) r.ae) r.ae.length 0
 else if bC (kh (fun x=>cE x 0 (b9 r.wide r.deep)) 7 r.seen) r.seen.length 0≠0 then bC (kh (fun x=>cE x 0 (b9 r.wide r.deep)) 7 r.seen) r.seen.length 0
 else bC (kh (fun x=>cE x 1 3) 4 r.aY) r.aY.length 0:=by rw [nO,cO]
theorem w8 (r:aH)(h1:r.seen.length≤1000000)(h2:r.aY.length≤1000000)(hH:0<H.length):
  aI KC (aC KC) 96 [.pure (.agg r.row)] c H=some (.pure (.int .i64 (nO r)),H):=by
 refine dq rfl rfl rfl rfl rfl hH fun H hH=> ?_;refine aN (aJ KC au Tryz.func96 rfl rfl VT (by simp) hH ?_);have hr:=uE r;rw [cQ];by_cases e5:8<r.ae.length
 ·have e5':(8:Int)<r.ae.length:=(by omega);simp [e5]at hr;simp [e5',e5,aa,hr]
 have e5': ¬(8:Int)<r.ae.length:=(by omega);simp only [e5,if_false]at hr;simp [e5',e5];have L2:=fun Q=>B7 (H:=H) r (by omega) Q r.ae.length 0 (by omega);simp [aA]at L2;refine L2 _ (fun z2=> ?_) (fun z2=> ?_)
 ·simp only [z2,ne_eq,not_true_eq_false,if_false]at hr;simp;have L3:=fun Q=>Ee (H:=H) r (by omega) Q r.seen.length 0 (by omega);simp [aA]at L3;refine L3 _ (fun z3=> ?_) (fun z3=> ?_)
  ·simp only [z3,not_true_eq_false,if_false]at hr;simp;have L4:=fun Q=>B8 (H:=H) r (by omega) Q r.aY.length 0 (by omega);simp [aA]at L4;refine L4 _ (fun z4=> ?_) (fun z4=> ?_)
   ·simp [z4]at hr;simp [aa,hr]
   ·simp [aa,hr]
  ·simp [z3]at hr;simp [aa,hr]
 ·simp [z2]at hr;simp [aa,hr]
end
section
variable {c:Nat} {H:aj}
@[simp] theorem Wa {l0:Nat}:clean H l0 aP=aP:= .trans rfl rfl
theorem xL {α:Type}(p:α→Bool)(l:List α)(i:Nat)(h:i<l.length):(l.take (i+1)).any p=((l.take i).any p||p l[i]):=by
 rw [List.take_succ_eq_append_getElem h,List.any_append];simp
theorem Ak {α:Type}(p:α→Bool)(l:List α)(i n:Nat)(h:i<l.length)(hin:i<n)(hp:p l[i]=true):(l.take n).any p=true:=by
 rw [List.any_eq_true];exact⟨l[i],List.mem_take_iff_getElem.2 ⟨i,by omega,rfl⟩,hp⟩
theorem B9 (r:aH)(n:Nat)(hn:n≤r.ai.length)(hl:r.ai.length≤40)(a:ak)(Q:GX→bP→Prop)(f0:Fr)(hf0:f0=[(4,bR a)]):
  ∀k i:Nat,i+k=n→(r.ai.take i).any (fl a)=false→
  ((r.ai.take n).any (fl a)=false→Q (.exit 2) ⟨[(1, .aD (H.length,1) 0),(2,aP),(3, .pure (.int .i64 n)),(4, .aD (H.length+1,4) 0)],f0::[(1,aA r)]::H,90⟩)→
  ((r.ai.take n).any (fl a)=true→Q .ret ⟨[(1, .aD (H.length,1) 0),(2, .pure (.int .i64 12)),(3, .pure (.int .i64 n)),(4, .aD (H.length+1,4) 0)],f0::[(1,aA r)]::H,90⟩)→
  fL KC au 97 (lp Tryz.f97 1) [1,3,4,5] [1,2,3,4] Q
   [(1, .aD (H.length,1) 0),(3, .pure (.int .i64 n)),(4, .aD (H.length+1,4) 0),(5, .pure (.int .i64 i))] (f0::[(1,aA r)]::H) 90:=by
 subst hf0;intro k
 induction k with
 |zero=>
  intro i hi hs h1 h2;have e:i=n:=(by omega);subst e;apply aw;conv=>arg 4;whnf
  simp [aA,bR];simpa [aA,bR]using h1 hs
 |succ k ih=>
  intro i hi hs h1 h2;have hin:i<n:=(by omega);have hil:i<r.ai.length:=(by omega);have hw:=cu (x:=(i:Int)+1) (by omega) (by omega);have hs1:=xL (fl a) r.ai i hil;have hh:=Ak (fl a) r.ai i n hil hin;have hd:fl a r.ai[i]=(r.ai[i].aR==a.aR && r.ai[i].aO==a.aO):=rfl;apply aw;conv=>arg 4;whnf
  cases z1:(r.ai[i].aR==a.aR)with
  |false=>
   have hs':(r.ai.take (i+1)).any (fl a)=false:=(by rw [hs1,hs,hd,z1];rfl);simp [hin,hil,hw,aA,bR,ak.row,z1];simpa [aA,bR,ak.row]using ih (i+1) (by omega) hs' h1 h2
  |true=>
   cases z2:(r.ai[i].aO==a.aO)with
   |false=>
    have hs':(r.ai.take (i+1)).any (fl a)=false:=(by rw [hs1,hs,hd,z1,z2];rfl);simp [hin,hil,hw,aA,bR,ak.row,z1,z2];simpa [aA,bR,ak.row]using ih (i+1) (by omega) hs' h1 h2
   |true=>
    have ht:(r.ai.take n).any (fl a)=true:=hh (by rw [hd,z1,z2];rfl);simp [hin,hil,hw,aA,bR,ak.row,z1,z2];simpa [aA,bR,ak.row]using h2 ht
theorem Hq (r:aH)(hl:r.ai.length≤40)(hp:r.ah.length≤1000000)(ht:r.ae.length≤1000000)(Q:GX→bP→Prop): ∀k i:Nat,i+k=r.ai.length→
  (bC (tw r) k i=0→Q (.exit 0) ⟨[(2,aP)],[(1,aA r)]::H,90⟩)→
  (bC (tw r) k i≠0→Q .ret ⟨[(2, .pure (.int .i64 (bC (tw r) k i)))],[(1,aA r)]::H,90⟩)→
  fL KC au 97 (lp Tryz.f97 0) [1,3] [2] Q
   [(1, .aD (H.length,1) 0),(3, .pure (.int .i64 i))] ([(1,aA r)]::H) 90:=by
 intro k
 induction k with
 |zero=>
  intro i hi h1 h2;apply aw;conv=>arg 4;whnf
  have: ¬i<r.ai.length:=(by omega);simp [this,aA];exact h1 rfl
 |succ k ih=>
  intro i hi h1 h2;have hia:i<r.ai.length:=(by omega);have hw:=cu (x:=(i:Int)+1) (by omega) (by omega);have hw2:=cu (x:=(i:Int)-1) (by omega) (by omega);have hwp:=cu (x:=(r.ah.length:Int)-1) (by omega) (by omega);have ih':=ih (i+1) (by omega);unfold bC at h1 h2;have hf:=wS r i;have hgi:r.ai.getD i cn=r.ai[i]:=(by simp [List.getD_eq_getElem?_getD,hia]);rw [hgi]at hf;have CF:=fun(c:Nat) (H:aj) (hH:0<H.length)=>sy (c:=c) (r:=r) (H:=H) (q1:=r.ai[i].aR) (q2:=r.ai[i].aO) (kind:=r.ai[i].kind) (hand:=r.ai[i].hand) (a9:=r.ai[i].a9) (cell:=r.ai[i].cell) (other:=r.ai[i].other) (q3:=r.ai[i].cd) (q4:=r.ai[i].iv) hp ht hH;simp only [ak.eta,cQ]at CF;have L:=fun Q=>B9 (H:=H) r i (by omega) hl r.ai[i] Q _ rfl i 0 (by omega) (by simp);simp only [aA,bR]at L;apply aw;conv=>arg 4;whnf
  cases z1:cE r.ai[i].aR 0 1000 with
  |false=>
   simp [z1]at hf;simp [hf]at h1 h2;simp [hia,ak.row,aA,aZ,z1];simpa [aA]using h2
  |true=>
  have tail: ∀Z:Prop,Z=False→cE r.ai[i].aO 0 ((r.ah.length:Int)-1)=true→tw r i=(if (r.ai.take i).any (fl r.ai[i])=true then 12
    else if dh (b9 r.wide r.deep) r.ae.length r.ah.length r.ai[i]≠0 then dh (b9 r.wide r.deep) r.ae.length r.ah.length r.ai[i]
    else if cE r.ai[i].cd 0 15=false∨cE r.ai[i].iv 0 9=false then 2 else 0)→True:=fun _ _ _ _=>trivial
  have step: ∀(Q':Prop),(0<i→ ∀h:i-1<r.ai.length,¬((i:Int)-1<0)→((i:Int)-1).toNat=i-1→(0:Int)<i→r.ai.getD (i-1) cn=r.ai[i-1]→Q')→(i=0→Q')→Q':=fun Q' a b=>by
   by_cases h0:0<i
   ·have hi1:i-1<r.ai.length:=(by omega);exact a h0 hi1 (by omega) (by omega) (by omega) (by simp [List.getD_eq_getElem?_getD,hi1])
   ·exact b (by omega)
  refine step _ (fun h0 hi1 hnn htn h0' hg1=> ?_) (fun h0=> ?_)
  ·rw [hg1]at hf;by_cases z2:r.ai[i].aR<r.ai[i-1].aR
   ·simp [z1,z2,h0]at hf;simp [hf]at h1 h2;simp [hia,ak.row,aA,aZ,z1,h0',hw2,hnn,htn,hi1,z2,h0];simpa [aA]using h2
   ·cases z3:cE r.ai[i].aO 0 ((r.ah.length:Int)-1)with
    |false=>
     simp [z1,z2,z3,h0]at hf;simp [hf]at h1 h2;simp [hia,ak.row,aA,aZ,z1,h0',hw2,hnn,htn,hi1,z2,hwp,z3,h0];simpa [aA]using h2
    |true=>
    simp only [z1,z2,z3,and_false,Bool.true_eq_false,if_false]at hf;simp [hia,ak.row,aA,aZ,z1,h0',hw2,hnn,htn,hi1,z2,hwp,z3,h0];refine L _ (fun z4=> ?_) (fun z4=> ?_)
    ·have z4':(r.ai.take i).any (fl r.ai[i])=false:=(by simpa using z4);by_cases z5:dh (b9 r.wide r.deep) r.ae.length r.ah.length r.ai[i]=0
     ·cases z6:cE r.ai[i].cd 0 15 with
      |false=>
       simp only [z4',z5,z6,Bool.false_eq_true,ne_eq,not_true_eq_false,true_or,if_false,if_true]at hf;simp [hf]at h1 h2;simp [CF,z5,z6,aZ];simpa [aA]using h2
      |true=>
      cases z7:cE r.ai[i].iv 0 9 with
      |false=>
       simp only [z4',z5,z6,z7,Bool.true_eq_false,Bool.false_eq_true,ne_eq,not_true_eq_false,or_true,if_false,if_true]at hf;simp [hf]at h1 h2;simp [CF,z5,z6,z7,aZ];simpa [aA]using h2
      |true=>
       simp only [z4',z5,z6,z7,Bool.true_eq_false,Bool.false_eq_true,ne_eq,not_true_eq_false,or_self,if_false,if_true]at hf;simp [hf]at h1 h2;simp [CF,z5,z6,z7,aZ,hw];simpa [aA,ak.row]using ih' h1 h2
     ·have z5':(dh (b9 r.wide r.deep) r.ae.length r.ah.length r.ai[i] !=0)=true:=(by simpa using z5);simp only [z4',z5,Bool.false_eq_true,ne_eq,not_false_eq_true,if_false,if_true]at hf;simp [hf,z5]at h1 h2;simp [CF,z5,z5',aZ];simpa [aA]using h2
    ·have z4':(r.ai.take i).any (fl r.ai[i])=true:=(by simpa using z4);simp only [z4',if_true]at hf;simp [hf]at h1 h2;simp;simpa [aA]using h2
  ·subst h0;simp only [z1,Nat.lt_irrefl,false_and,Bool.true_eq_false,if_false]at hf;have z4':(r.ai.take 0).any (fl r.ai[0])=false:=by simp
   cases z3:cE r.ai[0].aO 0 ((r.ah.length:Int)-1)with
   |false=>
    simp [z3]at hf;simp [hf]at h1 h2;simp [hia,ak.row,aA,aZ,z1,hwp,z3];simpa [aA]using h2
   |true=>
   simp only [z3,z4',Bool.true_eq_false,Bool.false_eq_true,if_false]at hf;simp [hia,ak.row,aA,aZ,z1,hwp,z3];refine L _ (fun _=> ?_) (fun h=>by rw [z4']at h;cases h);by_cases z5:dh (b9 r.wide r.deep) r.ae.length r.ah.length r.ai[0]=0
   ·cases z6:cE r.ai[0].cd 0 15 with
    |false=>
     simp [z5,z6]at hf;simp [hf]at h1 h2;simp [CF,z5,z6,aZ];simpa [aA]using h2
    |true=>
    cases z7:cE r.ai[0].iv 0 9 with
    |false=>
     simp [z5,z6,z7]at hf;simp [hf]at h1 h2;simp [CF,z5,z6,z7,aZ];simpa [aA]using h2
    |true=>
     simp [z5,z6,z7]at hf;simp [hf]at h1 h2;simp [CF,z5,z6,z7,aZ,hw];simpa [aA,ak.row]using ih' h1 h2
   ·have z5':(dh (b9 r.wide r.deep) r.ae.length r.ah.length r.ai[0] !=0)=true:=(by simpa using z5);simp [z5]at hf;simp [hf,z5]at h1 h2;simp [CF,z5,z5',aZ];simpa [aA]using h2
noncomputable def Fe:aH→Int:=na fun r=>if 40<r.ai.length then 8 else bC (tw r) r.ai.length 0
theorem yT (r:aH):Fe r=if 40<r.ai.length then 8 else bC (tw r) r.ai.length 0:=by rw [Fe,cO]
theorem Al (r:aH)(h3:r.ah.length≤1000000)(h4:r.ae.length≤1000000)(hH:0<H.length):
  aI KC (aC KC) 97 [.pure (.agg r.row)] c H=some (.pure (.int .i64 (Fe r)),H):=by
 refine dq rfl rfl rfl rfl rfl hH fun H hH=> ?_;refine aN (aJ KC au Tryz.func97 rfl rfl VU (by simp) hH ?_);have hr:=yT r;rw [cQ];by_cases z2:40<r.ai.length
 ·have z2':(40:Int)<r.ai.length:=(by omega);simp [z2]at hr;simp [z2,z2',aa,hr]
 ·have z2': ¬(40:Int)<r.ai.length:=(by omega);simp only [z2,if_false]at hr;simp [z2,z2'];have L:=fun Q=>Hq (H:=H) r (by omega) h3 h4 Q r.ai.length 0 (by omega);simp [aA]at L;refine L _ (fun h=> ?_) (fun h=> ?_)
  ·simp [h]at hr;simp [aa,hr]
  ·simp [aa,hr]
theorem Ea (r:aH)(h1:r.seen.length≤1000000)(h2:r.aY.length≤1000000)(h3:r.ah.length≤1000000)(h4:r.ae.length≤1000000)(hH:0<H.length):
  bM KC (aC KC) 60 [.pure (.agg r.row)] c H=some (.pure (.int .i64 (dG r)),H):=by
 refine aN (aJ KC au Tryz.func60 rfl rfl Vt (by simp) hH ?_);have hr:=qY r;have r1:=tn r;have r2:=uD r;have r3:=uE r;have r4:=yT r;have P:=fun c (H:aj) (hH:0<H.length)=>w7 (c:=c) (H:=H) r hH;have T:=fun c (H:aj) (hH:0<H.length)=>w8 (c:=c) (H:=H) r h1 h2 hH;have A:=fun c (H:aj) (hH:0<H.length)=>Al (c:=c) (H:=H) r h3 h4 hH;rw [cQ]at P T A⊢
 cases e1:cE r.wide 1 6 with
 |false=>
  simp [e1]at r1;simp [r1]at hr;simp [aZ,e1,aa,hr]
 |true=>
 cases e2:cE r.deep 1 6 with
 |false=>
  simp [e1,e2]at r1;simp [r1]at hr;simp [aZ,e1,e2,aa,hr]
 |true=>
 have rr:o8 r=if l6 r≠0 then l6 r else nO r:=by
  rw [r1,r2,r3,e1,e2];simp only [Bool.true_eq_false,or_self,if_false];by_cases q1:r.ah.length=0
  ·simp [q1]
  ·by_cases q2:4<r.ah.length
   ·simp [q1,q2]
   ·simp only [q1,q2,if_false]
 by_cases p1:l6 r=0
 ·simp only [p1,ne_eq,not_true_eq_false,if_false]at rr;by_cases p2:nO r=0
  ·rw [p2]at rr;have ra:dG r=Fe r:=by
    rw [hr,rr,r4];simp
   simp [aZ,e1,e2,P,T,A,p1,p2,aa,ra]
  ·have p2':(nO r !=0)=true:=(by simpa using p2);have ra:dG r=nO r:=by
    rw [hr,rr];simp [p2]
   simp [aZ,e1,e2,P,T,A,p1,p2,p2',aa,ra]
 ·have p1':(l6 r !=0)=true:=(by simpa using p1);have ra:dG r=l6 r:=by
   rw [hr,rr];simp [p1]
  simp [aZ,e1,e2,P,T,A,p1,p1',aa,ra]
end
section
variable {c:Nat} {H:aj}
noncomputable def ky:Int→Int→Int→Bool:=na fun w a b=>
 (IntKind.i64.wrap (a.tmod w-b.tmod w)==0 && (IntKind.i64.wrap (IntKind.i64.wrap (a.tdiv w)-IntKind.i64.wrap (b.tdiv w))==1||IntKind.i64.wrap (IntKind.i64.wrap (a.tdiv w)-IntKind.i64.wrap (b.tdiv w))== -1))||
 (IntKind.i64.wrap (IntKind.i64.wrap (a.tdiv w)-IntKind.i64.wrap (b.tdiv w))==0 && (IntKind.i64.wrap (a.tmod w-b.tmod w)==1||IntKind.i64.wrap (a.tmod w-b.tmod w)== -1))
theorem xZ (w a b:Int):ky w a b=
 ((IntKind.i64.wrap (a.tmod w-b.tmod w)==0 && (IntKind.i64.wrap (IntKind.i64.wrap (a.tdiv w)-IntKind.i64.wrap (b.tdiv w))==1||IntKind.i64.wrap (IntKind.i64.wrap (a.tdiv w)-IntKind.i64.wrap (b.tdiv w))== -1))||
 (IntKind.i64.wrap (IntKind.i64.wrap (a.tdiv w)-IntKind.i64.wrap (b.tdiv w))==0 && (IntKind.i64.wrap (a.tmod w-b.tmod w)==1||IntKind.i64.wrap (a.tmod w-b.tmod w)== -1))):=by rw [ky,cO]
theorem mQ {w d a b:Int}{x1 x2 x3 x4 x5:PV}(hw:w≠0)(hH:0<H.length):aI KC (aC KC) 120 [.pure (.agg [.int .i64 w, .int .i64 d,x1,x2,x3,x4,x5]), .pure (.int .i64 a), .pure (.int .i64 b)] c H=some (.pure (.bool (ky w a b)),H):=by
 refine dq rfl rfl rfl rfl rfl hH fun H hH=> ?_;refine aN (aJ KC au Tryz.func120 rfl rfl Oe (by simp) hH ?_);have hd:=xZ w a b;generalize hx:IntKind.i64.wrap (a.tmod w-b.tmod w)=x at hd;generalize hy:IntKind.i64.wrap (IntKind.i64.wrap (a.tdiv w)-IntKind.i64.wrap (b.tdiv w))=y at hd;by_cases x0:x=0
 ·subst x0;by_cases y1:y=1
  ·subst y1;simp at hd;simp [hw,hx,hy,aa,hd]
  ·have y1':(y==1)=false:=(by simpa using y1);by_cases y2:y= -1
   ·subst y2;simp at hd;simp [hw,hx,hy,aa,hd]
   ·have y2':(y== -1)=false:=(by simpa using y2);by_cases y0:y=0
    ·subst y0;simp at hd;simp [hw,hx,hy,aa,hd]
    ·have y0':(y==0)=false:=(by simpa using y0);simp [y1',y2',y0']at hd;simp [hw,hx,hy,y1',y2',y0',aa,hd]
 ·have x0':(x==0)=false:=(by simpa using x0);by_cases y0:y=0
  ·subst y0;by_cases x1:x=1
   ·subst x1;simp at hd;simp [hw,hx,hy,aa,hd]
   ·have x1':(x==1)=false:=(by simpa using x1);by_cases x2:x= -1
    ·subst x2;simp at hd;simp [hw,hx,hy,aa,hd]
    ·have x2':(x== -1)=false:=(by simpa using x2);simp [x0',x1',x2']at hd;simp [hw,hx,hy,x0',x1',x2',aa,hd]
  ·have y0':(y==0)=false:=(by simpa using y0);simp [x0',y0']at hd;simp [hw,hx,hy,x0',y0',aa,hd]
def aU:br:=⟨0,0⟩
noncomputable def fg:List br→Int→Int→Bool:=na fun ts t st=>decide (0≤t) && ((IntKind.i64.wrap ((ts.getD t.toNat aU).state.tdiv st)).tmod 2==1)
theorem iL (ts:List br)(t st:Int):fg ts t st=(decide (0≤t) && ((IntKind.i64.wrap ((ts.getD t.toNat aU).state.tdiv st)).tmod 2==1)):=by rw [fg,cO]
theorem Ff {ts:List br}{x1 x2:PV}{t st:Int}(ht:t<ts.length)(hst:st≠0)(hH:0<H.length):
  bM KC (aC KC) 121 [.pure (.agg [x1,x2, .slice (ts.map br.row)]), .pure (.int .i64 t), .pure (.int .i64 st)] c H=some (.pure (.bool (fg ts t st)),H):=by
 refine aN (aJ KC au Tryz.func121 rfl rfl Og (by simp) hH ?_);have hd:=iL ts t st;by_cases h0:0≤t
 ·have hn: ¬t<0:=(by omega);have hl:t.toNat<ts.length:=(by omega);have hg:ts.getD t.toNat aU=ts[t.toNat]:=(by simp [List.getD_eq_getElem?_getD,hl]);rw [hg]at hd;simp [h0]at hd;simp [h0,hn,hl,hst,br.row,aa,hd]
 ·simp [h0]at hd;simp [h0,aa,hd]
theorem vg {ts:List br}{x1 x2:PV}{t st:Int}(ht:t<ts.length)(hst:st≠0)(hH:0<H.length):
  aI KC (aC KC) 121 [.pure (.agg [x1,x2, .slice (ts.map br.row)]), .pure (.int .i64 t), .pure (.int .i64 st)] c H=some (.pure (.bool (fg ts t st)),H):=dq rfl rfl rfl rfl rfl hH fun H hH=>Ff ht hst hH
def bH:aF:=⟨0,0⟩
def eA (hs:List aF)(aO:Nat):Int:=if (hs.getD aO bH).l= -1 then 0 else if (hs.getD aO bH).r= -1 then 1 else-1
theorem tx {hs:List aF}{x1 x2:PV}{aO:Nat}(hw:aO<hs.length)(hl:hs.length≤1000000)(hH:0<H.length):
  bM KC (aC KC) 85 [.pure (.agg [x1, .slice (hs.map aF.row),x2]), .pure (.int .i64 aO)] c H=some (.pure (.int .i64 (eA hs aO)),H):=by
 refine aN (aJ KC au Tryz.func85 rfl rfl VK (by simp) hH ?_);have hg:hs.getD aO bH=hs[aO]:=(by simp [List.getD_eq_getElem?_getD,hw]);have hd:eA hs aO=if hs[aO].l= -1 then 0 else if hs[aO].r= -1 then 1 else-1:=(by unfold eA;rw [hg]);have w2:IntKind.i64.wrap 2=2:=rfl;simp;apply aw;conv=>arg 4;whnf
 by_cases h1:hs[aO].l= -1
 ·simp [h1]at hd;simp [hw,aF.row,h1,aa,hd]
 ·have h1':(hs[aO].l== -1)=false:=(by simpa using h1);simp [h1]at hd;simp [hw,aF.row,h1'];apply aw;conv=>arg 4;whnf
  by_cases h2:hs[aO].r= -1
  ·simp [h2]at hd;simp [hw,aF.row,h2,aa,hd]
  ·have h2':(hs[aO].r== -1)=false:=(by simpa using h2);simp [h2]at hd;simp [hw,aF.row,h2',w2];apply aw;conv=>arg 4;whnf
   simp [aa,hd]
theorem yU {hs:List aF}{x1 x2:PV}{aO:Nat}(hw:aO<hs.length)(hl:hs.length≤1000000)(hH:0<H.length):
  aI KC (aC KC) 85 [.pure (.agg [x1, .slice (hs.map aF.row),x2]), .pure (.int .i64 aO)] c H=some (.pure (.int .i64 (eA hs aO)),H):=dq rfl rfl rfl rfl rfl hH fun H hH=>tx hw hl hH
end
section
variable {c:Nat} {H:aj}
def bN (s:ay)(w:Nat)(hand:Int):Int:=if hand=0 then (s.ao.getD w bH).l else (s.ao.getD w bH).r
def cF:aV:=⟨0,0,0,0,false⟩
noncomputable def dy:aH→ay→Nat→ak→Bool:=na fun r s w a=>
 if a.kind=1 then !(s.ah.contains a.cell) && ky r.wide (s.ah.getD w 0) a.cell
 else if a.kind=2 then bN s w a.hand== -1 && (s.ae.getD a.a9.toNat aU).cell==s.ah.getD w 0
 else if a.kind=3 then decide (0≤bN s w a.hand)
 else if a.kind=4 then decide (0≤bN s w a.hand) && ky r.wide (s.ah.getD w 0) (s.ah.getD a.other.toNat 0) && decide (0≤eA s.ao a.other.toNat)
 else if a.kind=5 then decide (0≤bN s w a.hand) && (r.ae.getD (bN s w a.hand).toNat cF).vC && decide (0≤bN s w (1-a.hand))
 else if a.kind=6 then fg s.ae (bN s w a.hand) 2 && !fg s.ae (bN s w a.hand) 4 && decide (0≤bN s w (1-a.hand)) && !fg s.ae (bN s w (1-a.hand)) 2 && !fg s.ae (bN s w (1-a.hand)) 4
 else if a.kind=7 then decide (0≤bN s w a.hand) && !fg s.ae (bN s w a.hand) 4
 else fg s.ae (bN s w a.hand) 4
theorem fH (r:aH)(s:ay)(w:Nat)(a:ak):dy r s w a=
 if a.kind=1 then !(s.ah.contains a.cell) && ky r.wide (s.ah.getD w 0) a.cell
 else if a.kind=2 then bN s w a.hand== -1 && (s.ae.getD a.a9.toNat aU).cell==s.ah.getD w 0
 else if a.kind=3 then decide (0≤bN s w a.hand)
 else if a.kind=4 then decide (0≤bN s w a.hand) && ky r.wide (s.ah.getD w 0) (s.ah.getD a.other.toNat 0) && decide (0≤eA s.ao a.other.toNat)
 else if a.kind=5 then decide (0≤bN s w a.hand) && (r.ae.getD (bN s w a.hand).toNat cF).vC && decide (0≤bN s w (1-a.hand))
 else if a.kind=6 then fg s.ae (bN s w a.hand) 2 && !fg s.ae (bN s w a.hand) 4 && decide (0≤bN s w (1-a.hand)) && !fg s.ae (bN s w (1-a.hand)) 2 && !fg s.ae (bN s w (1-a.hand)) 4
 else if a.kind=7 then decide (0≤bN s w a.hand) && !fg s.ae (bN s w a.hand) 4
 else fg s.ae (bN s w a.hand) 4:=by rw [dy,cO]
def pj (s:ay):dM:= .box [.pure (.slice (s.ah.map aG)), .pure (.slice (s.ao.map aF.row)), .pure (.slice (s.ae.map br.row))]
theorem xa (r:aH) (s:ay) (hl:s.ah.length≤1000000) (cell q1 q2 kind hand a9 other q3 q4:Int) (Q:GX→bP→Prop) (fr:Fr)
  (hfr:fr=[(3,aA r),(4,pj s),(5, .box [.pure (.int .i64 q1), .pure (.int .i64 q2), .pure (.int .i64 kind), .pure (.int .i64 hand), .pure (.int .i64 a9), .pure (.int .i64 cell), .pure (.int .i64 other), .pure (.int .i64 q3), .pure (.int .i64 q4)])]):
  ∀k i:Nat,i+k=s.ah.length→
  ((s.ah.drop i).contains cell=false→Q (.exit 1) ⟨[(3, .aD (H.length,3) 0),(4, .aD (H.length,4) 0),(5, .aD (H.length,5) 0),(6,aP)],fr::H,165⟩)→
  ((s.ah.drop i).contains cell=true→Q .ret ⟨[(3, .aD (H.length,3) 0),(4, .aD (H.length,4) 0),(5, .aD (H.length,5) 0),(6, .pure (.bool false))],fr::H,165⟩)→
  fL KC au 84 (lp Tryz.f84 0) [3,4,5,9] [3,4,5,6] Q
   [(3, .aD (H.length,3) 0),(4, .aD (H.length,4) 0),(5, .aD (H.length,5) 0),(9, .pure (.int .i64 i))] (fr::H) 165:=by
 subst hfr;intro k
 induction k with
 |zero=>
  intro i hi h1 h2;have e1:s.ah.drop i=[]:=List.drop_of_length_le (by omega);rw [e1]at h1;apply aw;conv=>arg 4;whnf
  have: ¬i<s.ah.length:=(by omega);simp [this,aA,pj];simpa [aA,pj]using h1 rfl
 |succ k ih=>
  intro i hi h1 h2;have hia:i<s.ah.length:=(by omega);have hw:=cu (x:=(i:Int)+1) (by omega) (by omega);have ih':=ih (i+1) (by omega);rw [List.drop_eq_getElem_cons hia,List.contains_cons]at h1 h2;apply aw;conv=>arg 4;whnf
  by_cases he:s.ah[i]=cell
  ·have ht:(cell==s.ah[i]||(s.ah.drop (i+1)).contains cell)=true:=(by simp [he]);simp [hia,aA,pj,aG,he];simpa [aA,pj]using h2 ht
  ·have he':(s.ah[i]==cell)=false:=(by simpa using he);have he2:(cell==s.ah[i])=false:=(by simpa using fun h=>he h.symm);rw [he2,Bool.false_or]at h1 h2;simp [hia,aA,pj,aG,he',hw];simpa [aA,pj,aG]using ih' h1 h2
theorem Am {r:aH} {s:ay} {w:Nat} {q1 kind a9 cell other q3 q4:Int} (hw:w<s.ah.length) (hwh:w<s.ao.length) (hhl:s.ao.length≤1000000) (hpl:s.ah.length≤1000000) (hwide:r.wide≠0)
  (hL: ∀h:w<s.ao.length,s.ao[w].l<s.ae.length∧s.ao[w].r<s.ae.length∧ -1≤s.ao[w].l∧ -1≤s.ao[w].r) (htl:s.ae.length=r.ae.length)
  (h2:kind=2→ ∃t:Nat,a9=t∧t<s.ae.length) (h4:kind=4→ ∃o:Nat,other=o∧o<s.ah.length∧o<s.ao.length) (hH:0<H.length):
  bM KC (aC KC) 84 [.pure (.agg r.row), .pure (.agg s.row), .pure (.agg [.int .i64 q1, .int .i64 w, .int .i64 kind, .int .i64 0, .int .i64 a9, .int .i64 cell, .int .i64 other, .int .i64 q3, .int .i64 q4])] c H=
   some (.pure (.bool (dy r s w ⟨q1,w,kind,0,a9,cell,other,q3,q4⟩)),H):=by
 refine aN (aJ KC au Tryz.func84 rfl rfl Ja (by simp) hH ?_);have hd:=fH r s w ⟨q1,w,kind,0,a9,cell,other,q3,q4⟩;obtain⟨l1,l2,l3,l4⟩:=hL hwh;have hg:s.ao.getD w bH=s.ao[w]:=(by simp [List.getD_eq_getElem?_getD,hwh]);have hp:s.ah.getD w 0=s.ah[w]:=(by simp [List.getD_eq_getElem?_getD,hw]);have e1:bN s w 0=s.ao[w].l:=(by unfold bN;rw [hg];simp);have e2:bN s w (1-0)=s.ao[w].r:=(by unfold bN;rw [hg];simp);simp only [e1,e2,hp]at hd;have wr:IntKind.i64.wrap (1-0)=1:=rfl;rw [cQ];simp only [ay.row];have sw:(1:Int)-0=1:=rfl;by_cases k1:kind=1
 ·subst k1;rw [if_pos rfl]at hd;simp [hw,hwh,aF.row,wr];have L:=fun Q=>xa (H:=H) r s hpl cell q1 w 1 0 a9 other q3 q4 Q _ rfl s.ah.length 0 (by omega);simp only [aA,pj]at L;refine L _ (fun z=> ?_) (fun z=> ?_)
  ·have z':s.ah.contains cell=false:=(by simpa using z);rw [z',Bool.not_false,Bool.true_and]at hd;simp [hw,hwide,aG,mQ,aa,hd]
  ·have z':s.ah.contains cell=true:=(by simpa using z);rw [z',Bool.not_true,Bool.false_and]at hd;simp [aa,hd]
 have k1':(kind==1)=false:=(by simpa using k1);by_cases k2:kind=2
 ·subst k2;obtain⟨t,rfl,ht⟩:=h2 rfl;have hgt:s.ae.getD t aU=s.ae[t]:=(by simp [List.getD_eq_getElem?_getD,ht]);simp [hgt]at hd;by_cases z1:s.ao[w].l= -1
  ·simp [z1]at hd;simp [hw,hwh,aF.row,wr,z1,ht,br.row,aG,aa,hd]
  ·have z1':(s.ao[w].l== -1)=false:=(by simpa using z1);simp [z1']at hd;simp [hw,hwh,aF.row,wr,z1',aa,hd]
 have k2':(kind==2)=false:=(by simpa using k2);by_cases k3:kind=3
 ·subst k3;simp at hd;simp [hw,hwh,aF.row,wr,aa,hd]
 have k3':(kind==3)=false:=(by simpa using k3);by_cases k4:kind=4
 ·subst k4;obtain⟨o,rfl,ho,ho2⟩:=h4 rfl;have hgo:s.ah.getD o 0=s.ah[o]:=(by simp [List.getD_eq_getElem?_getD,ho]);simp [hgo]at hd;by_cases z1:0≤s.ao[w].l
  ·cases z2:ky r.wide s.ah[w] s.ah[o]with
   |true=>
    simp [z1,z2]at hd;simp [hw,hwh,aF.row,wr,z1,ho,aG,mQ,hwide,z2,yU,ho2,hhl,aa,hd]
   |false=>
    simp [z1,z2]at hd;simp [hw,hwh,aF.row,wr,z1,ho,aG,mQ,hwide,z2,aa,hd]
  ·simp [z1]at hd;simp [hw,hwh,aF.row,wr,z1,aa,hd]
 have k4':(kind==4)=false:=(by simpa using k4);by_cases k5:kind=5
 ·subst k5;simp at hd;by_cases z1:0≤s.ao[w].l
  ·have n1: ¬s.ao[w].l<0:=(by omega);have n2:(s.ao[w].l).toNat<r.ae.length:=(by omega);have hgt:r.ae[(s.ao[w].l).toNat]?.getD cF=r.ae[(s.ao[w].l).toNat]:=(by simp [n2]);rw [hgt]at hd
   cases z2:r.ae[(s.ao[w].l).toNat].vC with
   |true=>
    simp [z1,z2]at hd;simp [hw,hwh,aF.row,wr,z1,n1,n2,aV.row,z2,aa,hd]
   |false=>
    simp [z1,z2]at hd;simp [hw,hwh,aF.row,wr,z1,n1,n2,aV.row,z2,aa,hd]
  ·simp [z1]at hd;simp [hw,hwh,aF.row,wr,z1,aa,hd]
 have k5':(kind==5)=false:=(by simpa using k5);by_cases k6:kind=6
 ·subst k6;simp at hd;have P:=fun(t st:Int) (ht:t<s.ae.length) (hst:st≠0) (c:Nat) (H:aj) (hH:0<H.length)=>vg (c:=c) (H:=H) (ts:=s.ae) (x1:= .slice (s.ah.map aG)) (x2:= .slice (s.ao.map aF.row)) ht hst hH
  cases z1:fg s.ae s.ao[w].l 2 with
  |false=>
   simp [z1]at hd;simp [hw,hwh,aF.row,wr,P,l1,l2,z1,aa,hd]
  |true=>
  cases z2:fg s.ae s.ao[w].l 4 with
  |true=>
   simp [z1,z2]at hd;simp [hw,hwh,aF.row,wr,P,l1,l2,z1,z2,aa,hd]
  |false=>
  by_cases z3:0≤s.ao[w].r
  ·cases z4:fg s.ae s.ao[w].r 2 with
   |true=>
    simp [z1,z2,z3,z4]at hd;simp [hw,hwh,aF.row,wr,P,l1,l2,z1,z2,z3,z4,aa,hd]
   |false=>
    simp [z1,z2,z3,z4]at hd;simp [hw,hwh,aF.row,wr,P,l1,l2,z1,z2,z3,z4,aa,hd]
  ·simp [z1,z2,z3]at hd;simp [hw,hwh,aF.row,wr,P,l1,l2,z1,z2,z3,aa,hd]
 have k6':(kind==6)=false:=(by simpa using k6);have P:=fun(t st:Int) (ht:t<s.ae.length) (hst:st≠0) (c:Nat) (H:aj) (hH:0<H.length)=>vg (c:=c) (H:=H) (ts:=s.ae) (x1:= .slice (s.ah.map aG)) (x2:= .slice (s.ao.map aF.row)) ht hst hH;by_cases k7:kind=7
 ·subst k7;simp at hd;by_cases z1:0≤s.ao[w].l
  ·simp [z1]at hd;simp [hw,hwh,aF.row,wr,P,l1,l2,z1,aa,hd]
  ·simp [z1]at hd;simp [hw,hwh,aF.row,wr,z1,aa,hd]
 have k7':(kind==7)=false:=(by simpa using k7);simp only [k1,k2,k3,k4,k5,k6,k7,if_false]at hd;simp [hw,hwh,aF.row,wr,P,l1,l2,k1',k2',k3',k4',k5',k6',k7',aa,hd]
theorem An {r:aH} {s:ay} {w:Nat} {q1 kind a9 cell other q3 q4:Int} (hw:w<s.ah.length) (hwh:w<s.ao.length) (hhl:s.ao.length≤1000000) (hpl:s.ah.length≤1000000) (hwide:r.wide≠0)
  (hL: ∀h:w<s.ao.length,s.ao[w].l<s.ae.length∧s.ao[w].r<s.ae.length∧ -1≤s.ao[w].l∧ -1≤s.ao[w].r) (htl:s.ae.length=r.ae.length)
  (h2:kind=2→ ∃t:Nat,a9=t∧t<s.ae.length) (h4:kind=4→ ∃o:Nat,other=o∧o<s.ah.length∧o<s.ao.length) (hH:0<H.length):
  bM KC (aC KC) 84 [.pure (.agg r.row), .pure (.agg s.row), .pure (.agg [.int .i64 q1, .int .i64 w, .int .i64 kind, .int .i64 1, .int .i64 a9, .int .i64 cell, .int .i64 other, .int .i64 q3, .int .i64 q4])] c H=
   some (.pure (.bool (dy r s w ⟨q1,w,kind,1,a9,cell,other,q3,q4⟩)),H):=by
 refine aN (aJ KC au Tryz.func84 rfl rfl Ja (by simp) hH ?_);have hd:=fH r s w ⟨q1,w,kind,1,a9,cell,other,q3,q4⟩;obtain⟨l1,l2,l3,l4⟩:=hL hwh;have hg:s.ao.getD w bH=s.ao[w]:=(by simp [List.getD_eq_getElem?_getD,hwh]);have hp:s.ah.getD w 0=s.ah[w]:=(by simp [List.getD_eq_getElem?_getD,hw]);have e1:bN s w 1=s.ao[w].r:=(by unfold bN;rw [hg];simp);have e2:bN s w (1-1)=s.ao[w].l:=(by unfold bN;rw [hg];simp);simp only [e1,e2,hp]at hd;have wr:IntKind.i64.wrap (1-1)=0:=rfl;rw [cQ];simp only [ay.row];have sw:(1:Int)-1=0:=rfl;by_cases k1:kind=1
 ·subst k1;rw [if_pos rfl]at hd;simp [hw,hwh,aF.row,wr];have L:=fun Q=>xa (H:=H) r s hpl cell q1 w 1 1 a9 other q3 q4 Q _ rfl s.ah.length 0 (by omega);simp only [aA,pj]at L;refine L _ (fun z=> ?_) (fun z=> ?_)
  ·have z':s.ah.contains cell=false:=(by simpa using z);rw [z',Bool.not_false,Bool.true_and]at hd;simp [hw,hwide,aG,mQ,aa,hd]
  ·have z':s.ah.contains cell=true:=(by simpa using z);rw [z',Bool.not_true,Bool.false_and]at hd;simp [aa,hd]
 have k1':(kind==1)=false:=(by simpa using k1);by_cases k2:kind=2
 ·subst k2;obtain⟨t,rfl,ht⟩:=h2 rfl;have hgt:s.ae.getD t aU=s.ae[t]:=(by simp [List.getD_eq_getElem?_getD,ht]);simp [hgt]at hd;by_cases z1:s.ao[w].r= -1
  ·simp [z1]at hd;simp [hw,hwh,aF.row,wr,z1,ht,br.row,aG,aa,hd]
  ·have z1':(s.ao[w].r== -1)=false:=(by simpa using z1);simp [z1']at hd;simp [hw,hwh,aF.row,wr,z1',aa,hd]
 have k2':(kind==2)=false:=(by simpa using k2);by_cases k3:kind=3
 ·subst k3;simp at hd;simp [hw,hwh,aF.row,wr,aa,hd]
 have k3':(kind==3)=false:=(by simpa using k3);by_cases k4:kind=4
 ·subst k4;obtain⟨o,rfl,ho,ho2⟩:=h4 rfl;have hgo:s.ah.getD o 0=s.ah[o]:=(by simp [List.getD_eq_getElem?_getD,ho]);simp [hgo]at hd;by_cases z1:0≤s.ao[w].r
  ·cases z2:ky r.wide s.ah[w] s.ah[o]with
   |true=>
    simp [z1,z2]at hd;simp [hw,hwh,aF.row,wr,z1,ho,aG,mQ,hwide,z2,yU,ho2,hhl,aa,hd]
   |false=>
    simp [z1,z2]at hd;simp [hw,hwh,aF.row,wr,z1,ho,aG,mQ,hwide,z2,aa,hd]
  ·simp [z1]at hd;simp [hw,hwh,aF.row,wr,z1,aa,hd]
 have k4':(kind==4)=false:=(by simpa using k4);by_cases k5:kind=5
 ·subst k5;simp at hd;by_cases z1:0≤s.ao[w].r
  ·have n1: ¬s.ao[w].r<0:=(by omega);have n2:(s.ao[w].r).toNat<r.ae.length:=(by omega);have hgt:r.ae[(s.ao[w].r).toNat]?.getD cF=r.ae[(s.ao[w].r).toNat]:=(by simp [n2]);rw [hgt]at hd
   cases z2:r.ae[(s.ao[w].r).toNat].vC with
   |true=>
    simp [z1,z2]at hd;simp [hw,hwh,aF.row,wr,z1,n1,n2,aV.row,z2,aa,hd]
   |false=>
    simp [z1,z2]at hd;simp [hw,hwh,aF.row,wr,z1,n1,n2,aV.row,z2,aa,hd]
  ·simp [z1]at hd;simp [hw,hwh,aF.row,wr,z1,aa,hd]
 have k5':(kind==5)=false:=(by simpa using k5);by_cases k6:kind=6
 ·subst k6;simp at hd;have P:=fun(t st:Int) (ht:t<s.ae.length) (hst:st≠0) (c:Nat) (H:aj) (hH:0<H.length)=>vg (c:=c) (H:=H) (ts:=s.ae) (x1:= .slice (s.ah.map aG)) (x2:= .slice (s.ao.map aF.row)) ht hst hH
  cases z1:fg s.ae s.ao[w].r 2 with
  |false=>
   simp [z1]at hd;simp [hw,hwh,aF.row,wr,P,l1,l2,z1,aa,hd]
  |true=>
  cases z2:fg s.ae s.ao[w].r 4 with
  |true=>
   simp [z1,z2]at hd;simp [hw,hwh,aF.row,wr,P,l1,l2,z1,z2,aa,hd]
  |false=>
  by_cases z3:0≤s.ao[w].l
  ·cases z4:fg s.ae s.ao[w].l 2 with
   |true=>
    simp [z1,z2,z3,z4]at hd;simp [hw,hwh,aF.row,wr,P,l1,l2,z1,z2,z3,z4,aa,hd]
   |false=>
    simp [z1,z2,z3,z4]at hd;simp [hw,hwh,aF.row,wr,P,l1,l2,z1,z2,z3,z4,aa,hd]
  ·simp [z1,z2,z3]at hd;simp [hw,hwh,aF.row,wr,P,l1,l2,z1,z2,z3,aa,hd]
 have k6':(kind==6)=false:=(by simpa using k6);have P:=fun(t st:Int) (ht:t<s.ae.length) (hst:st≠0) (c:Nat) (H:aj) (hH:0<H.length)=>vg (c:=c) (H:=H) (ts:=s.ae) (x1:= .slice (s.ah.map aG)) (x2:= .slice (s.ao.map aF.row)) ht hst hH;by_cases k7:kind=7
 ·subst k7;simp at hd;by_cases z1:0≤s.ao[w].r
  ·simp [z1]at hd;simp [hw,hwh,aF.row,wr,P,l1,l2,z1,aa,hd]
  ·simp [z1]at hd;simp [hw,hwh,aF.row,wr,z1,aa,hd]
 have k7':(kind==7)=false:=(by simpa using k7);simp only [k1,k2,k3,k4,k5,k6,k7,if_false]at hd;simp [hw,hwh,aF.row,wr,P,l1,l2,k1',k2',k3',k4',k5',k6',k7',aa,hd]
end
section
variable {c:Nat} {H:aj}
def dL (aO kind hand a9 cell other:Int):ak:=⟨0,aO,kind,hand,a9,cell,other,0,0⟩
def jb (aO:Int)(k i:Nat):List ak:=(List.range' i k).map fun(x:Nat)=>dL aO 1 0 0 x 0
def kr (aO hand:Int)(k i:Nat):List ak:=(List.range' i k).map fun(x:Nat)=>dL aO 2 hand x 0 0
def jD (aO hand:Int)(k i:Nat):List ak:=((List.range' i k).filter fun(x:Nat)=> !((x:Int)==aO)).map fun(x:Nat)=>dL aO 4 hand 0 0 x
def kA (nt np:Nat)(aO:Int)(kind:Nat)(hand:Int):List ak:=if kind=2 then kr aO hand nt 0 else if kind=4 then jD aO hand np 0 else [dL aO kind hand 0 0 0]
def qi (nt np:Nat)(aO:Int)(kind:Nat):List ak:=kA nt np aO kind 0++kA nt np aO kind 1
def ja (nt np:Nat)(aO:Int)(k i:Nat):List ak:=(List.range' i k).flatMap (qi nt np aO)
def dn (n nt np:Nat)(aO:Int):List ak:=jb aO n 0++ja nt np aO 7 2
theorem xb (aO:Int)(k i:Nat):jb aO (k+1) i=dL aO 1 0 0 i 0::jb aO k (i+1):=by simp [jb,List.range'_succ]
theorem Ca (aO hand:Int)(k i:Nat):kr aO hand (k+1) i=dL aO 2 hand i 0 0::kr aO hand k (i+1):=by simp [kr,List.range'_succ]
theorem Cb (aO hand:Int)(k i:Nat):jD aO hand (k+1) i=if (i:Int)=aO then jD aO hand k (i+1)else dL aO 4 hand 0 0 i::jD aO hand k (i+1):=by
 by_cases h:(i:Int)=aO
 ·simp [jD,List.range'_succ,h]
 ·simp [jD,List.range'_succ,h]
theorem uF (nt np:Nat)(aO:Int)(k i:Nat):ja nt np aO (k+1) i=qi nt np aO i++ja nt np aO k (i+1):=by simp [ja,List.range'_succ]
theorem Ef (aO hand:Int)(k i:Nat):(kr aO hand k i).length=k:=by simp [kr]
theorem Eg (aO hand:Int)(k i:Nat):(jD aO hand k i).length≤k:=by
 simp only [jD,List.length_map];exact Nat.le_trans (List.length_filter_le _ _) (by simp)
theorem tz (nt np:Nat)(aO:Int)(kind:Nat)(hand:Int):(kA nt np aO kind hand).length≤nt+np+1:=by
 have:=Eg aO hand np 0;have:=Ef aO hand nt 0;unfold kA;split
 ·omega
 ·split
  ·omega
  ·simp
theorem yV (nt np:Nat)(aO:Int)(kind:Nat):(qi nt np aO kind).length≤2*(nt+np+1):=by
 have:=tz nt np aO kind 0;have:=tz nt np aO kind 1;simp only [qi,List.length_append];omega
def re (r:aH)(l:List ak):Fr:=[(2,aA r),(26, .arr 9 (l.map ak.row) 0 false)]
def rf (L:Nat)(l:List ak):GV:= .aW (L,26) 9 l.length 0 l.length
theorem OP (r:aH)(aO hand:Int)(nt:Nat)(hnt:r.ae.length=nt)(hb:nt≤1000000)(Q:GX→bP→Prop): ∀(k i:Nat) (l:List ak) (x:Int),i+k=nt→l.length+k≤100000000→
  (∀y,Q (.exit 7) ⟨[(1, .pure (.int .i64 aO)),(2, .aD (H.length,2) 0),(5,rf H.length (l++kr aO hand k i)),(7, .pure (.int .i64 2)),(8, .pure (.int .i64 hand))],[(9,bR (dL aO 2 hand y 0 0))]::[]::re r (l++kr aO hand k i)::H,78⟩)→
  fL KC au 25 (lp Tryz.f25 3) [1,2,5,7,8,9,10] [1,2,5,7,8] Q
   [(1, .pure (.int .i64 aO)),(2, .aD (H.length,2) 0),(5,rf H.length l),(7, .pure (.int .i64 2)),(8, .pure (.int .i64 hand)),(9, .aD (H.length+2,9) 0),(10, .pure (.int .i64 i))]
   ([(9,bR (dL aO 2 hand x 0 0))]::[]::re r l::H) 78:=by
 intro k
 induction k with
 |zero=>
  intro i l x hi hl h1;have e0:kr aO hand 0 i=[]:=rfl;rw [e0,List.append_nil]at h1;have: ¬i<nt:=(by omega);apply aw;conv=>arg 4;whnf
  simp [re,rf,aA,bR,dL,hnt,this];simpa [re,rf,aA,bR,dL]using h1 x
 |succ k ih=>
  intro i l x hi hl h1;have hia:i<nt:=(by omega);have hw:=cu (x:=(i:Int)+1) (by omega) (by omega);rw [Ca]at h1;have ih':=ih (i+1) (l++[dL aO 2 hand i 0 0]) i (by omega) (by simp;omega);simp only [List.append_assoc,List.singleton_append]at ih';have hb2:(l.length+1)*72≤1099511627776:=(by omega);apply aw;conv=>arg 4;whnf
  simp [re,rf,aA,bR,dL,hnt,hia,hw,hb2];have:=ih' h1;simpa [re,rf,aA,bR,dL,ak.row]using this
theorem OQ (r:aH)(aO hand:Int)(np:Nat)(hnp:r.ah.length=np)(hb:np≤1000000)(Q:GX→bP→Prop): ∀(k i:Nat) (l:List ak) (x:Int),i+k=np→l.length+k≤100000000→l≠[]→
  (∀y,Q (.exit 9) ⟨[(1, .pure (.int .i64 aO)),(2, .aD (H.length,2) 0),(5,rf H.length (l++jD aO hand k i)),(7, .pure (.int .i64 4)),(8, .pure (.int .i64 hand))],[(9,bR (dL aO 4 hand 0 0 y))]::[]::re r (l++jD aO hand k i)::H,78⟩)→
  fL KC au 25 (lp Tryz.f25 4) [1,2,5,7,8,9,11] [1,2,5,7,8] Q
   [(1, .pure (.int .i64 aO)),(2, .aD (H.length,2) 0),(5,rf H.length l),(7, .pure (.int .i64 4)),(8, .pure (.int .i64 hand)),(9, .aD (H.length+2,9) 0),(11, .pure (.int .i64 i))]
   ([(9,bR (dL aO 4 hand 0 0 x))]::[]::re r l::H) 78:=by
 intro k
 induction k with
 |zero=>
  intro i l x hi hl hne h1;have e0:jD aO hand 0 i=[]:=rfl;rw [e0,List.append_nil]at h1;have: ¬i<np:=(by omega);apply aw;conv=>arg 4;whnf
  simp [re,rf,aA,bR,dL,hnp,this];simpa [re,rf,aA,bR,dL]using h1 x
 |succ k ih=>
  intro i l x hi hl hne h1;have hia:i<np:=(by omega);have hw:=cu (x:=(i:Int)+1) (by omega) (by omega);rw [Cb]at h1;have hb2:(l.length+1)*72≤1099511627776:=(by omega);by_cases hwho:(i:Int)=aO
  ·rw [if_pos hwho]at h1;have ih':=ih (i+1) l i (by omega) (by omega) hne h1;apply aw;conv=>arg 4;whnf
   have hwho':((i:Int)==aO)=true:=(by simpa using hwho);simp [re,rf,aA,bR,dL,hnp,hia,hw,hb2,bne,hwho'];simpa [re,rf,aA,bR,dL,ak.row]using ih'
  ·rw [if_neg hwho]at h1;have ih':=ih (i+1) (l++[dL aO 4 hand 0 0 i]) i (by omega) (by simp;omega) (by simp);simp only [List.append_assoc,List.singleton_append]at ih';have hwho':((i:Int)==aO)=false:=(by simpa using hwho);apply aw;conv=>arg 4;whnf
   simp [re,rf,aA,bR,dL,hnp,hia,hw,hb2,bne,hwho'];have:=ih' h1;simpa [re,rf,aA,bR,dL,ak.row]using this
theorem Fg (r:aH) (aO hand:Int) (kind:Nat) (hh:hand=0∨hand=1) (hk:2≤kind∧kind≤8) (nt np:Nat) (hnt:r.ae.length=nt) (hnp:r.ah.length=np) (hb1:nt≤1000000) (hb2:np≤1000000)
  (Q:GX→bP→Prop) (l:List ak) (hl:l.length≤50000000) (hne:l≠[])
  (h:fL KC au 25 (lp Tryz.f25 2) [1,2,5,7,8] [1,2,5,7] Q
   [(1, .pure (.int .i64 aO)),(2, .aD (H.length,2) 0),(5,rf H.length (l++kA nt np aO kind hand)),(7, .pure (.int .i64 kind)),(8, .pure (.int .i64 (hand+1)))] ([]::re r (l++kA nt np aO kind hand)::H) 78):
  fL KC au 25 (lp Tryz.f25 2) [1,2,5,7,8] [1,2,5,7] Q
   [(1, .pure (.int .i64 aO)),(2, .aD (H.length,2) 0),(5,rf H.length l),(7, .pure (.int .i64 kind)),(8, .pure (.int .i64 hand))] ([]::re r l::H) 78:=by
 have hw:=cu (x:=hand+1) (by omega) (by omega);have hlt:hand<2:=(by omega);have hb3:(l.length+1)*72≤1099511627776:=(by omega);have w2:IntKind.i64.wrap 2=2:=rfl;apply aw;conv=>arg 4;whnf
 by_cases k2:kind=2
 ·subst k2;have e:kA nt np aO 2 hand=kr aO hand nt 0:=(by simp [kA]);rw [e]at h;have L:=fun Q h=>OP (H:=H) r aO hand nt hnt hb1 Q nt 0 l 0 (by omega) (by omega) h;simp [re,rf,aA,bR,dL]at L h;simp [re,rf,aA,hlt];refine L _ fun y=> ?_;simp [hw];exact h
 ·by_cases k4:kind=4
  ·subst k4;have e:kA nt np aO 4 hand=jD aO hand np 0:=(by simp [kA]);rw [e]at h;have L:=fun Q h=>OQ (H:=H) r aO hand np hnp hb2 Q np 0 l 0 (by omega) (by omega) hne h;simp [re,rf,aA,bR,dL]at L h;simp [re,rf,aA,hlt];refine L _ fun y=> ?_;simp [hw];exact h
  ·have e:kA nt np aO kind hand=[dL aO kind hand 0 0 0]:=(by simp [kA,k2,k4]);rw [e]at h;have k2':((kind:Int)==2)=false:=(by simp;omega);have k4':((kind:Int)==4)=false:=(by simp;omega);simp [re,rf,aA,dL,ak.row]at h;simp [re,rf,aA,hlt,k2',k4',hb3,hw];exact h
theorem OS (r:aH) (aO:Int) (kind:Nat) (hk:2≤kind∧kind≤8) (nt np:Nat) (hnt:r.ae.length=nt) (hnp:r.ah.length=np) (hb1:nt≤1000000) (hb2:np≤1000000)
  (Q:GX→bP→Prop) (l:List ak) (hl:l.length≤40000000) (hne:l≠[])
  (h:Q (.exit 4) ⟨[(1, .pure (.int .i64 aO)),(2, .aD (H.length,2) 0),(5,rf H.length (l++qi nt np aO kind)),(7, .pure (.int .i64 kind))],[]::re r (l++qi nt np aO kind)::H,78⟩):
  fL KC au 25 (lp Tryz.f25 2) [1,2,5,7,8] [1,2,5,7] Q
   [(1, .pure (.int .i64 aO)),(2, .aD (H.length,2) 0),(5,rf H.length l),(7, .pure (.int .i64 kind)),(8, .pure (.int .i64 0))] ([]::re r l::H) 78:=by
 have l0:=tz nt np aO kind 0;refine Fg r aO 0 kind (.inl rfl) hk nt np hnt hnp hb1 hb2 Q l (by omega) hne ?_;refine Fg r aO 1 kind (.inr rfl) hk nt np hnt hnp hb1 hb2 Q _ (by simp;omega) (by simp [hne]) ?_;rw [qi,←List.append_assoc]at h;apply aw;conv=>arg 4;whnf
 simp [re,rf]at h⊢;exact h
theorem OT (r:aH) (aO:Int) (nt np:Nat) (hnt:r.ae.length=nt) (hnp:r.ah.length=np) (hb1:nt≤1000000) (hb2:np≤1000000)
  (Q:GX→bP→Prop): ∀(k i:Nat) (l:List ak),i+k=9→2≤i→l.length+5000000*k≤39000000→l≠[]→
  Q (.exit 2) ⟨[(5,rf H.length (l++ja nt np aO k i))],re r (l++ja nt np aO k i)::H,78⟩→
  fL KC au 25 (lp Tryz.f25 1) [1,2,5,7] [5] Q
   [(1, .pure (.int .i64 aO)),(2, .aD (H.length,2) 0),(5,rf H.length l),(7, .pure (.int .i64 i))] (re r l::H) 78:=by
 intro k
 induction k with
 |zero=>
  intro i l hi h2 hl hne h1;have e0:ja nt np aO 0 i=[]:=rfl;rw [e0,List.append_nil]at h1;have:i=9:=(by omega);subst this;apply aw;conv=>arg 4;whnf
  simp [re,rf]at h1⊢;exact h1
 |succ k ih=>
  intro i l hi h2 hl hne h1;have hw:=cu (x:=(i:Int)+1) (by omega) (by omega);have hle:(i:Int)≤8:=(by omega);rw [uF,←List.append_assoc]at h1;have lb:=yV nt np aO i;have ih':=ih (i+1) (l++qi nt np aO i) (by omega) (by omega) (by simp;omega) (by simp [hne]) h1;apply aw;conv=>arg 4;whnf
  have L:=fun Q h=>OS (H:=H) r aO i (by omega) nt np hnt hnp hb1 hb2 Q l (by omega) hne h;simp [re,rf]at L ih';simp [re,rf,hle];refine L _ ?_;simp [hw];exact ih'
theorem OU (r:aH)(aO:Int)(n:Nat)(hn:IntKind.i64.wrap (r.wide*r.deep)=n)(hb:n≤1000000)(Q:GX→bP→Prop): ∀(k i:Nat) (l:List ak),i+k=n→l.length+k≤1000000→
  Q (.exit 0) ⟨[(1, .pure (.int .i64 aO)),(2, .aD (H.length,2) 0),(5,cv (H.length,26) 9 ((l++jb aO k i).map ak.row))],dS 26 9 ((l++jb aO k i).map ak.row) [(2,aA r)]::H,78⟩→
  fL KC au 25 (lp Tryz.f25 0) [1,2,5,6] [1,2,5] Q
   [(1, .pure (.int .i64 aO)),(2, .aD (H.length,2) 0),(5,cv (H.length,26) 9 (l.map ak.row)),(6, .pure (.int .i64 i))] (dS 26 9 (l.map ak.row) [(2,aA r)]::H) 78:=by
 intro k
 induction k with
 |zero=>
  intro i l hi hl h1;have e0:jb aO 0 i=[]:=rfl;rw [e0,List.append_nil]at h1;have: ¬i<n:=(by omega);apply aw;conv=>arg 4;whnf
  simp [aA,hn,this];simpa [aA]using h1
 |succ k ih=>
  intro i l hi hl h1;have hia:i<n:=(by omega);have hw:=cu (x:=(i:Int)+1) (by omega) (by omega);rw [xb]at h1;have ih':=ih (i+1) (l++[dL aO 1 0 0 i 0]) (by omega) (by simp;omega);simp only [List.append_assoc,List.singleton_append]at ih';have hb2:(l.length+1)*72≤1099511627776:=(by omega);apply aw;conv=>arg 4;whnf
  simp [aA,hn,hia,hw,hb2,Fr.get];have:=ih' h1;simpa [aA,dL,ak.row]using this
theorem Ax (r:aH)(aO:Int)(n nt np:Nat)(hn:IntKind.i64.wrap (r.wide*r.deep)=n)(hn0:0<n)(hb:n≤1000000)(hnt:r.ae.length=nt)(hnp:r.ah.length=np)(hb1:nt≤1000000)(hb2:np≤1000000)(hH:0<H.length):
  aI KC (aC KC) 25 [.pure (.agg r.row), .pure (.int .i64 aO)] c H=some (.pure (.slice ((dn n nt np aO).map ak.row)),H):=by
 refine aN ?_;rw [show aI KC (aC KC) 25 [.pure (.agg r.row), .pure (.int .i64 aO)] c H=bM KC (aC KC) 25 [.pure (.agg r.row), .pure (.int .i64 aO)] c H from pk KC rfl rfl rfl]
 refine aJ KC au Tryz.func25 rfl rfl Vg (by simp) hH ?_;rw [cQ];simp;have L:=fun Q h=>OU (H:=H) r aO n hn hb Q n 0 [] (by omega) (by simp;omega) h;simp [dZ,gW,aA]at L;refine L _ ?_;have hne:jb aO n 0≠[]:=by
  obtain⟨m,rfl⟩: ∃m,n=m+1:=⟨n-1,by omega⟩;rw [xb];simp
 have hlen:(jb aO n 0).length=n:=(by simp [jb]);have L2:=fun Q h=>OT (H:=H) r aO nt np hnt hnp hb1 hb2 Q 7 2 (jb aO n 0) rfl (by omega) (by omega) hne h;simp [re,rf,aA]at L2;simp [cv,dS,hne,Fr.ins];refine L2 _ ?_;have e:dn n nt np aO=jb aO n 0++ja nt np aO 7 2:=rfl;have hnl: ¬H.length≤H.length-1:=(by omega);have t1:List.take ((jb aO n 0).length+(ja nt np aO 7 2).length) (List.map ak.row (jb aO n 0)++List.map ak.row (ja nt np aO 7 2))=List.map ak.row (jb aO n 0)++List.map ak.row (ja nt np aO 7 2):=List.take_of_length_le (by simp);simp [aa,e,hne,hnl,t1]
end
section
variable {c:Nat} {H:aj}
structure FF (r:aH)(s:ay):Prop where
 pl:s.ah.length=r.ah.length
 hl:s.ao.length=r.ah.length
 tl:s.ae.length=r.ae.length
 hr: ∀i (h:i<s.ao.length),s.ao[i].l<s.ae.length∧s.ao[i].r<s.ae.length∧ -1≤s.ao[i].l∧ -1≤s.ao[i].r
structure ZF (np nt w:Nat)(a:ak):Prop where
 aO:a.aO=w
 hand:a.hand=0∨a.hand=1
 a9:a.kind=2→ ∃t:Nat,a.a9=t∧t<nt
 other:a.kind=4→ ∃o:Nat,a.other=o∧o<np
theorem Hs {n nt np w:Nat}{a:ak}(h:a∈dn n nt np w):ZF np nt w a:=by
 have one: ∀hand kind:Nat,(hand=0∨hand=1)→a∈kA nt np w kind hand→ZF np nt w a:=fun hand kind hh ha=>by
  have hh':(hand:Int)=0∨(hand:Int)=1:=(by omega);unfold kA at ha;split at ha
  ·simp only [kr,List.mem_map,List.mem_range']at ha;obtain⟨x,⟨i,hi,rfl⟩,rfl⟩:=ha;exact⟨rfl,hh',fun _=>⟨_,rfl,by omega⟩,fun h=>by simp [dL]at h⟩
  ·split at ha
   ·simp only [jD,List.mem_map,List.mem_filter,List.mem_range']at ha;obtain⟨x,⟨⟨i,hi,rfl⟩,_⟩,rfl⟩:=ha;exact⟨rfl,hh',fun h=>by simp [dL]at h,fun _=>⟨_,rfl,by omega⟩⟩
   ·rename_i k2 k4;simp only [List.mem_singleton]at ha;subst ha;exact⟨rfl,hh',fun h=>by simp [dL]at h;omega,fun h=>by simp [dL]at h;omega⟩
 simp only [dn,List.mem_append]at h;rcases h with h|h
 ·simp only [jb,List.mem_map,List.mem_range']at h;obtain⟨x,⟨i,hi,rfl⟩,rfl⟩:=h;exact⟨rfl, .inl rfl,fun h=>by simp [dL]at h,fun h=>by simp [dL]at h⟩
 ·simp only [ja,List.mem_flatMap,qi,List.mem_append]at h;obtain⟨k,_,h|h⟩:=h
  ·exact one 0 k (.inl rfl) h
  ·exact one 1 k (.inr rfl) h
theorem qn (n nt np:Nat)(aO:Int):(dn n nt np aO).length≤n+14*(nt+np+1):=by
 have h: ∀k i,(ja nt np aO k i).length≤k*(2*(nt+np+1)):=by
  intro k
  induction k with
  |zero=>intro i;simp [ja]
  |succ k ih=>
   intro i;rw [uF,List.length_append,Nat.add_mul];have:=yV nt np aO i;have:=ih (i+1);omega
 have:=h 7 2;simp only [dn,List.length_append,jb,List.length_map,List.length_range'];omega
theorem Cc {r:aH}{s:ay}{w:Nat}{a:ak}(hs:FF r s)(hw:w<r.ah.length)(hpl:r.ah.length≤1000000)(hwide:r.wide≠0)(ha:ZF r.ah.length r.ae.length w a)(hH:0<H.length):
  bM KC (aC KC) 84 [.pure (.agg r.row), .pure (.agg s.row), .pure (.agg a.row)] c H=some (.pure (.bool (dy r s w a)),H):=by
 obtain⟨q1,aO,kind,hand,a9,cell,other,q3,q4⟩:=a;obtain⟨h1,h2,h3,h4⟩:=ha;simp only at h1 h2 h3 h4;subst h1;have e1:=hs.pl;have e2:=hs.hl;have e3:=hs.tl;rcases h2 with rfl|rfl
 ·exact Am (by omega) (by omega) (by omega) (by omega) hwide (fun h=>hs.hr w h) e3 (fun h=>by obtain⟨t,a,b⟩:=h3 h;exact⟨t,a,by omega⟩) (fun h=>by obtain⟨t,a,b⟩:=h4 h;exact⟨t,a,by omega,by omega⟩) hH
 ·exact An (by omega) (by omega) (by omega) (by omega) hwide (fun h=>hs.hr w h) e3 (fun h=>by obtain⟨t,a,b⟩:=h3 h;exact⟨t,a,by omega⟩) (fun h=>by obtain⟨t,a,b⟩:=h4 h;exact⟨t,a,by omega,by omega⟩) hH
theorem kK {r:aH}{s:ay}{w:Nat}{a:ak}(hs:FF r s)(hw:w<r.ah.length)(hpl:r.ah.length≤1000000)(hwide:r.wide≠0)(ha:ZF r.ah.length r.ae.length w a)(hH:0<H.length):
  aI KC (aC KC) 84 [.pure (.agg r.row), .pure (.agg s.row), .pure (.agg a.row)] c H=some (.pure (.bool (dy r s w a)),H):=dq rfl rfl rfl rfl rfl hH fun H hH=>Cc hs hw hpl hwide ha hH
noncomputable def fq:aH→ay→Nat→List ak→List ak:=na fun r s w l=>l.flatMap fun a=>if dy r s w a=true then (if a.kind=1 then [a]else [a,a,a])else []
theorem ri (r:aH)(s:ay)(w:Nat)(l:List ak):fq r s w l=l.flatMap fun a=>if dy r s w a=true then (if a.kind=1 then [a]else [a,a,a])else []:=by rw [fq,cO]
theorem xc (r:aH)(s:ay)(w:Nat):fq r s w []=[]:=by rw [ri];rfl
theorem uG (r:aH)(s:ay)(w:Nat)(a:ak)(l:List ak):fq r s w (a::l)=(if dy r s w a=true then (if a.kind=1 then [a]else [a,a,a])else [])++fq r s w l:=by simp only [ri,List.flatMap_cons]
theorem D7 {r:aH}{s:ay}{w:Nat}{a:ak}{l:List ak}(h:a∈fq r s w l):a∈l∧dy r s w a=true:=by
 rw [ri,List.mem_flatMap]at h;obtain⟨x,hx,h⟩:=h;split at h
 ·rename_i hp;split at h
  ·simp at h;subst h;exact⟨hx,hp⟩
  ·simp at h;subst h;exact⟨hx,hp⟩
 ·simp at h
theorem rb (r:aH)(s:ay)(w:Nat): ∀l:List ak,(fq r s w l).length≤3*l.length
 | []=>by simp [xc]
 |a::l=>by
  have:=rb r s w l;rw [uG,List.length_append,List.length_cons];split
  ·split<;>simp<;>omega
  ·simp;omega
theorem Wb {key dw es:Nat}{rows:List (List PV)}{fr f0:Fr}{l bytes:Nat}{r r1 r2:List PV}(hl:H.length=l)(hf:fr.get key=none)(hb:(rows.length+1+2)*bytes≤1099511627776):
  vo l dw (cv (l,key) es (rows++[r])) es bytes [r1,r2] (f0::dS key es (rows++[r]) fr::H)=some (cv (l,key) es (rows++[r,r1,r2]),f0::dS key es (rows++[r,r1,r2]) fr::H):=by
 subst hl;simp [cv,dS,hb,Fr.bp,Fr.iB]
def nP (r:aH)(s:ay):Fr:=[(5,aA r),(6,pj s),(8,bR cn)]
theorem Eh (r:aH)(s:ay)(w:Nat)(hs:FF r s)(hw:w<r.ah.length)(hpl:r.ah.length≤1000000)(hwide:r.wide≠0)(all:List ak)(hall: ∀a∈all,ZF r.ah.length r.ae.length w a)(hal:all.length≤30000000)(nm:Nm)(hnm:nm.1<H.length)(Q:GX→bP→Prop):
  ∀(k i:Nat) (l:List ak),i+k=all.length→l.length≤3*i→
  Q (.exit 0) ⟨[(0, .aD nm 0),(8, .aD (H.length,8) 0),(10,cv (H.length,35) 9 ((l++fq r s w (all.drop i)).map ak.row))],dS 35 9 ((l++fq r s w (all.drop i)).map ak.row) (nP r s)::H,64⟩→
  fL KC au 49 (lp Tryz.f49 0) [0,5,6,8,10,11,12] [0,8,10] Q
   [(0, .aD nm 0),(5, .aD (H.length,5) 0),(6, .aD (H.length,6) 0),(8, .aD (H.length,8) 0),(10,cv (H.length,35) 9 (l.map ak.row)),(11, .pure (.slice (all.map ak.row))),(12, .pure (.int .i64 i))]
   (dS 35 9 (l.map ak.row) (nP r s)::H) 64:=by
 have hle:nm.1≤H.length:=(by omega);intro k
 induction k with
 |zero=>
  intro i l hi hl h1;have e1:all.drop i=[]:=List.drop_of_length_le (by omega);rw [e1,xc,List.append_nil]at h1;have: ¬i<all.length:=(by omega);apply aw;conv=>arg 4;whnf
  simp [this,hle];exact h1
 |succ k ih=>
  intro i l hi hl h1;have hia:i<all.length:=(by omega);have hw1:=cu (x:=(i:Int)+1) (by omega) (by omega);have hev:=hall all[i] (List.getElem_mem hia);have P:=fun(c:Nat) (H:aj) (hH:0<H.length)=>kK (c:=c) (H:=H) hs hw hpl hwide hev hH;simp only [cQ,ay.row,ak.row]at P;rw [List.drop_eq_getElem_cons hia,uG,←List.append_assoc]at h1;apply aw;conv=>arg 4;whnf
  cases hp:dy r s w all[i]with
  |false=>
   simp only [hp,Bool.false_eq_true,if_false,List.append_nil]at h1;have ih':=ih (i+1) l (by omega) (by omega) h1;simp [nP,aA,pj,bR,hia,ak.row,P,hp,hw1,hle,Fr.get];simpa [nP,aA,pj,bR,ak.row]using ih'
  |true=>
   have hb:(l.length+1)*72≤1099511627776:=(by omega);have hl4:l.length+3≤90000003:=(by omega);have hb2:(l.length+1+2)*72≤1099511627776:=Nat.le_trans (Nat.mul_le_mul_right 72 (show l.length+1+2≤90000003 from hl4)) (by decide)
   have hi1:(i+1)+k=all.length:=(by omega);have hl1:(l++[all[i]]).length≤3*(i+1):=(by simp;omega);have hl3:(l++[all[i],all[i],all[i]]).length≤3*(i+1):=(by simp;omega);by_cases hk:all[i].kind=1
   ·simp only [hp,hk,if_true]at h1;have ih':=ih (i+1) (l++[all[i]]) hi1 hl1 h1;have hk':(all[i].kind==1)=true:=(by simpa using hk);simp [nP,aA,pj,bR,hia,ak.row,P,hp,hw1,hle,hb,bne,hk',Fr.get];simpa [nP,aA,pj,bR,ak.row]using ih'
   ·have hk':(all[i].kind==1)=false:=(by simpa using hk);simp only [hp,hk,if_true,if_false]at h1;have ih':=ih (i+1) (l++[all[i],all[i],all[i]]) hi1 hl3 h1;simp [nP,aA,pj,bR,hia,ak.row,P,hp,hw1,hle,hb,bne,hk',Fr.get,Wb,hb2];simpa [nP,aA,pj,bR,ak.row]using ih'
noncomputable def gC:aH→ay→Nat→List ak→Int→(ak×Bool)×Int:=na fun r s w all wd=>
 if fq r s w all=[]then ((cn,false),wd)else (((fq r s w all).getD (kZ wd (fq r s w all).length).1.toNat cn,true),(kZ wd (fq r s w all).length).2)
theorem wX (r:aH)(s:ay)(w:Nat)(all:List ak)(wd:Int):gC r s w all wd=
 if fq r s w all=[]then ((cn,false),wd)else (((fq r s w all).getD (kZ wd (fq r s w all).length).1.toNat cn,true),(kZ wd (fq r s w all).length).2):=by rw [gC,cO]
theorem Ig (r:aH)(s:ay)(w n:Nat)(hs:FF r s)(hw:w<r.ah.length)(hpl:r.ah.length≤1000000)(htl:r.ae.length≤1000000)(hwide:r.wide≠0)(hn:IntKind.i64.wrap (r.wide*r.deep)=n)(hn0:0<n)(hnb:n≤1000000){nm:Nm}(hB:fW H nm):
  bM KC (aC KC) 49 [.aD nm 0, .pure (.agg r.row), .pure (.agg s.row), .pure (.int .i64 w)] c H=
   some (.pure (.tuple [.agg (gC r s w (dn n r.ae.length r.ah.length w) (bK H nm)).1.1.row, .bool (gC r s w (dn n r.ae.length r.ah.length w) (bK H nm)).1.2]),H.set nm (bL (gC r s w (dn n r.ae.length r.ah.length w) (bK H nm)).2)):=by
 have hlt:=ib hB;have hset:=kO hB;have hne: ¬nm.1=H.length:=(by omega);have hle:nm.1≤H.length:=(by omega);refine aN (aJ KC au Tryz.func49 rfl rfl Vm (by simp) (by omega) ?_);have E:=fun c (H:aj) (hH:0<H.length)=>Ax (c:=c) (H:=H) r w n r.ae.length r.ah.length hn hn0 hnb rfl rfl htl hpl hH;have el:=qn n r.ae.length r.ah.length (w:Int);have L:=fun Q h=>Eh (H:=H) r s w hs hw hpl hwide (dn n r.ae.length r.ah.length w) (fun a ha=>Hs ha) (by omega) nm hlt Q _ 0 [] (Nat.zero_add _) (by simp) h;have hd:=wX r s w (dn n r.ae.length r.ah.length w) (bK H nm);have ml:=rb r s w (dn n r.ae.length r.ah.length w);rw [cQ]at E⊢;simp only [ay.row];simp [dZ,gW,nP,aA,pj,bR,cn]at L;simp [E];refine L _ ?_;generalize fq r s w (dn n r.ae.length r.ah.length w)=l at*;generalize gC r s w (dn n r.ae.length r.ah.length w) (bK H nm)=res at*;by_cases hl:l=[]
 ·subst hl;simp at hd;subst hd;simp [dZ,gW,aa,ak.row,cn,hset]
 ·rw [if_neg hl]at hd;have hl0:0<l.length:=List.length_pos_iff.2 hl;have hll:(l.length:Int)≤9223372036854775807:=(by omega);have hr:=jT (bK H nm) l.length hll;have h3: ¬(kZ (bK H nm) l.length).1<0:=(by omega);have h4:(kZ (bK H nm) l.length).1.toNat<l.length:=(by have:=hr;omega);have h5:(kZ (bK H nm) l.length).1<(l.length:Int):=(by have:=hr;omega);have hl2:((l.length:Int)==0)=false:=beq_eq_false_iff_ne.2 (by omega);have hgd:l.getD (kZ (bK H nm) l.length).1.toNat cn=l[(kZ (bK H nm) l.length).1.toNat]:=(by simp [List.getD_eq_getElem?_getD,h4]);rw [hgd]at hd;subst hd;have hB': ∀fr,fW (fr::H) nm:=fun fr=>eC hB;simp [cv,dS,hl,hl2,j3,hB',hll,dK,hlt,hne,aj.eH,h3,h4,h5,aa,ak.row,Fr.ins]
end
section
variable {c:Nat} {H:aj}
def empty:aF:=⟨-1,-1⟩
def gv (t:aV):br:=⟨t.cell,t.state⟩
def az (r:aH):ay:=⟨r.ah.map (·.cell),r.ah.map fun _=>empty,r.ae.map gv⟩
def OH (r:aH)(L:Nat)(p:List Int)(h:List aF):Fr:=
 [(1,aA r),(2, .box [.aS, .aS, .aS]),(3, .box [.aW (L,22) 1 p.length 0 p.length, .aW (L,27) 2 h.length 0 h.length, .aS]),(22, .arr 1 (p.map aG) 0 false),(27, .arr 2 (h.map aF.row) 0 false)]
def Wc (r:aH)(L:Nat)(p:List Int)(h:List aF)(t:List br):Fr:=
 [(1,aA r),(2, .box [.aS, .aS, .aS]),(3, .box [.aW (L,22) 1 p.length 0 p.length, .aW (L,27) 2 h.length 0 h.length, .aW (L,53) 2 t.length 0 t.length]),(22, .arr 1 (p.map aG) 0 false),(27, .arr 2 (h.map aF.row) 0 false),(53, .arr 2 (t.map br.row) 0 false)]
theorem uA (r:aH)(hpl:r.ah.length≤1000000)(Q:GX→bP→Prop): ∀(k i:Nat) (p:List Int) (h:List aF),i+k=r.ah.length→p.length=i→h.length=i→0<i→
  Q (.exit 0) ⟨[(1, .aD (H.length,1) 0),(2, .aD (H.length,2) 0),(3, .aD (H.length,3) 0)],OH r H.length (p++(r.ah.drop i).map (·.cell)) (h++(r.ah.drop i).map fun _=>empty)::H,56⟩→
  fL KC au 48 (lp Tryz.f48 0) [1,2,3,4] [1,2,3] Q
   [(1, .aD (H.length,1) 0),(2, .aD (H.length,2) 0),(3, .aD (H.length,3) 0),(4, .pure (.int .i64 i))] (OH r H.length p h::H) 56:=by
 intro k
 induction k with
 |zero=>
  intro i p h hi h1 h2 h3 hq;have e1:r.ah.drop i=[]:=List.drop_of_length_le (by omega);rw [e1]at hq;have: ¬i<r.ah.length:=(by omega);apply aw;conv=>arg 4;whnf
  simp [OH,aA,this];simpa [OH,aA]using hq
 |succ k ih=>
  intro i p h hi h1 h2 h3 hq;have hia:i<r.ah.length:=(by omega);have hw:=cu (x:=(i:Int)+1) (by omega) (by omega);rw [List.drop_eq_getElem_cons hia]at hq;have hb1:(i+1)*8≤1099511627776:=(by omega);have hb2:(i+1)*16≤1099511627776:=(by omega);have ih':=ih (i+1) (p++[r.ah[i].cell]) (h++[empty]) (by omega) (by simp [h1]) (by simp [h2]) (by omega);simp only [List.append_assoc,List.singleton_append,List.map_cons]at ih' hq;apply aw;conv=>arg 4;whnf
  simp [OH,aA,hia,hw,aQ.row,h1,h2,hb1,hb2];have:=ih' hq;simpa [OH,aA,aG,aF.row,empty,h1,h2,aQ.row]using this
theorem Cd (r:aH)(htl:r.ae.length≤1000000)(p:List Int)(h:List aF)(Q:GX→bP→Prop): ∀(k i:Nat) (t:List br),i+k=r.ae.length→t.length=i→0<i→
  Q (.exit 2) ⟨[(2, .aD (H.length,2) 0),(3, .aD (H.length,3) 0)],Wc r H.length p h (t++(r.ae.drop i).map gv)::H,56⟩→
  fL KC au 48 (lp Tryz.f48 1) [1,2,3,5] [2,3] Q
   [(1, .aD (H.length,1) 0),(2, .aD (H.length,2) 0),(3, .aD (H.length,3) 0),(5, .pure (.int .i64 i))] (Wc r H.length p h t::H) 56:=by
 intro k
 induction k with
 |zero=>
  intro i t hi h1 h3 hq;have e1:r.ae.drop i=[]:=List.drop_of_length_le (by omega);rw [e1]at hq;have: ¬i<r.ae.length:=(by omega);apply aw;conv=>arg 4;whnf
  simp [Wc,aA,this];simpa [Wc,aA]using hq
 |succ k ih=>
  intro i t hi h1 h3 hq;have hia:i<r.ae.length:=(by omega);have hw:=cu (x:=(i:Int)+1) (by omega) (by omega);rw [List.drop_eq_getElem_cons hia]at hq;have hb2:(i+1)*16≤1099511627776:=(by omega);have ih':=ih (i+1) (t++[gv r.ae[i]]) (by omega) (by simp [h1]) (by omega);simp only [List.append_assoc,List.singleton_append,List.map_cons]at ih' hq;apply aw;conv=>arg 4;whnf
  simp [Wc,aA,hia,hw,aV.row,h1,hb2];have:=ih' hq;simpa [Wc,aA,aG,br.row,gv,h1,aV.row]using this
def Ti (L k1 k2 k3:Nat)(s:ay):GV:= .agg [.aW (L,k1) 1 s.ah.length 0 s.ah.length, .aW (L,k2) 2 s.ao.length 0 s.ao.length, .aW (L,k3) 2 s.ae.length 0 s.ae.length]
theorem pf {α β:Type}(f:α→β)(l:List α)(h:0<l.length):f l[0]::(l.drop 1).map f=l.map f:=by
 cases l with
 |nil=>simp at h
 |cons a t=>rfl
theorem FG (r:aH) (hp0:r.ah≠[]) (ht0:r.ae≠[]) (hpl:r.ah.length≤1000000) (htl:r.ae.length≤1000000) (hH:0<H.length)
  (hf1:H.get (H.length-1,aq c 22)=none) (hf2:H.get (H.length-1,aq c 27)=none) (hf3:H.get (H.length-1,aq c 53)=none):
  bM KC (aC KC) 48 [.pure (.agg r.row)] c H=some (Ti (H.length-1) (aq c 22) (aq c 27) (aq c 53) (az r),
   ((H.set (H.length-1,aq c 22) (.arr 1 ((az r).ah.map aG) 0 false)).set (H.length-1,aq c 27) (.arr 2 ((az r).ao.map aF.row) 0 false)).set (H.length-1,aq c 53) (.arr 2 ((az r).ae.map br.row) 0 false)):=by
 refine aN (aJ KC au Tryz.func48 rfl rfl I7 (by simp) hH ?_);rw [cQ];have lp0:0<r.ah.length:=List.length_pos_iff.2 hp0;have lt0:0<r.ae.length:=List.length_pos_iff.2 ht0;have kx:aq c 22≠aq c 27:=(by unfold aq;omega);have lR:aq c 22≠aq c 53:=(by unfold aq;omega);have kD:aq c 27≠aq c 53:=(by unfold aq;omega);have L1:=fun Q=>uA (H:=H) r hpl Q (r.ah.length-1) 1 [r.ah[0].cell] [empty] (by omega) rfl rfl (by omega);have L2:=fun p h Q=>Cd (H:=H) r htl p h Q (r.ae.length-1) 1 [gv r.ae[0]] (by omega) rfl (by omega);have ep:r.ah[0].cell::(r.ah.drop 1).map (fun p=>p.cell)=r.ah.map (fun p=>p.cell):=pf (fun p:aQ=>p.cell) r.ah lp0;have eh:empty::((r.ah.drop 1).map fun _=>empty)=r.ah.map fun _=>empty:=pf (fun _:aQ=>empty) r.ah lp0;have et:gv r.ae[0]::(r.ae.drop 1).map gv=r.ae.map gv:=pf gv r.ae lt0;simp only [List.singleton_append,ep,eh,et]at L1 L2;simp [OH,aA,aG,aF.row,empty]at L1;simp;apply aw;conv=>arg 4;whnf
 simp [lp0,aQ.row];refine L1 _ ?_;clear L1;have L3:=L2 (r.ah.map (·.cell)) (r.ah.map fun _=>empty);simp [Wc,aA,aG,aF.row,empty,br.row,gv]at L3;simp;apply aw;conv=>arg 4;whnf
 simp [lt0,aV.row];refine L3 _ ?_;have k1:(H.length-1,aq c 27)≠((H.length-1,aq c 22):Nm):=fun e=>kx (Prod.mk.inj e).2.symm;have k2:(H.length-1,aq c 53)≠((H.length-1,aq c 22):Nm):=fun e=>lR (Prod.mk.inj e).2.symm;have k3:(H.length-1,aq c 53)≠((H.length-1,aq c 27):Nm):=fun e=>kD (Prod.mk.inj e).2.symm;have g2: ∀b,(H.set (H.length-1,aq c 22) b).get (H.length-1,aq c 27)=none:=fun b=>(aj.aL b k1).trans hf2;have g3: ∀b b',((H.set (H.length-1,aq c 22) b).set (H.length-1,aq c 27) b').get (H.length-1,aq c 53)=none:=fun b b'=>(aj.aL b' k3).trans ((aj.aL b k2).trans hf3);simp [bO,refs,dE,cV,b8,dc,df,dedup,cA,bV,ry,hf1,g2,g3,sK,jj,gJ,Ti,az,dm,bG,aG,aF.row,empty,br.row,gv]
end
section
variable {c:Nat} {H:aj}
structure mD (H:aj)(n1 n2 n3:Nm)(v1 v2 v3:Nat)(s:ay):Prop where
 kx:n1≠n2
 lR:n1≠n3
 kD:n2≠n3
 g1:H.get n1=some (.arr 1 (s.ah.map aG) v1 false)
 g2:H.get n2=some (.arr 2 (s.ao.map aF.row) v2 false)
 g3:H.get n3=some (.arr 2 (s.ae.map br.row) v3 false)
 e1:v1≤s.ah.length
 e2:v2≤s.ao.length
 e3:v3≤s.ae.length
def kv (n1 n2 n3:Nm)(s:ay):GV:= .agg [.aW n1 1 s.ah.length 0 s.ah.length, .aW n2 2 s.ao.length 0 s.ao.length, .aW n3 2 s.ae.length 0 s.ae.length]
theorem Wd {nm:Nm}{es v n:Nat}{rows:List (List PV)}{ro:Bool}(h:H.get nm=some (.arr es rows v ro))(hn:rows.length=n)(hv:v≤n):
  dI H (.aW nm es n 0 n)=(.slice rows,H.set nm (.arr es rows v true)):=by
 subst hn;simp [h,hv]
theorem Ei {n1 n2 n3:Nm}{v1 v2 v3:Nat}{s:ay}(h:mD H n1 n2 n3 v1 v2 v3 s):(dt H (kv n1 n2 n3 s)).1= .pure (.agg s.row):=by
 have a1:(H.set n1 (.arr 1 (s.ah.map aG) v1 true)).get n2=some (.arr 2 (s.ao.map aF.row) v2 false):=(by rw [aj.aL _ h.kx.symm];exact h.g2);have a2:((H.set n1 (.arr 1 (s.ah.map aG) v1 true)).set n2 (.arr 2 (s.ao.map aF.row) v2 true)).get n3=some (.arr 2 (s.ae.map br.row) v3 false):=by
  rw [aj.aL _ h.kD.symm,aj.aL _ h.lR.symm];exact h.g3
 simp only [kv,dt,fF,dH,Wd h.g1 (by simp) h.e1,Wd a1 (by simp) h.e2,Wd a2 (by simp) h.e3,ay.row];simp
theorem OV {n1 n2 n3:Nm}{v1 v2 v3:Nat}{s:ay}(h:mD H n1 n2 n3 v1 v2 v3 s){t st:Int}(ht:t<s.ae.length)(hst:st≠0)(hH:0<H.length):
  aI KC (aC KC) 121 [kv n1 n2 n3 s, .pure (.int .i64 t), .pure (.int .i64 st)] c H=some (.pure (.bool (fg s.ae t st)),H):=by
 refine gL KC rfl rfl (args':=[.pure (.agg s.row), .pure (.int .i64 t), .pure (.int .i64 st)]) ?_ rfl hH (fun H hH=>Ff (c:=c) ht hst hH) rfl;simp only [bm,Ei h,po];rfl
noncomputable def dJ:List br→Nat→Int→Bool→List br:=na fun ts t bit on=>
 if fg ts t bit=on then ts else ts.set t ⟨(ts.getD t aU).cell,if on then IntKind.i64.wrap ((ts.getD t aU).state+bit)else IntKind.i64.wrap ((ts.getD t aU).state-bit)⟩
theorem jk (ts:List br)(t:Nat)(bit:Int)(on:Bool):dJ ts t bit on=if fg ts t bit=on then ts else ts.set t ⟨(ts.getD t aU).cell,if on then IntKind.i64.wrap ((ts.getD t aU).state+bit)else IntKind.i64.wrap ((ts.getD t aU).state-bit)⟩:=by rw [dJ,cO]
theorem dU (ts:List br)(t:Nat)(bit:Int)(on:Bool):(dJ ts t bit on).length=ts.length:=by
 rw [jk];split<;>simp
theorem We {n1 n2 n3:Nm}{v1 v2 v3:Nat}{s:ay}(h:mD H n1 n2 n3 v1 v2 v3 s){t:Nat}{bit:Int}{on:Bool}(ht:t<s.ae.length)(hst:bit≠0)(hH:0<H.length):
  aI KC (aC KC) 86 [kv n1 n2 n3 s, .pure (.int .i64 t), .pure (.int .i64 bit), .pure (.bool on)] c H=
   some (.pure (.tuple []),if fg s.ae t bit=on then H else H.set n3 (.arr 2 ((dJ s.ae t bit on).map br.row) s.ae.length false)):=by
 refine aN (a8 KC au Tryz.func86 rfl rfl VL rfl rfl rfl (by simp) hH ?_);have l1:=aj.bS h.g1;have l2:=aj.bS h.g2;have l3:=aj.bS h.g3;have d1: ¬n1.1=H.length:=(by omega);have d2: ¬n2.1=H.length:=(by omega);have d3: ¬n3.1=H.length:=(by omega);have hg:s.ae.getD t aU=s.ae[t]:=(by simp [List.getD_eq_getElem?_getD,ht]);have hd:=jk s.ae t bit on;rw [hg]at hd
 have P:=fun(c:Nat)=>OV (c:=c) (H:=[(4, .box [.aW n1 1 s.ah.length 0 s.ah.length, .aW n2 2 s.ao.length 0 s.ao.length, .aW n3 2 s.ae.length 0 s.ae.length])]::H) (n1:=n1) (n2:=n2) (n3:=n3) (v1:=v1) (v2:=v2) (v3:=v3) (s:=s)
  ⟨h.kx,h.lR,h.kD,by simp [d1,h.g1],by simp [d2,h.g2],by simp [d3,h.g3],h.e1,h.e2,h.e3⟩ (t:=t) (st:=bit) (by omega) hst (by simp)
 simp only [kv]at P⊢
 cases on with
 |true=>
  cases hv:fg s.ae t bit with
  |true=>simp [P,hv,aa]
  |false=>
   simp [hv]at hd;simp [P,hv,d3,h.g3,h.e3,ht,br.row,aa,hd,aE]
 |false=>
  cases hv:fg s.ae t bit with
  |false=>simp [P,hv,aa]
  |true=>
   simp [hv]at hd;simp [P,hv,d3,h.g3,h.e3,ht,br.row,aa,hd,aE]
end
section
variable {c:Nat} {H:aj}
def bB (hs:List aF)(w:Nat)(hand:Int)(v:Int):List aF:=hs.set w (if hand=0 then ⟨v,(hs.getD w bH).r⟩else ⟨(hs.getD w bH).l,v⟩)
noncomputable def gM:ay→Nat→ak→ay:=na fun s w a=>
 if a.kind=1 then {s with ah:=s.ah.set w a.cell}
 else if a.kind=2 then {s with ao:=bB s.ao w a.hand a.a9,ae:=s.ae.set a.a9.toNat ⟨-1,(s.ae.getD a.a9.toNat aU).state⟩}
 else if a.kind=3 then {s with ao:=bB s.ao w a.hand (-1),ae:=s.ae.set (bN s w a.hand).toNat ⟨s.ah.getD w 0,(s.ae.getD (bN s w a.hand).toNat aU).state⟩}
 else if a.kind=4 then {s with ao:=bB (bB s.ao a.other.toNat (eA s.ao a.other.toNat) (bN s w a.hand)) w a.hand (-1)}
 else if a.kind=5 then {s with ae:=dJ s.ae (bN s w (1-a.hand)).toNat 1 true}
 else if a.kind=6 then {s with ae:=dJ (dJ (dJ s.ae (bN s w a.hand).toNat 2 false) (bN s w a.hand).toNat 1 false) (bN s w (1-a.hand)).toNat 2 true}
 else if a.kind=7 then {s with ae:=dJ s.ae (bN s w a.hand).toNat 4 true}
 else {s with ae:=dJ s.ae (bN s w a.hand).toNat 4 false}
theorem jW (s:ay)(w:Nat)(a:ak):gM s w a=
 if a.kind=1 then {s with ah:=s.ah.set w a.cell}
 else if a.kind=2 then {s with ao:=bB s.ao w a.hand a.a9,ae:=s.ae.set a.a9.toNat ⟨-1,(s.ae.getD a.a9.toNat aU).state⟩}
 else if a.kind=3 then {s with ao:=bB s.ao w a.hand (-1),ae:=s.ae.set (bN s w a.hand).toNat ⟨s.ah.getD w 0,(s.ae.getD (bN s w a.hand).toNat aU).state⟩}
 else if a.kind=4 then {s with ao:=bB (bB s.ao a.other.toNat (eA s.ao a.other.toNat) (bN s w a.hand)) w a.hand (-1)}
 else if a.kind=5 then {s with ae:=dJ s.ae (bN s w (1-a.hand)).toNat 1 true}
 else if a.kind=6 then {s with ae:=dJ (dJ (dJ s.ae (bN s w a.hand).toNat 2 false) (bN s w a.hand).toNat 1 false) (bN s w (1-a.hand)).toNat 2 true}
 else if a.kind=7 then {s with ae:=dJ s.ae (bN s w a.hand).toNat 4 true}
 else {s with ae:=dJ s.ae (bN s w a.hand).toNat 4 false}:=by rw [gM,cO]
structure Ex (s:ay)(w:Nat)(a:ak):Prop where
 hp:w<s.ah.length
 hh:w<s.ao.length
 aO:a.aO=w
 hand:a.hand=0∨a.hand=1
 kind:1≤a.kind∧a.kind≤8
 take:a.kind=2→ ∃t:Nat,a.a9=t∧t<s.ae.length
 held:3≤a.kind→ ∃t:Nat,bN s w a.hand=t∧t<s.ae.length
 sM:a.kind=4→ ∃o:Nat,a.other=o∧o<s.ao.length∧o≠w∧(eA s.ao o=0∨eA s.ao o=1)
 xY:a.kind=5∨a.kind=6→ ∃t:Nat,bN s w (1-a.hand)=t∧t<s.ae.length
theorem aj.set_comm {n m:Nm}{x y:dM}(h:n≠m): ∀{H:aj},(H.set n x).set m y=(H.set m y).set n x
 | []=>rfl
 |fr::H=>by
  by_cases e1:n.1=H.length
  ·by_cases e2:m.1=H.length
   ·have:n.2≠m.2:=fun e=>h (Prod.ext (e1.trans e2.symm) e);simp [e1,e2,Fr.wK _ _ this.symm]
   ·simp [e1,e2]
  ·by_cases e2:m.1=H.length
   ·simp [e1,e2]
   ·simp [e1,e2,aj.length_set,aj.set_comm h (H:=H)]
structure me (H:aj)(n1 n2 n3:Nm)(v1 v2 v3:Nat)(s:ay):Prop extends mD H n1 n2 n3 v1 v2 v3 s where
 s1:H.set n1 (.arr 1 (s.ah.map aG) v1 false)=H
 s2:H.set n2 (.arr 2 (s.ao.map aF.row) v2 false)=H
 s3:H.set n3 (.arr 2 (s.ae.map br.row) v3 false)=H
def cr (H:aj)(n1 n2 n3:Nm)(v1 v2 v3:Nat)(s:ay):aj:=((H.set n1 (.arr 1 (s.ah.map aG) v1 false)).set n2 (.arr 2 (s.ao.map aF.row) v2 false)).set n3 (.arr 2 (s.ae.map br.row) v3 false)
theorem iU {fr : Fr} {n1 n2 n3 : Nm} {v1 v2 v3 : Nat} {s : ay} (h : me H n1 n2 n3 v1 v2 v3 s) {t : Nat} {bit : Int} {on : Bool} (ht : t < s.ae.length) (hst : bit ≠ 0) (c : Nat) :
    ∃ v, v ≤ s.ae.length ∧ aI KC (aC KC) 86 [kv n1 n2 n3 s, .pure (.int .i64 t), .pure (.int .i64 bit), .pure (.bool on)] c (fr :: H) =
      some (.pure (.tuple []), fr :: H.set n3 (.arr 2 ((dJ s.ae t bit on).map br.row) v false)) ∧
      me (H.set n3 (.arr 2 ((dJ s.ae t bit on).map br.row) v false)) n1 n2 n3 v1 v2 v { s with ae := dJ s.ae t bit on } := by
  have l1 := aj.bS h.g1
  have l2 := aj.bS h.g2
  have l3 := aj.bS h.g3
  have d1 : ¬ n1.1 = H.length := by omega
  have d2 : ¬ n2.1 = H.length := by omega
  have d3 : ¬ n3.1 = H.length := by omega
  have hS : mD (fr :: H) n1 n2 n3 v1 v2 v3 s := ⟨h.kx, h.lR, h.kD, by simp [d1, h.g1], by simp [d2, h.g2], by simp [d3, h.g3], h.e1, h.e2, h.e3⟩
  have C := We (c := c) hS (t := t) (bit := bit) (on := on) ht hst (by simp)
  have fin : ∀ v, v ≤ s.ae.length → me (H.set n3 (.arr 2 ((dJ s.ae t bit on).map br.row) v false)) n1 n2 n3 v1 v2 v { s with ae := dJ s.ae t bit on } := fun v hv =>
    { kx := h.kx, lR := h.lR, kD := h.kD, g1 := by rw [aj.aL _ h.lR]; exact h.g1, g2 := by rw [aj.aL _ h.kD]; exact h.g2, g3 := aj.fZ l3,
      e1 := h.e1, e2 := h.e2, e3 := by simpa [dU] using hv, s1 := by rw [aj.set_comm h.lR.symm, h.s1], s2 := by rw [aj.set_comm h.kD.symm, h.s2], s3 := aj.set_set }
  by_cases hv : fg s.ae t bit = on
  · have e : dJ s.ae t bit on = s.ae := by rw [jk, if_pos hv]
    rw [if_pos hv] at C
    refine ⟨v3, h.e3, ?_, fin v3 h.e3⟩
    rw [C, e, h.s3]
  · rw [if_neg hv] at C
    refine ⟨s.ae.length, Nat.le_refl _, ?_, fin _ (Nat.le_refl _)⟩
    rw [C, aj.eH l3]
theorem mD.up {fr:Fr}{n1 n2 n3:Nm}{v1 v2 v3:Nat}{s:ay}(h:mD H n1 n2 n3 v1 v2 v3 s):mD (fr::H) n1 n2 n3 v1 v2 v3 s:=by
 have l1:=aj.bS h.g1;have l2:=aj.bS h.g2;have l3:=aj.bS h.g3;have d1: ¬n1.1=H.length:=(by omega);have d2: ¬n2.1=H.length:=(by omega);have d3: ¬n3.1=H.length:=(by omega);exact⟨h.kx,h.lR,h.kD,by simp [d1,h.g1],by simp [d2,h.g2],by simp [d3,h.g3],h.e1,h.e2,h.e3⟩
theorem Wf {n1 n2 n3:Nm}{v1 v2 v3:Nat}{s:ay}(h:me H n1 n2 n3 v1 v2 v3 s){w:Nat}{q1 kind a9 cell other q3 q4:Int}(hb:Ex s w ⟨q1,w,kind,0,a9,cell,other,q3,q4⟩)(hhl:s.ao.length≤1000000)(hH:0<H.length):
  ∃v1' v2' v3',v1'≤s.ah.length∧v2'≤s.ao.length∧v3'≤s.ae.length∧
   aI KC (aC KC) 51 [kv n1 n2 n3 s, .pure (.agg [.int .i64 q1, .int .i64 w, .int .i64 kind, .int .i64 0, .int .i64 a9, .int .i64 cell, .int .i64 other, .int .i64 q3, .int .i64 q4])] c H=
    some (.pure (.tuple []),cr H n1 n2 n3 v1' v2' v3' (gM s w ⟨q1,w,kind,0,a9,cell,other,q3,q4⟩)):=by
 have l1:=aj.bS h.g1;have l2:=aj.bS h.g2;have l3:=aj.bS h.g3;have d1: ¬n1.1=H.length:=(by omega);have d2: ¬n2.1=H.length:=(by omega);have d3: ¬n3.1=H.length:=(by omega);have hp:=hb.hp;have hh:=hb.hh;have hg:s.ao.getD w bH=s.ao[w]:=(by simp [List.getD_eq_getElem?_getD,hh]);have hgp:s.ah.getD w 0=s.ah[w]:=(by simp [List.getD_eq_getElem?_getD,hp]);have eh:bN s w 0=s.ao[w].l:=(by unfold bN;rw [hg];simp);have eo:bN s w (1-0)=s.ao[w].r:=(by unfold bN;rw [hg];simp);have wr:IntKind.i64.wrap (1-0)=1:=rfl;have hk:=hb.kind;have hd:=jW s w ⟨q1,w,kind,0,a9,cell,other,q3,q4⟩;have hheld:=hb.held;have hoth:=hb.xY;have htake:=hb.take;have hgive:=hb.sM;have G23: ∀b,(H.set n2 b).get n3=H.get n3:=fun b=>aj.aL b h.kD.symm;have S2: ∀x,(H.set n1 x).set n2 (.arr 2 (s.ao.map aF.row) v2 false)=H.set n1 x:=fun x=>(by rw [aj.set_comm h.kx,h.s2]);have S3: ∀x,(H.set n1 x).set n3 (.arr 2 (s.ae.map br.row) v3 false)=H.set n1 x:=fun x=>(by rw [aj.set_comm h.lR,h.s3]);have S4: ∀x,(H.set n2 x).set n3 (.arr 2 (s.ae.map br.row) v3 false)=H.set n2 x:=fun x=>(by rw [aj.set_comm h.kD,h.s3]);have s1:=h.s1;have s2:=h.s2;have s3:=h.s3;have G22: ∀b,(H.set n2 b).get n2=some b:=fun b=>aj.fZ l2;simp only [eh,eo,hgp,bB,hg]at hd hk hheld hoth htake hgive;simp only [kv];by_cases k1:kind=1
 ·subst k1;simp at hd;refine⟨s.ah.length,v2,v3,Nat.le_refl _,h.e2,h.e3,aN (a8 KC au Tryz.func51 rfl rfl gH rfl rfl rfl (by simp) hH ?_)⟩;simp [d1,d2,d3,h.g1,h.g2,h.g3,h.e1,h.e2,h.e3,hp,hh,aG,aF.row,wr,aE,aa,hd,cr,S2,S3]
 by_cases k2:kind=2
 ·subst k2;obtain⟨t,rfl,ht⟩:=htake rfl;have hgt:s.ae[t]?.getD aU=s.ae[t]:=(by simp [ht]);simp [hgt]at hd;refine⟨v1,s.ao.length,s.ae.length,h.e1,Nat.le_refl _,Nat.le_refl _,aN (a8 KC au Tryz.func51 rfl rfl gH rfl rfl rfl (by simp) hH ?_)⟩;simp [d1,d2,d3,h.g1,h.g2,h.g3,h.e1,h.e2,h.e3,hp,hh,ht,aF.row,br.row,wr,aE,aa,hd,cr,G23,s1]
 have hk3:3≤kind:=(by omega);obtain⟨t,et,ht⟩:=hheld hk3;simp only [et]at hd hgive;have hgt:s.ae[t]?.getD aU=s.ae[t]:=(by simp [ht]);by_cases k3:kind=3
 ·subst k3;simp [hgt]at hd;refine⟨v1,s.ao.length,s.ae.length,h.e1,Nat.le_refl _,Nat.le_refl _,aN (a8 KC au Tryz.func51 rfl rfl gH rfl rfl rfl (by simp) hH ?_)⟩;simp [d1,d2,d3,h.g1,h.g2,h.g3,h.e1,h.e2,h.e3,hp,hh,ht,et,aG,aF.row,br.row,wr,aE,aa,hd,cr,G23,s1]
 by_cases k4:kind=4
 ·subst k4;obtain⟨o,rfl,ho,how,htk⟩:=hgive rfl;have hgo:s.ao[o]?.getD bH=s.ao[o]:=(by simp [ho]);have hsw: ∀x,(s.ao.set o x)[w]?.getD bH=s.ao[w]:=fun x=>(by rw [List.getElem?_set_ne how];simp [hh]);simp [hgo,hsw]at hd;have R:(bm ([(2, .box [.aW n1 1 s.ah.length 0 s.ah.length, .aW n2 2 s.ao.length 0 s.ao.length, .aW n3 2 s.ae.length 0 s.ae.length]),(3,bR ⟨q1,w,4,0,a9,cell,o,q3,q4⟩)]::H) [kv n1 n2 n3 s, .pure (.int .i64 o)]).1.map canon=[.pure (.agg s.row), .pure (.int .i64 o)]:=by
   simp only [bm,Ei (mD.up h.tomD),po];rfl
  have T:=fun(c:Nat)=>gL KC (f:=85) (c:=c) rfl rfl R rfl (by simp) (fun H hH=>tx (c:=c) ho hhl hH) rfl;simp only [kv,bR]at T;rcases htk with z|z
  ·rw [z]at hd T;simp at hd;refine⟨v1,s.ao.length,v3,h.e1,Nat.le_refl _,h.e3,aN (a8 KC au Tryz.func51 rfl rfl gH rfl rfl rfl (by simp) hH ?_)⟩;simp [d1,d2,d3,h.g1,h.g2,h.g3,h.e1,h.e2,h.e3,hp,hh,ht,et,ho,T,aG,aF.row,br.row,wr,aE,aa,hd,cr,G22,G23,s1,S4,how,List.getElem_set_ne]
  ·rw [z]at hd T;simp at hd;refine⟨v1,s.ao.length,v3,h.e1,Nat.le_refl _,h.e3,aN (a8 KC au Tryz.func51 rfl rfl gH rfl rfl rfl (by simp) hH ?_)⟩;simp [d1,d2,d3,h.g1,h.g2,h.g3,h.e1,h.e2,h.e3,hp,hh,ht,et,ho,T,aG,aF.row,br.row,wr,aE,aa,hd,cr,G22,G23,s1,S4,how,List.getElem_set_ne]
 by_cases k5:kind=5
 ·subst k5;obtain⟨u,eu,hu⟩:=hoth (.inl rfl);rw [eu]at hd;simp at hd;obtain⟨v,hv,C,hS⟩:=iU (fr:=[(2, .box [.aW n1 1 s.ah.length 0 s.ah.length, .aW n2 2 s.ao.length 0 s.ao.length, .aW n3 2 s.ae.length 0 s.ae.length]),(3,bR ⟨q1,w,5,0,a9,cell,other,q3,q4⟩)]) h (t:=u) (bit:=1) (on:=true) hu (by decide) 100;simp only [kv,bR]at C;refine⟨v1,v2,v,h.e1,h.e2,hv,aN (a8 KC au Tryz.func51 rfl rfl gH rfl rfl rfl (by simp) hH ?_)⟩;simp [d1,d2,d3,h.g1,h.g2,h.g3,h.e1,h.e2,h.e3,hp,hh,ht,et,eu,C,aF.row,wr,aa,hd,cr,s1,s2]
 by_cases k6:kind=6
 ·subst k6;obtain⟨u,eu,hu⟩:=hoth (.inr rfl);rw [eu]at hd;simp at hd;obtain⟨v,hv,C,hS⟩:=iU (fr:=[(2, .box [.aW n1 1 s.ah.length 0 s.ah.length, .aW n2 2 s.ao.length 0 s.ao.length, .aW n3 2 s.ae.length 0 s.ae.length]),(3,bR ⟨q1,w,6,0,a9,cell,other,q3,q4⟩)]) h (t:=t) (bit:=2) (on:=false) ht (by decide) 105;obtain⟨v',hv',C',hS'⟩:=iU (fr:=[(2, .box [.aW n1 1 s.ah.length 0 s.ah.length, .aW n2 2 s.ao.length 0 s.ao.length, .aW n3 2 s.ae.length 0 s.ae.length]),(3,bR ⟨q1,w,6,0,a9,cell,other,q3,q4⟩)]) hS (t:=t) (bit:=1) (on:=false) (by rw [dU];exact ht) (by decide) 108;obtain⟨v'',hv'',C'',hS''⟩:=iU (fr:=[(2, .box [.aW n1 1 s.ah.length 0 s.ah.length, .aW n2 2 s.ao.length 0 s.ao.length, .aW n3 2 s.ae.length 0 s.ae.length]),(3,bR ⟨q1,w,6,0,a9,cell,other,q3,q4⟩)]) hS' (t:=u) (bit:=2) (on:=true) (by simp only [dU];exact hu) (by decide) 111;simp only [kv,bR,dU,aj.set_set]at C C' C'';simp only [dU]at hv'';refine⟨v1,v2,v'',h.e1,h.e2,hv'',aN (a8 KC au Tryz.func51 rfl rfl gH rfl rfl rfl (by simp) hH ?_)⟩;simp [d1,d2,d3,h.g1,h.g2,h.g3,h.e1,h.e2,h.e3,hp,hh,ht,et,eu,C,C',C'',aF.row,wr,aa,hd,cr,s1,s2]
 by_cases k7:kind=7
 ·subst k7;simp at hd;obtain⟨v,hv,C,hS⟩:=iU (fr:=[(2, .box [.aW n1 1 s.ah.length 0 s.ah.length, .aW n2 2 s.ao.length 0 s.ao.length, .aW n3 2 s.ae.length 0 s.ae.length]),(3,bR ⟨q1,w,7,0,a9,cell,other,q3,q4⟩)]) h (t:=t) (bit:=4) (on:=true) ht (by decide) 116;simp only [kv,bR]at C;refine⟨v1,v2,v,h.e1,h.e2,hv,aN (a8 KC au Tryz.func51 rfl rfl gH rfl rfl rfl (by simp) hH ?_)⟩;simp [d1,d2,d3,h.g1,h.g2,h.g3,h.e1,h.e2,h.e3,hp,hh,ht,et,C,aF.row,wr,aa,hd,cr,s1,s2]
 have k8:kind=8:=(by omega);subst k8;simp at hd;obtain⟨v,hv,C,hS⟩:=iU (fr:=[(2, .box [.aW n1 1 s.ah.length 0 s.ah.length, .aW n2 2 s.ao.length 0 s.ao.length, .aW n3 2 s.ae.length 0 s.ae.length]),(3,bR ⟨q1,w,8,0,a9,cell,other,q3,q4⟩)]) h (t:=t) (bit:=4) (on:=false) ht (by decide) 121;simp only [kv,bR]at C;refine⟨v1,v2,v,h.e1,h.e2,hv,aN (a8 KC au Tryz.func51 rfl rfl gH rfl rfl rfl (by simp) hH ?_)⟩;simp [d1,d2,d3,h.g1,h.g2,h.g3,h.e1,h.e2,h.e3,hp,hh,ht,et,C,aF.row,wr,aa,hd,cr,s1,s2]
theorem Wg {n1 n2 n3:Nm}{v1 v2 v3:Nat}{s:ay}(h:me H n1 n2 n3 v1 v2 v3 s){w:Nat}{q1 kind a9 cell other q3 q4:Int}(hb:Ex s w ⟨q1,w,kind,1,a9,cell,other,q3,q4⟩)(hhl:s.ao.length≤1000000)(hH:0<H.length):
  ∃v1' v2' v3',v1'≤s.ah.length∧v2'≤s.ao.length∧v3'≤s.ae.length∧
   aI KC (aC KC) 51 [kv n1 n2 n3 s, .pure (.agg [.int .i64 q1, .int .i64 w, .int .i64 kind, .int .i64 1, .int .i64 a9, .int .i64 cell, .int .i64 other, .int .i64 q3, .int .i64 q4])] c H=
    some (.pure (.tuple []),cr H n1 n2 n3 v1' v2' v3' (gM s w ⟨q1,w,kind,1,a9,cell,other,q3,q4⟩)):=by
 have l1:=aj.bS h.g1;have l2:=aj.bS h.g2;have l3:=aj.bS h.g3;have d1: ¬n1.1=H.length:=(by omega);have d2: ¬n2.1=H.length:=(by omega);have d3: ¬n3.1=H.length:=(by omega);have hp:=hb.hp;have hh:=hb.hh;have hg:s.ao.getD w bH=s.ao[w]:=(by simp [List.getD_eq_getElem?_getD,hh]);have hgp:s.ah.getD w 0=s.ah[w]:=(by simp [List.getD_eq_getElem?_getD,hp]);have eh:bN s w 1=s.ao[w].r:=(by unfold bN;rw [hg];simp);have eo:bN s w (1-1)=s.ao[w].l:=(by unfold bN;rw [hg];simp);have wr:IntKind.i64.wrap (1-1)=0:=rfl;have hk:=hb.kind;have hd:=jW s w ⟨q1,w,kind,1,a9,cell,other,q3,q4⟩;have hheld:=hb.held;have hoth:=hb.xY;have htake:=hb.take;have hgive:=hb.sM;have G23: ∀b,(H.set n2 b).get n3=H.get n3:=fun b=>aj.aL b h.kD.symm;have S2: ∀x,(H.set n1 x).set n2 (.arr 2 (s.ao.map aF.row) v2 false)=H.set n1 x:=fun x=>(by rw [aj.set_comm h.kx,h.s2]);have S3: ∀x,(H.set n1 x).set n3 (.arr 2 (s.ae.map br.row) v3 false)=H.set n1 x:=fun x=>(by rw [aj.set_comm h.lR,h.s3]);have S4: ∀x,(H.set n2 x).set n3 (.arr 2 (s.ae.map br.row) v3 false)=H.set n2 x:=fun x=>(by rw [aj.set_comm h.kD,h.s3]);have s1:=h.s1;have s2:=h.s2;have s3:=h.s3;have G22: ∀b,(H.set n2 b).get n2=some b:=fun b=>aj.fZ l2;simp only [eh,eo,hgp,bB,hg]at hd hk hheld hoth htake hgive;simp only [kv];by_cases k1:kind=1
 ·subst k1;simp at hd;refine⟨s.ah.length,v2,v3,Nat.le_refl _,h.e2,h.e3,aN (a8 KC au Tryz.func51 rfl rfl gH rfl rfl rfl (by simp) hH ?_)⟩;simp [d1,d2,d3,h.g1,h.g2,h.g3,h.e1,h.e2,h.e3,hp,hh,aG,aF.row,wr,aE,aa,hd,cr,S2,S3]
 by_cases k2:kind=2
 ·subst k2;obtain⟨t,rfl,ht⟩:=htake rfl;have hgt:s.ae[t]?.getD aU=s.ae[t]:=(by simp [ht]);simp [hgt]at hd;refine⟨v1,s.ao.length,s.ae.length,h.e1,Nat.le_refl _,Nat.le_refl _,aN (a8 KC au Tryz.func51 rfl rfl gH rfl rfl rfl (by simp) hH ?_)⟩;simp [d1,d2,d3,h.g1,h.g2,h.g3,h.e1,h.e2,h.e3,hp,hh,ht,aF.row,br.row,wr,aE,aa,hd,cr,G23,s1]
 have hk3:3≤kind:=(by omega);obtain⟨t,et,ht⟩:=hheld hk3;simp only [et]at hd hgive;have hgt:s.ae[t]?.getD aU=s.ae[t]:=(by simp [ht]);by_cases k3:kind=3
 ·subst k3;simp [hgt]at hd;refine⟨v1,s.ao.length,s.ae.length,h.e1,Nat.le_refl _,Nat.le_refl _,aN (a8 KC au Tryz.func51 rfl rfl gH rfl rfl rfl (by simp) hH ?_)⟩;simp [d1,d2,d3,h.g1,h.g2,h.g3,h.e1,h.e2,h.e3,hp,hh,ht,et,aG,aF.row,br.row,wr,aE,aa,hd,cr,G23,s1]
 by_cases k4:kind=4
 ·subst k4;obtain⟨o,rfl,ho,how,htk⟩:=hgive rfl;have hgo:s.ao[o]?.getD bH=s.ao[o]:=(by simp [ho]);have hsw: ∀x,(s.ao.set o x)[w]?.getD bH=s.ao[w]:=fun x=>(by rw [List.getElem?_set_ne how];simp [hh]);simp [hgo,hsw]at hd;have R:(bm ([(2, .box [.aW n1 1 s.ah.length 0 s.ah.length, .aW n2 2 s.ao.length 0 s.ao.length, .aW n3 2 s.ae.length 0 s.ae.length]),(3,bR ⟨q1,w,4,1,a9,cell,o,q3,q4⟩)]::H) [kv n1 n2 n3 s, .pure (.int .i64 o)]).1.map canon=[.pure (.agg s.row), .pure (.int .i64 o)]:=by
   simp only [bm,Ei (mD.up h.tomD),po];rfl
  have T:=fun(c:Nat)=>gL KC (f:=85) (c:=c) rfl rfl R rfl (by simp) (fun H hH=>tx (c:=c) ho hhl hH) rfl;simp only [kv,bR]at T;rcases htk with z|z
  ·rw [z]at hd T;simp at hd;refine⟨v1,s.ao.length,v3,h.e1,Nat.le_refl _,h.e3,aN (a8 KC au Tryz.func51 rfl rfl gH rfl rfl rfl (by simp) hH ?_)⟩;simp [d1,d2,d3,h.g1,h.g2,h.g3,h.e1,h.e2,h.e3,hp,hh,ht,et,ho,T,aG,aF.row,br.row,wr,aE,aa,hd,cr,G22,G23,s1,S4,how,List.getElem_set_ne]
  ·rw [z]at hd T;simp at hd;refine⟨v1,s.ao.length,v3,h.e1,Nat.le_refl _,h.e3,aN (a8 KC au Tryz.func51 rfl rfl gH rfl rfl rfl (by simp) hH ?_)⟩;simp [d1,d2,d3,h.g1,h.g2,h.g3,h.e1,h.e2,h.e3,hp,hh,ht,et,ho,T,aG,aF.row,br.row,wr,aE,aa,hd,cr,G22,G23,s1,S4,how,List.getElem_set_ne]
 by_cases k5:kind=5
 ·subst k5;obtain⟨u,eu,hu⟩:=hoth (.inl rfl);rw [eu]at hd;simp at hd;obtain⟨v,hv,C,hS⟩:=iU (fr:=[(2, .box [.aW n1 1 s.ah.length 0 s.ah.length, .aW n2 2 s.ao.length 0 s.ao.length, .aW n3 2 s.ae.length 0 s.ae.length]),(3,bR ⟨q1,w,5,1,a9,cell,other,q3,q4⟩)]) h (t:=u) (bit:=1) (on:=true) hu (by decide) 100;simp only [kv,bR]at C;refine⟨v1,v2,v,h.e1,h.e2,hv,aN (a8 KC au Tryz.func51 rfl rfl gH rfl rfl rfl (by simp) hH ?_)⟩;simp [d1,d2,d3,h.g1,h.g2,h.g3,h.e1,h.e2,h.e3,hp,hh,ht,et,eu,C,aF.row,wr,aa,hd,cr,s1,s2]
 by_cases k6:kind=6
 ·subst k6;obtain⟨u,eu,hu⟩:=hoth (.inr rfl);rw [eu]at hd;simp at hd;obtain⟨v,hv,C,hS⟩:=iU (fr:=[(2, .box [.aW n1 1 s.ah.length 0 s.ah.length, .aW n2 2 s.ao.length 0 s.ao.length, .aW n3 2 s.ae.length 0 s.ae.length]),(3,bR ⟨q1,w,6,1,a9,cell,other,q3,q4⟩)]) h (t:=t) (bit:=2) (on:=false) ht (by decide) 105;obtain⟨v',hv',C',hS'⟩:=iU (fr:=[(2, .box [.aW n1 1 s.ah.length 0 s.ah.length, .aW n2 2 s.ao.length 0 s.ao.length, .aW n3 2 s.ae.length 0 s.ae.length]),(3,bR ⟨q1,w,6,1,a9,cell,other,q3,q4⟩)]) hS (t:=t) (bit:=1) (on:=false) (by rw [dU];exact ht) (by decide) 108;obtain⟨v'',hv'',C'',hS''⟩:=iU (fr:=[(2, .box [.aW n1 1 s.ah.length 0 s.ah.length, .aW n2 2 s.ao.length 0 s.ao.length, .aW n3 2 s.ae.length 0 s.ae.length]),(3,bR ⟨q1,w,6,1,a9,cell,other,q3,q4⟩)]) hS' (t:=u) (bit:=2) (on:=true) (by simp only [dU];exact hu) (by decide) 111;simp only [kv,bR,dU,aj.set_set]at C C' C'';simp only [dU]at hv'';refine⟨v1,v2,v'',h.e1,h.e2,hv'',aN (a8 KC au Tryz.func51 rfl rfl gH rfl rfl rfl (by simp) hH ?_)⟩;simp [d1,d2,d3,h.g1,h.g2,h.g3,h.e1,h.e2,h.e3,hp,hh,ht,et,eu,C,C',C'',aF.row,wr,aa,hd,cr,s1,s2]
 by_cases k7:kind=7
 ·subst k7;simp at hd;obtain⟨v,hv,C,hS⟩:=iU (fr:=[(2, .box [.aW n1 1 s.ah.length 0 s.ah.length, .aW n2 2 s.ao.length 0 s.ao.length, .aW n3 2 s.ae.length 0 s.ae.length]),(3,bR ⟨q1,w,7,1,a9,cell,other,q3,q4⟩)]) h (t:=t) (bit:=4) (on:=true) ht (by decide) 116;simp only [kv,bR]at C;refine⟨v1,v2,v,h.e1,h.e2,hv,aN (a8 KC au Tryz.func51 rfl rfl gH rfl rfl rfl (by simp) hH ?_)⟩;simp [d1,d2,d3,h.g1,h.g2,h.g3,h.e1,h.e2,h.e3,hp,hh,ht,et,C,aF.row,wr,aa,hd,cr,s1,s2]
 have k8:kind=8:=(by omega);subst k8;simp at hd;obtain⟨v,hv,C,hS⟩:=iU (fr:=[(2, .box [.aW n1 1 s.ah.length 0 s.ah.length, .aW n2 2 s.ao.length 0 s.ao.length, .aW n3 2 s.ae.length 0 s.ae.length]),(3,bR ⟨q1,w,8,1,a9,cell,other,q3,q4⟩)]) h (t:=t) (bit:=4) (on:=false) ht (by decide) 121;simp only [kv,bR]at C;refine⟨v1,v2,v,h.e1,h.e2,hv,aN (a8 KC au Tryz.func51 rfl rfl gH rfl rfl rfl (by simp) hH ?_)⟩;simp [d1,d2,d3,h.g1,h.g2,h.g3,h.e1,h.e2,h.e3,hp,hh,ht,et,C,aF.row,wr,aa,hd,cr,s1,s2]
theorem Sg {n1 n2 n3:Nm}{v1 v2 v3:Nat}{s:ay}(h:me H n1 n2 n3 v1 v2 v3 s){w:Nat}{a:ak}(hb:Ex s w a)(hhl:s.ao.length≤1000000)(hH:0<H.length):
  ∃v1' v2' v3',v1'≤s.ah.length∧v2'≤s.ao.length∧v3'≤s.ae.length∧
   aI KC (aC KC) 51 [kv n1 n2 n3 s, .pure (.agg a.row)] c H=some (.pure (.tuple []),cr H n1 n2 n3 v1' v2' v3' (gM s w a)):=by
 obtain⟨q1,aO,kind,hand,a9,cell,other,q3,q4⟩:=a;have e1:=hb.aO;have e2:=hb.hand;simp only at e1 e2;subst e1;rcases e2 with rfl|rfl
 ·exact Wf h hb hhl hH
 ·exact Wg h hb hhl hH
end
section
variable {c:Nat} {H:aj}
noncomputable def iw:List Int→List Int→Bool:=na fun l m=>l.any fun x=>m.contains x
theorem tL (l m:List Int):iw l m=l.any fun x=>m.contains x:=by rw [iw,cO]
theorem Ao (l m:List Int)(hm:m.length≤1000000)(i:Nat)(hi:i<l.length)(H':aj)(f0 f1:Fr)(hH':H'=f1::f0::H)(Q:GX→bP→Prop):
  ∀k j:Nat,j+k=m.length→
  ((m.drop j).contains l[i]=false→Q (.exit 2) ⟨[(0, .pure (.slice (l.map aG))),(1, .pure (.slice (m.map aG))),(4,aP),(5, .pure (.int .i64 i))],H',28⟩)→
  ((m.drop j).contains l[i]=true→Q .ret ⟨[(0, .pure (.slice (l.map aG))),(1, .pure (.slice (m.map aG))),(4, .pure (.bool true)),(5, .pure (.int .i64 i))],H',28⟩)→
  fL KC au 122 (lp Tryz.f122 1) [0,1,5,6] [0,1,4,5] Q
   [(0, .pure (.slice (l.map aG))),(1, .pure (.slice (m.map aG))),(5, .pure (.int .i64 i)),(6, .pure (.int .i64 j))] H' 28:=by
 subst hH';intro k
 induction k with
 |zero=>
  intro j hj h1 h2;have e1:m.drop j=[]:=List.drop_of_length_le (by omega);rw [e1]at h1;have: ¬j<m.length:=(by omega);apply aw;conv=>arg 4;whnf
  simp [this];exact h1 rfl
 |succ k ih=>
  intro j hj h1 h2;have hja:j<m.length:=(by omega);have hw:=cu (x:=(j:Int)+1) (by omega) (by omega);have ih':=ih (j+1) (by omega);rw [List.drop_eq_getElem_cons hja,List.contains_cons]at h1 h2;apply aw;conv=>arg 4;whnf
  cases he:l[i]==m[j]with
  |true=>
   rw [he]at h2;simp [hi,hja,aG,he];exact h2 rfl
  |false=>
   rw [he]at h1 h2;rw [Bool.false_or]at h1 h2;simp [hi,hja,aG,he,hw];exact ih' h1 h2
theorem Ce (l m:List Int)(hl:l.length≤1000000)(hm:m.length≤1000000)(f0:Fr)(Q:GX→bP→Prop):
  ∀k i:Nat,i+k=l.length→
  (((l.drop i).any fun x=>m.contains x)=false→Q (.exit 0) ⟨[(4,aP)],f0::H,28⟩)→
  (((l.drop i).any fun x=>m.contains x)=true→Q .ret ⟨[(4, .pure (.bool true))],f0::H,28⟩)→
  fL KC au 122 (lp Tryz.f122 0) [0,1,5] [4] Q
   [(0, .pure (.slice (l.map aG))),(1, .pure (.slice (m.map aG))),(5, .pure (.int .i64 i))] (f0::H) 28:=by
 intro k
 induction k with
 |zero=>
  intro i hi h1 h2;have e1:l.drop i=[]:=List.drop_of_length_le (by omega);rw [e1]at h1;have: ¬i<l.length:=(by omega);apply aw;conv=>arg 4;whnf
  simp [this];exact h1 rfl
 |succ k ih=>
  intro i hi h1 h2;have hia:i<l.length:=(by omega);have hw:=cu (x:=(i:Int)+1) (by omega) (by omega);have ih':=ih (i+1) (by omega);rw [List.drop_eq_getElem_cons hia,List.any_cons]at h1 h2;apply aw;conv=>arg 4;whnf
  have L:=fun f1 Q=>Ao l m hm i hia (f1::f0::H) f0 f1 rfl Q m.length 0 (by omega);simp only [List.drop_zero]at L;simp [hia];refine L _ _ (fun z=> ?_) (fun z=> ?_)
  ·rw [z,Bool.false_or]at h1 h2;simp [hw];exact ih' h1 h2
  ·rw [z,Bool.true_or]at h2;simp;exact h2 rfl
theorem Ht {l m:List Int}(hl:l.length≤1000000)(hm:m.length≤1000000)(hH:0<H.length):
  aI KC (aC KC) 122 [.pure (.slice (l.map aG)), .pure (.slice (m.map aG))] c H=some (.pure (.bool (iw l m)),H):=by
 refine dq rfl rfl rfl rfl rfl hH fun H hH=> ?_;refine aN (aJ KC au Tryz.func122 rfl rfl Oh (by simp) hH ?_);have hd:=tL l m;have L:=fun f0 Q=>Ce (H:=H) l m hl hm f0 Q l.length 0 (by omega);simp only [List.drop_zero]at L;simp;refine L _ _ (fun z=> ?_) (fun z=> ?_)
 ·rw [z]at hd;simp [aa,hd]
 ·rw [z]at hd;simp [aa,hd]
structure Touch where
 ah:List Int
 ae:List Int
 cells:List Int
def Touch.row (t:Touch):List PV:=[.slice (t.ah.map aG), .slice (t.ae.map aG), .slice (t.cells.map aG)]
noncomputable def bW:ay→Nat→ak→Touch:=na fun s w a=>
 if a.kind=1 then ⟨[a.aO],[],[s.ah.getD w 0,a.cell]⟩
 else if a.kind=2 then ⟨[a.aO],[a.a9],[]⟩
 else if a.kind=4 then ⟨[a.aO,a.other],[bN s w a.hand],[]⟩
 else if a.kind=5∨a.kind=6 then ⟨[a.aO],[bN s w a.hand,bN s w (1-a.hand)],[]⟩
 else ⟨[a.aO],[bN s w a.hand],[]⟩
theorem eT (s:ay)(w:Nat)(a:ak):bW s w a=
 if a.kind=1 then ⟨[a.aO],[],[s.ah.getD w 0,a.cell]⟩
 else if a.kind=2 then ⟨[a.aO],[a.a9],[]⟩
 else if a.kind=4 then ⟨[a.aO,a.other],[bN s w a.hand],[]⟩
 else if a.kind=5∨a.kind=6 then ⟨[a.aO],[bN s w a.hand,bN s w (1-a.hand)],[]⟩
 else ⟨[a.aO],[bN s w a.hand],[]⟩:=by rw [bW,cO]
theorem jR (s:ay)(w:Nat)(a:ak):(bW s w a).ah.length≤2∧(bW s w a).ae.length≤2∧(bW s w a).cells.length≤2:=by
 rw [eT]
 repeat' split
 all_goals simp
theorem Hu {s:ay}{w:Nat}{q1 kind a9 cell other q3 q4:Int}(hp:w<s.ah.length)(hh:w<s.ao.length)(hH:0<H.length):
  aI KC (aC KC) 88 [.pure (.agg s.row), .pure (.agg [.int .i64 q1, .int .i64 w, .int .i64 kind, .int .i64 0, .int .i64 a9, .int .i64 cell, .int .i64 other, .int .i64 q3, .int .i64 q4])] c H=
    some (.pure (.agg (bW s w ⟨q1,w,kind,0,a9,cell,other,q3,q4⟩).row),H):=by
 refine aN (bj KC au Tryz.func88 rfl rfl Jb rfl rfl rfl (by simp) hH ?_);have hg:s.ao.getD w bH=s.ao[w]:=(by simp [List.getD_eq_getElem?_getD,hh]);have hgp:s.ah.getD w 0=s.ah[w]:=(by simp [List.getD_eq_getElem?_getD,hp]);have eh:bN s w 0=s.ao[w].l:=(by unfold bN;rw [hg];simp);have eo:bN s w (1-0)=s.ao[w].r:=(by unfold bN;rw [hg];simp);have wr:IntKind.i64.wrap (1-0)=1:=rfl;have hnl: ¬H.length≤H.length-1:=(by omega);have hd:=eT s w ⟨q1,w,kind,0,a9,cell,other,q3,q4⟩;simp only [eh,eo,hgp]at hd;simp only [ay.row];by_cases k1:kind=1
 ·subst k1;simp at hd;simp [hp,hh,aG,aF.row,wr,aa,hd,Touch.row,hnl]
 by_cases k2:kind=2
 ·subst k2;simp at hd;simp [hp,hh,aG,aF.row,wr,aa,hd,Touch.row,hnl]
 by_cases k4:kind=4
 ·subst k4;simp at hd;simp [hp,hh,aG,aF.row,wr,aa,hd,Touch.row,hnl]
 by_cases k5:kind=5
 ·subst k5;simp at hd;simp [hp,hh,aG,aF.row,wr,aa,hd,Touch.row,hnl]
 by_cases k6:kind=6
 ·subst k6;simp at hd;simp [hp,hh,aG,aF.row,wr,aa,hd,Touch.row,hnl]
 have k1':(kind==1)=false:=(by simpa using k1);have k2':(kind==2)=false:=(by simpa using k2);have k4':(kind==4)=false:=(by simpa using k4);have k5':(kind==5)=false:=(by simpa using k5);have k6':(kind==6)=false:=(by simpa using k6);simp [k1,k2,k4,k5,k6]at hd;simp [hp,hh,aG,aF.row,wr,k1',k2',k4',k5',k6',aa,hd,Touch.row,hnl]
theorem Hv {s:ay}{w:Nat}{q1 kind a9 cell other q3 q4:Int}(hp:w<s.ah.length)(hh:w<s.ao.length)(hH:0<H.length):
  aI KC (aC KC) 88 [.pure (.agg s.row), .pure (.agg [.int .i64 q1, .int .i64 w, .int .i64 kind, .int .i64 1, .int .i64 a9, .int .i64 cell, .int .i64 other, .int .i64 q3, .int .i64 q4])] c H=
    some (.pure (.agg (bW s w ⟨q1,w,kind,1,a9,cell,other,q3,q4⟩).row),H):=by
 refine aN (bj KC au Tryz.func88 rfl rfl Jb rfl rfl rfl (by simp) hH ?_);have hg:s.ao.getD w bH=s.ao[w]:=(by simp [List.getD_eq_getElem?_getD,hh]);have hgp:s.ah.getD w 0=s.ah[w]:=(by simp [List.getD_eq_getElem?_getD,hp]);have eh:bN s w 1=s.ao[w].r:=(by unfold bN;rw [hg];simp);have eo:bN s w (1-1)=s.ao[w].l:=(by unfold bN;rw [hg];simp);have wr:IntKind.i64.wrap (1-1)=0:=rfl;have hnl: ¬H.length≤H.length-1:=(by omega);have hd:=eT s w ⟨q1,w,kind,1,a9,cell,other,q3,q4⟩;simp only [eh,eo,hgp]at hd;simp only [ay.row];by_cases k1:kind=1
 ·subst k1;simp at hd;simp [hp,hh,aG,aF.row,wr,aa,hd,Touch.row,hnl]
 by_cases k2:kind=2
 ·subst k2;simp at hd;simp [hp,hh,aG,aF.row,wr,aa,hd,Touch.row,hnl]
 by_cases k4:kind=4
 ·subst k4;simp at hd;simp [hp,hh,aG,aF.row,wr,aa,hd,Touch.row,hnl]
 by_cases k5:kind=5
 ·subst k5;simp at hd;simp [hp,hh,aG,aF.row,wr,aa,hd,Touch.row,hnl]
 by_cases k6:kind=6
 ·subst k6;simp at hd;simp [hp,hh,aG,aF.row,wr,aa,hd,Touch.row,hnl]
 have k1':(kind==1)=false:=(by simpa using k1);have k2':(kind==2)=false:=(by simpa using k2);have k4':(kind==4)=false:=(by simpa using k4);have k5':(kind==5)=false:=(by simpa using k5);have k6':(kind==6)=false:=(by simpa using k6);simp [k1,k2,k4,k5,k6]at hd;simp [hp,hh,aG,aF.row,wr,k1',k2',k4',k5',k6',aa,hd,Touch.row,hnl]
theorem sr {s:ay}{w:Nat}{a:ak}(hp:w<s.ah.length)(hh:w<s.ao.length)(hw:a.aO=w)(ha:a.hand=0∨a.hand=1)(hH:0<H.length):
  aI KC (aC KC) 88 [.pure (.agg s.row), .pure (.agg a.row)] c H=some (.pure (.agg (bW s w a).row),H):=by
 obtain⟨q1,aO,kind,hand,a9,cell,other,q3,q4⟩:=a;simp only at hw ha;subst hw;rcases ha with rfl|rfl
 ·exact Hu hp hh hH
 ·exact Hv hp hh hH
noncomputable def pW:Touch→Touch→Bool:=na fun a b=>iw a.ah b.ah||(iw a.ae b.ae||iw a.cells b.cells)
theorem x6 (a b:Touch):pW a b=(iw a.ah b.ah||(iw a.ae b.ae||iw a.cells b.cells)):=by rw [pW,cO]
theorem E0 {a b:Touch}(ha:a.ah.length≤2∧a.ae.length≤2∧a.cells.length≤2)(hb:b.ah.length≤2∧b.ae.length≤2∧b.cells.length≤2)(hH:0<H.length):
  aI KC (aC KC) 87 [.pure (.agg a.row), .pure (.agg b.row)] c H=some (.pure (.bool (pW a b)),H):=by
 refine dq rfl rfl rfl rfl rfl hH fun H hH=> ?_;refine aN (aJ KC au Tryz.func87 rfl rfl VM (by simp) hH ?_);have hd:=x6 a b;have C:=fun(l m:List Int) (hl:l.length≤2) (hm:m.length≤2) (c:Nat) (H:aj) (hH:0<H.length)=>Ht (c:=c) (H:=H) (l:=l) (m:=m) (by omega) (by omega) hH;simp only [Touch.row]
 cases z1:iw a.ah b.ah with
 |true=>
  simp [z1]at hd;simp [C,ha,hb,z1,aa,hd]
 |false=>
  cases z2:iw a.ae b.ae with
  |true=>
   simp [z1,z2]at hd;simp [C,ha,hb,z1,z2,aa,hd]
  |false=>
   simp [z1,z2]at hd;simp [C,ha,hb,z1,z2,aa,hd]
noncomputable def qv:ay→Nat→ak→Nat→ak→Bool:=na fun s w a v b=> !pW (bW s w a) (bW s v b)
theorem vI (s:ay)(w:Nat)(a:ak)(v:Nat)(b:ak):qv s w a v b= !pW (bW s w a) (bW s v b):=by rw [qv,cO]
theorem Ih {s:ay} {w v:Nat} {a b:ak} (hp:w<s.ah.length) (hh:w<s.ao.length) (hw:a.aO=w) (ha:a.hand=0∨a.hand=1)
  (hp2:v<s.ah.length) (hh2:v<s.ao.length) (hw2:b.aO=v) (hb:b.hand=0∨b.hand=1) (hH:0<H.length):
  bM KC (aC KC) 53 [.pure (.agg s.row), .pure (.agg a.row), .pure (.agg b.row)] c H=some (.pure (.bool (qv s w a v b)),H):=by
 refine aN (aJ KC au Tryz.func53 rfl rfl Vo (by simp) hH ?_);have hd:=vI s w a v b;have T1:=fun c (H:aj) (hH:0<H.length)=>sr (c:=c) (H:=H) hp hh hw ha hH;have T2:=fun c (H:aj) (hH:0<H.length)=>sr (c:=c) (H:=H) hp2 hh2 hw2 hb hH;have B:=fun c (H:aj) (hH:0<H.length)=>E0 (c:=c) (H:=H) (jR s w a) (jR s v b) hH;simp only [ay.row,ak.row,Touch.row]at T1 T2 B⊢;simp [T1,T2,B,aa,hd]
end
end Go.Gh
