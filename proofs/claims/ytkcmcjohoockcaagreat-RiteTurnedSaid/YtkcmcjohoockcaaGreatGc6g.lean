/- Texts joined: the evaluator over ghost values, its soundness, the walks. Spaces struck and names made short by a program, for the size. -/
import Derived.Test.YtkcmcjohoockcaaGreatGc6f
namespace Go.Gh
open Go.Proofs
set_option linter.unusedVariables false
set_option linter.unusedSimpArgs false
set_option linter.unnecessarySimpa false
set_option maxRecDepth 100000
set_option maxHeartbeats 8000000
section
variable {c:Nat} {H:ai}
def oQ (p:Nat→Bool):Nat→Nat→Int
 |0,_=> -1
 |k+1,i=>if p i=true then (i:Int)else oQ p k (i+1)
theorem oS {p:Nat→Bool}: ∀{k i:Nat},0≤oQ p k i↔ ∃j,i≤j∧j<i+k∧p j=true
 |0,i=>by simp [oQ];intro j h1 h2;omega
 |k+1,i=>by
  unfold oQ;by_cases h:p i=true
  ·simp only [h,if_true];exact⟨fun _=>⟨i,Nat.le_refl _,by omega,h⟩,fun _=>by omega⟩
  ·rw [if_neg h,oS];constructor
   ·rintro⟨j,h1,h2,h3⟩;exact⟨j,by omega,by omega,h3⟩
   ·rintro⟨j,h1,h2,h3⟩;rcases Nat.lt_or_ge i j with h4|h4
    ·exact⟨j,h4,by omega,h3⟩
    ·have:j=i:=(by omega);subst this;exact absurd h3 h
def cI:au:=⟨0,0,0,0,0,0,0,0,0⟩
@[simp] theorem au.eta (a:au):(⟨a.bR,a.aR,a.kind,a.hand,a.bf,a.cell,a.other,a.dQ,a.mH⟩:au)=a:=rfl
def Sj (p:au→Bool)(l:List au)(j:Nat):Bool:=p (l.getD j cI)
theorem yS (p:au→Bool)(l:List au)(i:Nat)(h:i<l.length):Sj p l i=p l[i]:=by simp [Sj,List.getD_eq_getElem?_getD,h]
theorem H8 (l:List au) (hn:l.length≤4611686018427387904) (p:au→Bool) (g:GV) (hg: ∀(x:au) (c:Nat) (fr:Fr),dM KC (aF KC) g [.pure (.agg x.row)] c (fr::H)=some (.pure (.bool (p x)),fr::H))
  (hcl: ∀fr,clean (fr::H) (H.length-1) g=g) (Q:GX→bM→Prop) (hH:0<H.length): ∀k i:Nat,i+k=l.length→
  (oQ (Sj p l) k i= -1→Q (.exit 0) ⟨[(4,aO)],H,19⟩)→(0≤oQ (Sj p l) k i→Q .ret ⟨[(4, .pure (.int .i64 (oQ (Sj p l) k i)))],H,19⟩)→
  gZ KC aw 126 (lp Tryz.f126 0) [0,1,7,8] [4] Q [(0, .pure (.slice (l.map au.row))),(1,g),(7, .pure (.int .i64 l.length)),(8, .pure (.int .i64 i))] H 19:=by
 intro k
 induction k with
 |zero=>
  intro i hi h1 h2;apply az;conv=>arg 4;whnf
  have: ¬i<l.length:=(by omega);simp [this,hH];exact h1 rfl
 |succ k ih=>
  intro i hi h1 h2;have hia:i<l.length:=(by omega);have hw:=c8 (x:=(i:Int)+1) (by omega) (by omega);have ih':=ih (i+1) (by omega);unfold oQ at h1 h2;rw [yS p l i hia]at h1 h2;have hg':=hg l[i];simp only [au.row]at hg';apply az;conv=>arg 4;whnf
  cases hp:p l[i]with
  |true=>
   simp [hp]at h1 h2;simp [hia,hH,au.row,hg',hp];exact h2
  |false=>
   simp only [hp,Bool.false_eq_true,if_false]at h1 h2;simp [hia,hH,au.row,hg',hp,hw,hcl];have:=ih' h1 h2;simpa [au.row]using this
theorem H9 (l:List au) (hn:l.length≤4611686018427387904) (p:au→Bool) (g:GV) (hcan:canon g=g) (hfz: ∀H,dx H g=(g,H)) (hg: ∀(x:au) (c:Nat) (f0 fr:Fr),dM KC (aF KC) g [.pure (.agg x.row)] c (f0::fr::H)=some (.pure (.bool (p x)),f0::fr::H))
  (hcl: ∀f0 fr,clean (f0::fr::H) (H.length) g=g) (hH:0<H.length):
  aN KC (aF KC) 126 [.pure (.slice (l.map au.row)),g] c H=some (.pure (.int .i64 (oQ (Sj p l) l.length 0)),H):=by
 refine aM (ba KC aw Tryz.func126 rfl rfl La (by simp [bz,hfz]) rfl rfl (by simp) hH ?_);simp [hcan];refine H8 (H:=[]::H) l hn p g (fun x c fr=>hg x c fr []) (fun fr=>by simpa using hcl fr []) _ (by simp) l.length 0 (by omega) (fun h=> ?_) (fun h=> ?_)
 ·simp [h,ah]
 ·simp [ah]
theorem AE (l:List au) (hn:l.length≤4611686018427387904) (p:au→Bool) (g:GV) (hcan:canon g=g) (hfz: ∀H,dx H g=(g,H)) (hg: ∀(x:au) (c:Nat) (f0 f1 fr:Fr),dM KC (aF KC) g [.pure (.agg x.row)] c (f0::f1::fr::H)=some (.pure (.bool (p x)),f0::f1::fr::H))
  (hcl: ∀f0 f1 fr,clean (f0::f1::fr::H) (H.length+1) g=g) (hH:0<H.length):
  aN KC (aF KC) 90 [.pure (.slice (l.map au.row)),g] c H=some (.pure (.bool (l.any p)),H):=by
 refine aM (ba KC aw Tryz.func90 rfl rfl Sk (by simp [bz,hfz]) rfl rfl (by simp) hH ?_);have I:=fun c (fr:Fr)=>H9 (c:=c) (H:=fr::H) l hn p g hcan hfz (fun x c f0 f1=>hg x c f0 f1 fr) (fun f0 f1=>by simpa using hcl f0 f1 fr) (by simp);have e:(decide (0≤oQ (Sj p l) l.length 0))=l.any p:=by
  rw [Bool.eq_iff_iff,decide_eq_true_eq,oS,List.any_eq_true];constructor
  ·rintro⟨j,_,h2,h3⟩;have hj:j<l.length:=(by omega);exact⟨l[j],List.getElem_mem hj,by rw [←yS p l j hj];exact h3⟩
  ·rintro⟨x,hx,hp⟩;obtain⟨j,hj,rfl⟩:=List.getElem_of_mem hx;exact⟨j,Nat.zero_le _,by omega,by rw [yS p l j hj];exact hp⟩
 simp [hcan,I,ah,e]
def bU (a:au):dB:= .box [.pure (.int .i64 a.bR), .pure (.int .i64 a.aR), .pure (.int .i64 a.kind), .pure (.int .i64 a.hand), .pure (.int .i64 a.bf), .pure (.int .i64 a.cell), .pure (.int .i64 a.other), .pure (.int .i64 a.dQ), .pure (.int .i64 a.mH)]
def lf (a b:au):Bool:=b.bR==a.bR && b.aR==a.aR
theorem Ia (a b:au){nm:Nm}(hg:H.get nm=some (bU a)):aN KC (aF KC) 91 [.pure (.agg b.row), .aA nm 0] c H=some (.pure (.bool (lf a b)),H):=by
 have hl:nm.1<H.length:=ai.bQ hg;have hne: ¬nm.1=H.length:=(by omega);refine aM (ba KC aw Tryz.func91 rfl rfl Sl rfl rfl rfl (by simp) (by omega) ?_);unfold bU at hg;unfold lf
 cases h1:(b.bR==a.bR)with
 |true=>simp [ah,hg,hne,au.row,h1]
 |false=>simp [ah,hg,hne,au.row,h1]
noncomputable def vr:aC→Nat→Int:=ov fun r i=>
 if cV (r.aj.getD i cI).bR 0 1000=false then 2 else if 0<i∧(r.aj.getD i cI).bR<(r.aj.getD (i-1) cI).bR then 11
 else if cV (r.aj.getD i cI).aR 0 ((r.ae.length:Int)-1)=false then 7 else if (r.aj.take i).any (lf (r.aj.getD i cI))=true then 12
 else if fo (cW r.wide r.deep) r.aa.length r.ae.length (r.aj.getD i cI)≠0 then fo (cW r.wide r.deep) r.aa.length r.ae.length (r.aj.getD i cI)
 else if cV (r.aj.getD i cI).dQ 0 15=false∨cV (r.aj.getD i cI).mH 0 9=false then 2 else 0
theorem ld (r:aC)(i:Nat):vr r i=
 if cV (r.aj.getD i cI).bR 0 1000=false then 2 else if 0<i∧(r.aj.getD i cI).bR<(r.aj.getD (i-1) cI).bR then 11
 else if cV (r.aj.getD i cI).aR 0 ((r.ae.length:Int)-1)=false then 7 else if (r.aj.take i).any (lf (r.aj.getD i cI))=true then 12
 else if fo (cW r.wide r.deep) r.aa.length r.ae.length (r.aj.getD i cI)≠0 then fo (cW r.wide r.deep) r.aa.length r.ae.length (r.aj.getD i cI)
 else if cV (r.aj.getD i cI).dQ 0 15=false∨cV (r.aj.getD i cI).mH 0 9=false then 2 else 0:=by rw [vr,cN]
noncomputable def cn:aC→Int:=ov fun r=>if lS r≠0 then lS r else if 40<r.aj.length then 8 else bI (vr r) r.aj.length 0
theorem jH (r:aC):cn r=if lS r≠0 then lS r else if 40<r.aj.length then 8 else bI (vr r) r.aj.length 0:=by rw [cn,cN]
theorem Ib (r:aC)(hl:r.aj.length≤40)(hp:r.ae.length≤1000000)(ht:r.aa.length≤1000000)(Q:GX→bM→Prop): ∀k i:Nat,i+k=r.aj.length→
  (bI (vr r) k i=0→Q (.exit 0) ⟨[(2,aO)],[(1,aX r)]::H,77⟩)→
  (bI (vr r) k i≠0→Q .ret ⟨[(2, .pure (.int .i64 (bI (vr r) k i)))],[(1,aX r)]::H,77⟩)→
  gZ KC aw 57 (lp Tryz.f57 0) [1,17,18,19] [2] Q
   [(1, .aA (H.length,1) 0),(17, .pure (.slice (r.aj.map au.row))),(18, .pure (.int .i64 r.aj.length)),(19, .pure (.int .i64 i))] ([(1,aX r)]::H) 77:=by
 intro k
 induction k with
 |zero=>
  intro i hi h1 h2;apply az;conv=>arg 4;whnf
  have: ¬i<r.aj.length:=(by omega);simp [this];exact h1 rfl
 |succ k ih=>
  intro i hi h1 h2;have hia:i<r.aj.length:=(by omega);have hw:=c8 (x:=(i:Int)+1) (by omega) (by omega);have hw2:=c8 (x:=(i:Int)-1) (by omega) (by omega);have hwp:=c8 (x:=(r.ae.length:Int)-1) (by omega) (by omega);have ih':=ih (i+1) (by omega);unfold bI at h1 h2;have hf:=ld r i;have hgi:r.aj.getD i cI=r.aj[i]:=(by simp [List.getD_eq_getElem?_getD,hia]);rw [hgi]at hf;have hile:i≤r.aj.length:=(by omega);have hmin:min i r.aj.length=i:=(by omega);have C:=fun(c:Nat)=>AE (c:=c) (H:=[(5,bU r.aj[i])]::[(1,aX r)]::H) (r.aj.take i) (by simp;omega) (lf r.aj[i]) (.func 91 [] [.aA (H.length+1,5) 0]) rfl (fun _=>rfl) (fun x c f0 f1 fr=>by
   rw [nj];exact Ia r.aj[i] x (by simp)) (fun f0 f1 fr=>by simp) (by simp)
  simp [aX,bU]at C;have CF:=fun(c:Nat) (H:ai) (hH:0<H.length)=>vu (c:=c) (r:=r) (H:=H) (q1:=r.aj[i].bR) (q2:=r.aj[i].aR) (kind:=r.aj[i].kind) (hand:=r.aj[i].hand) (bf:=r.aj[i].bf) (cell:=r.aj[i].cell) (other:=r.aj[i].other) (q3:=r.aj[i].dQ) (q4:=r.aj[i].mH) hp ht hH;simp only [au.eta,gK]at CF;apply az;conv=>arg 4;whnf
  cases z1:cV r.aj[i].bR 0 1000 with
  |false=>
   simp [z1]at hf;simp [hf]at h1 h2;simp [hia,au.row,aX,cZ,z1];simpa [aX]using h2
  |true=>
  have ord:(0<i∧r.aj[i].bR<(r.aj.getD (i-1) cI).bR)∨ ¬(0<i∧r.aj[i].bR<(r.aj.getD (i-1) cI).bR):=Classical.em _;have step: ∀(Q':Prop),(0<i→ ∀h:i-1<r.aj.length,¬((i:Int)-1<0)→((i:Int)-1).toNat=i-1→(0:Int)<i→r.aj.getD (i-1) cI=r.aj[i-1]→Q')→(i=0→Q')→Q':=fun Q' a b=>by
   by_cases h0:0<i
   ·have hi1:i-1<r.aj.length:=(by omega);exact a h0 hi1 (by omega) (by omega) (by omega) (by simp [List.getD_eq_getElem?_getD,hi1])
   ·exact b (by omega)
  refine step _ (fun h0 hi1 hnn htn h0' hg1=> ?_) (fun h0=> ?_)
  ·rw [hg1]at hf;by_cases z2:r.aj[i].bR<r.aj[i-1].bR
   ·simp [z1,z2,h0]at hf;simp [hf]at h1 h2;simp [hia,au.row,aX,cZ,z1,h0',hw2,hnn,htn,hi1,z2,h0];simpa [aX]using h2
   ·cases z3:cV r.aj[i].aR 0 ((r.ae.length:Int)-1)with
    |false=>
     simp [z1,z2,z3,h0]at hf;simp [hf]at h1 h2;simp [hia,au.row,aX,cZ,z1,h0',hw2,hnn,htn,hi1,z2,hwp,z3,h0];simpa [aX]using h2
    |true=>
    cases z4:(r.aj.take i).any (lf r.aj[i])with
    |true=>
     simp only [z1,z2,z3,z4,and_false,Bool.true_eq_false,if_false,if_true]at hf;simp [hf]at h1 h2;simp [hia,au.row,aX,cZ,z1,h0',hw2,hnn,htn,hi1,z2,hwp,z3,hile,C,z4,h0];simpa [aX]using h2
    |false=>
    by_cases z5:fo (cW r.wide r.deep) r.aa.length r.ae.length r.aj[i]=0
    ·cases z6:cV r.aj[i].dQ 0 15 with
     |false=>
      simp only [z1,z2,z3,z4,z5,z6,and_false,Bool.true_eq_false,Bool.false_eq_true,ne_eq,not_true_eq_false,true_or,if_false,if_true]at hf;simp [hf]at h1 h2;simp [hia,au.row,aX,cZ,z1,h0',hw2,hnn,htn,hi1,z2,hwp,z3,hile,C,z4,CF,z5,z6,h0];simpa [aX]using h2
     |true=>
     cases z7:cV r.aj[i].mH 0 9 with
     |false=>
      simp only [z1,z2,z3,z4,z5,z6,z7,and_false,Bool.true_eq_false,Bool.false_eq_true,ne_eq,not_true_eq_false,or_true,if_false,if_true]at hf;simp [hf]at h1 h2;simp [hia,au.row,aX,cZ,z1,h0',hw2,hnn,htn,hi1,z2,hwp,z3,hile,C,z4,CF,z5,z6,z7,h0];simpa [aX]using h2
     |true=>
      simp only [z1,z2,z3,z4,z5,z6,z7,and_false,Bool.true_eq_false,Bool.false_eq_true,ne_eq,not_true_eq_false,or_self,if_false,if_true]at hf;simp [hf]at h1 h2;simp [hia,au.row,aX,cZ,z1,h0',hw2,hnn,htn,hi1,z2,hwp,z3,hile,C,z4,CF,z5,z6,z7,hw,h0];simpa [aX,au.row]using ih' h1 h2
    ·have z5':(fo (cW r.wide r.deep) r.aa.length r.ae.length r.aj[i] !=0)=true:=(by simpa using z5);simp only [z1,z2,z3,z4,z5,and_false,Bool.true_eq_false,Bool.false_eq_true,ne_eq,not_false_eq_true,if_false,if_true]at hf;simp [hf,z5]at h1 h2;simp [hia,au.row,aX,cZ,z1,h0',hw2,hnn,htn,hi1,z2,hwp,z3,hile,C,z4,CF,z5,z5',h0];simpa [aX]using h2
  ·subst h0;simp at C;have z4:(r.aj.take 0).any (lf r.aj[0])=false:=by simp
   cases z3:cV r.aj[0].aR 0 ((r.ae.length:Int)-1)with
   |false=>
    simp [z1,z3]at hf;simp [hf]at h1 h2;simp [hia,au.row,aX,cZ,z1,hwp,z3];simpa [aX]using h2
   |true=>
   by_cases z5:fo (cW r.wide r.deep) r.aa.length r.ae.length r.aj[0]=0
   ·cases z6:cV r.aj[0].dQ 0 15 with
    |false=>
     simp [z1,z3,z5,z6]at hf;simp [hf]at h1 h2;simp [hia,au.row,aX,cZ,z1,hwp,z3,C,CF,z5,z6];simpa [aX]using h2
    |true=>
    cases z7:cV r.aj[0].mH 0 9 with
    |false=>
     simp [z1,z3,z5,z6,z7]at hf;simp [hf]at h1 h2;simp [hia,au.row,aX,cZ,z1,hwp,z3,C,CF,z5,z6,z7];simpa [aX]using h2
    |true=>
     simp [z1,z3,z5,z6,z7]at hf;simp [hf]at h1 h2;simp [hia,au.row,aX,cZ,z1,hwp,z3,C,CF,z5,z6,z7,hw];simpa [aX,au.row]using ih' h1 h2
   ·have z5':(fo (cW r.wide r.deep) r.aa.length r.ae.length r.aj[0] !=0)=true:=(by simpa using z5);simp [z1,z3,z5]at hf;simp [hf,z5]at h1 h2;simp [hia,au.row,aX,cZ,z1,hwp,z3,C,CF,z5,z5'];simpa [aX]using h2
theorem Fe (r:aC)(h1:r.seen.length≤1000000)(h2:r.a7.length≤1000000)(h3:r.ae.length≤1000000)(h4:r.aa.length≤1000000)(h5:r.aj.length≤1000000)(hH:0<H.length):
  bJ KC (aF KC) 57 [.pure (.agg r.row)] c H=some (.pure (.int .i64 (cn r)),H):=by
 refine aM (aK KC aw Tryz.func57 rfl rfl Sm (by simp) hH ?_);have hr:=jH r;have R:=fun c (H:ai) (hH:0<H.length)=>yT (c:=c) (H:=H) r h1 h2 h3 h4 hH;rw [gK]at R⊢;by_cases z1:lS r=0
 ·by_cases z2:40<r.aj.length
  ·have z2':(40:Int)<r.aj.length:=(by omega);simp [z1,z2]at hr;simp [R,z1,z2,z2',ah,hr]
  ·have z2': ¬(40:Int)<r.aj.length:=(by omega);simp only [z1,z2,ne_eq,not_true_eq_false,if_false]at hr;simp [R,z1,z2,z2'];have L:=fun Q=>Ib (H:=H) r (by omega) h3 h4 Q r.aj.length 0 (by omega);simp [aX]at L;refine L _ (fun h=> ?_) (fun h=> ?_)
   ·simp [h]at hr;simp [ah,hr]
   ·simp [ah,hr]
 ·have z1':(lS r !=0)=true:=(by simpa using z1);simp [z1]at hr;simp [R,z1,z1',ah,hr]
theorem re (r:aC)(h1:r.seen.length≤1000000)(h2:r.a7.length≤1000000)(h3:r.ae.length≤1000000)(h4:r.aa.length≤1000000)(h5:r.aj.length≤1000000)(hH:0<H.length):
  aN KC (aF KC) 57 [.pure (.agg r.row)] c H=some (.pure (.int .i64 (cn r)),H):=eC rfl rfl rfl rfl rfl hH fun H hH=>Fe r h1 h2 h3 h4 h5 hH
end
section
variable {c:Nat} {H:ai}
end
section
variable {c:Nat} {H:ai}
end
section
variable {c:Nat} {H:ai}
@[simp] theorem Sn {l0:Nat}:clean H l0 aO=aO:= .trans rfl rfl
end
section
variable {c:Nat} {H:ai}
noncomputable def jz:Int→Int→Int→Bool:=ov fun w a b=>
 (IntKind.i64.wrap (a.tmod w-b.tmod w)==0 && (IntKind.i64.wrap (IntKind.i64.wrap (a.tdiv w)-IntKind.i64.wrap (b.tdiv w))==1||IntKind.i64.wrap (IntKind.i64.wrap (a.tdiv w)-IntKind.i64.wrap (b.tdiv w))== -1))||
 (IntKind.i64.wrap (IntKind.i64.wrap (a.tdiv w)-IntKind.i64.wrap (b.tdiv w))==0 && (IntKind.i64.wrap (a.tmod w-b.tmod w)==1||IntKind.i64.wrap (a.tmod w-b.tmod w)== -1))
theorem pB (w a b:Int):jz w a b=
 ((IntKind.i64.wrap (a.tmod w-b.tmod w)==0 && (IntKind.i64.wrap (IntKind.i64.wrap (a.tdiv w)-IntKind.i64.wrap (b.tdiv w))==1||IntKind.i64.wrap (IntKind.i64.wrap (a.tdiv w)-IntKind.i64.wrap (b.tdiv w))== -1))||
 (IntKind.i64.wrap (IntKind.i64.wrap (a.tdiv w)-IntKind.i64.wrap (b.tdiv w))==0 && (IntKind.i64.wrap (a.tmod w-b.tmod w)==1||IntKind.i64.wrap (a.tmod w-b.tmod w)== -1))):=by rw [jz,cN]
theorem mQ {w d a b:Int}{x1 x2 x3 x4 x5:PV}(hw:w≠0)(hH:0<H.length):aN KC (aF KC) 120 [.pure (.agg [.int .i64 w, .int .i64 d,x1,x2,x3,x4,x5]), .pure (.int .i64 a), .pure (.int .i64 b)] c H=some (.pure (.bool (jz w a b)),H):=by
 refine eC rfl rfl rfl rfl rfl hH fun H hH=> ?_;refine aM (aK KC aw Tryz.func120 rfl rfl Lb (by simp) hH ?_);have hd:=pB w a b;generalize hx:IntKind.i64.wrap (a.tmod w-b.tmod w)=x at hd;generalize hy:IntKind.i64.wrap (IntKind.i64.wrap (a.tdiv w)-IntKind.i64.wrap (b.tdiv w))=y at hd;by_cases x0:x=0
 ·subst x0;by_cases y1:y=1
  ·subst y1;simp at hd;simp [hw,hx,hy,ah,hd]
  ·have y1':(y==1)=false:=(by simpa using y1);by_cases y2:y= -1
   ·subst y2;simp at hd;simp [hw,hx,hy,ah,hd]
   ·have y2':(y== -1)=false:=(by simpa using y2);by_cases y0:y=0
    ·subst y0;simp at hd;simp [hw,hx,hy,ah,hd]
    ·have y0':(y==0)=false:=(by simpa using y0);simp [y1',y2',y0']at hd;simp [hw,hx,hy,y1',y2',y0',ah,hd]
 ·have x0':(x==0)=false:=(by simpa using x0);by_cases y0:y=0
  ·subst y0;by_cases x1:x=1
   ·subst x1;simp at hd;simp [hw,hx,hy,ah,hd]
   ·have x1':(x==1)=false:=(by simpa using x1);by_cases x2:x= -1
    ·subst x2;simp at hd;simp [hw,hx,hy,ah,hd]
    ·have x2':(x== -1)=false:=(by simpa using x2);simp [x0',x1',x2']at hd;simp [hw,hx,hy,x0',x1',x2',ah,hd]
  ·have y0':(y==0)=false:=(by simpa using y0);simp [x0',y0']at hd;simp [hw,hx,hy,x0',y0',ah,hd]
def aQ:br:=⟨0,0⟩
noncomputable def eF:List br→Int→Int→Bool:=ov fun ts t st=>decide (0≤t) && ((IntKind.i64.wrap ((ts.getD t.toNat aQ).state.tdiv st)).tmod 2==1)
theorem gD (ts:List br)(t st:Int):eF ts t st=(decide (0≤t) && ((IntKind.i64.wrap ((ts.getD t.toNat aQ).state.tdiv st)).tmod 2==1)):=by rw [eF,cN]
theorem Ee {ts:List br}{x1 x2:PV}{t st:Int}(ht:t<ts.length)(hst:st≠0)(hH:0<H.length):
  bJ KC (aF KC) 121 [.pure (.agg [x1,x2, .slice (ts.map br.row)]), .pure (.int .i64 t), .pure (.int .i64 st)] c H=some (.pure (.bool (eF ts t st)),H):=by
 refine aM (aK KC aw Tryz.func121 rfl rfl Lc (by simp) hH ?_);have hd:=gD ts t st;by_cases h0:0≤t
 ·have hn: ¬t<0:=(by omega);have hl:t.toNat<ts.length:=(by omega);have hg:ts.getD t.toNat aQ=ts[t.toNat]:=(by simp [List.getD_eq_getElem?_getD,hl]);rw [hg]at hd;simp [h0]at hd;simp [h0,hn,hl,hst,br.row,ah,hd]
 ·simp [h0]at hd;simp [h0,ah,hd]
theorem uG {ts:List br}{x1 x2:PV}{t st:Int}(ht:t<ts.length)(hst:st≠0)(hH:0<H.length):
  aN KC (aF KC) 121 [.pure (.agg [x1,x2, .slice (ts.map br.row)]), .pure (.int .i64 t), .pure (.int .i64 st)] c H=some (.pure (.bool (eF ts t st)),H):=eC rfl rfl rfl rfl rfl hH fun H hH=>Ee ht hst hH
def bD:aI:=⟨0,0⟩
def dU (hs:List aI)(aR:Nat):Int:=if (hs.getD aR bD).l= -1 then 0 else if (hs.getD aR bD).r= -1 then 1 else-1
theorem sJ {hs:List aI}{x1 x2:PV}{aR:Nat}(hw:aR<hs.length)(hl:hs.length≤1000000)(hH:0<H.length):
  bJ KC (aF KC) 85 [.pure (.agg [x1, .slice (hs.map aI.row),x2]), .pure (.int .i64 aR)] c H=some (.pure (.int .i64 (dU hs aR)),H):=by
 refine aM (aK KC aw Tryz.func85 rfl rfl So (by simp) hH ?_);have hg:hs.getD aR bD=hs[aR]:=(by simp [List.getD_eq_getElem?_getD,hw]);have hd:dU hs aR=if hs[aR].l= -1 then 0 else if hs[aR].r= -1 then 1 else-1:=(by unfold dU;rw [hg]);have w2:IntKind.i64.wrap 2=2:=rfl;simp;apply az;conv=>arg 4;whnf
 by_cases h1:hs[aR].l= -1
 ·simp [h1]at hd;simp [hw,aI.row,h1,ah,hd]
 ·have h1':(hs[aR].l== -1)=false:=(by simpa using h1);simp [h1]at hd;simp [hw,aI.row,h1'];apply az;conv=>arg 4;whnf
  by_cases h2:hs[aR].r= -1
  ·simp [h2]at hd;simp [hw,aI.row,h2,ah,hd]
  ·have h2':(hs[aR].r== -1)=false:=(by simpa using h2);simp [h2]at hd;simp [hw,aI.row,h2',w2];apply az;conv=>arg 4;whnf
   simp [ah,hd]
theorem xD {hs:List aI}{x1 x2:PV}{aR:Nat}(hw:aR<hs.length)(hl:hs.length≤1000000)(hH:0<H.length):
  aN KC (aF KC) 85 [.pure (.agg [x1, .slice (hs.map aI.row),x2]), .pure (.int .i64 aR)] c H=some (.pure (.int .i64 (dU hs aR)),H):=eC rfl rfl rfl rfl rfl hH fun H hH=>sJ hw hl hH
end
section
variable {c:Nat} {H:ai}
def bC (s:ay)(w:Nat)(hand:Int):Int:=if hand=0 then (s.ao.getD w bD).l else (s.ao.getD w bD).r
def cA:a8:=⟨0,0,0,0,false⟩
noncomputable def bV:aC→ay→Nat→au→Bool:=ov fun r s w a=>
 if a.kind=1 then !(s.ae.contains a.cell) && jz r.wide (s.ae.getD w 0) a.cell
 else if a.kind=2 then bC s w a.hand== -1 && (s.aa.getD a.bf.toNat aQ).cell==s.ae.getD w 0
 else if a.kind=3 then decide (0≤bC s w a.hand)
 else if a.kind=4 then decide (0≤bC s w a.hand) && jz r.wide (s.ae.getD w 0) (s.ae.getD a.other.toNat 0) && decide (0≤dU s.ao a.other.toNat)
 else if a.kind=5 then decide (0≤bC s w a.hand) && (r.aa.getD (bC s w a.hand).toNat cA).mI && decide (0≤bC s w (1-a.hand))
 else if a.kind=6 then eF s.aa (bC s w a.hand) 2 && !eF s.aa (bC s w a.hand) 4 && decide (0≤bC s w (1-a.hand)) && !eF s.aa (bC s w (1-a.hand)) 2 && !eF s.aa (bC s w (1-a.hand)) 4
 else if a.kind=7 then decide (0≤bC s w a.hand) && !eF s.aa (bC s w a.hand) 4
 else eF s.aa (bC s w a.hand) 4
theorem cT (r:aC)(s:ay)(w:Nat)(a:au):bV r s w a=
 if a.kind=1 then !(s.ae.contains a.cell) && jz r.wide (s.ae.getD w 0) a.cell
 else if a.kind=2 then bC s w a.hand== -1 && (s.aa.getD a.bf.toNat aQ).cell==s.ae.getD w 0
 else if a.kind=3 then decide (0≤bC s w a.hand)
 else if a.kind=4 then decide (0≤bC s w a.hand) && jz r.wide (s.ae.getD w 0) (s.ae.getD a.other.toNat 0) && decide (0≤dU s.ao a.other.toNat)
 else if a.kind=5 then decide (0≤bC s w a.hand) && (r.aa.getD (bC s w a.hand).toNat cA).mI && decide (0≤bC s w (1-a.hand))
 else if a.kind=6 then eF s.aa (bC s w a.hand) 2 && !eF s.aa (bC s w a.hand) 4 && decide (0≤bC s w (1-a.hand)) && !eF s.aa (bC s w (1-a.hand)) 2 && !eF s.aa (bC s w (1-a.hand)) 4
 else if a.kind=7 then decide (0≤bC s w a.hand) && !eF s.aa (bC s w a.hand) 4
 else eF s.aa (bC s w a.hand) 4:=by rw [bV,cN]
def c7 (s:ay):dB:= .box [.pure (.slice (s.ae.map aD)), .pure (.slice (s.ao.map aI.row)), .pure (.slice (s.aa.map br.row))]
theorem vw (r:aC) (s:ay) (hl:s.ae.length≤1000000) (cell q1 q2 kind hand bf other q3 q4:Int) (Q:GX→bM→Prop) (fr:Fr)
  (hfr:fr=[(3,aX r),(4,c7 s),(5, .box [.pure (.int .i64 q1), .pure (.int .i64 q2), .pure (.int .i64 kind), .pure (.int .i64 hand), .pure (.int .i64 bf), .pure (.int .i64 cell), .pure (.int .i64 other), .pure (.int .i64 q3), .pure (.int .i64 q4)])]):
  ∀k i:Nat,i+k=s.ae.length→
  ((s.ae.drop i).contains cell=false→Q (.exit 1) ⟨[(3, .aA (H.length,3) 0),(4, .aA (H.length,4) 0),(5, .aA (H.length,5) 0),(6,aO)],fr::H,165⟩)→
  ((s.ae.drop i).contains cell=true→Q .ret ⟨[(3, .aA (H.length,3) 0),(4, .aA (H.length,4) 0),(5, .aA (H.length,5) 0),(6, .pure (.bool false))],fr::H,165⟩)→
  gZ KC aw 84 (lp Tryz.f84 0) [3,4,5,9] [3,4,5,6] Q
   [(3, .aA (H.length,3) 0),(4, .aA (H.length,4) 0),(5, .aA (H.length,5) 0),(9, .pure (.int .i64 i))] (fr::H) 165:=by
 subst hfr;intro k
 induction k with
 |zero=>
  intro i hi h1 h2;have e1:s.ae.drop i=[]:=List.drop_of_length_le (by omega);rw [e1]at h1;apply az;conv=>arg 4;whnf
  have: ¬i<s.ae.length:=(by omega);simp [this,aX,c7];simpa [aX,c7]using h1 rfl
 |succ k ih=>
  intro i hi h1 h2;have hia:i<s.ae.length:=(by omega);have hw:=c8 (x:=(i:Int)+1) (by omega) (by omega);have ih':=ih (i+1) (by omega);rw [List.drop_eq_getElem_cons hia,List.contains_cons]at h1 h2;apply az;conv=>arg 4;whnf
  by_cases he:s.ae[i]=cell
  ·have ht:(cell==s.ae[i]||(s.ae.drop (i+1)).contains cell)=true:=(by simp [he]);simp [hia,aX,c7,aD,he];simpa [aX,c7]using h2 ht
  ·have he':(s.ae[i]==cell)=false:=(by simpa using he);have he2:(cell==s.ae[i])=false:=(by simpa using fun h=>he h.symm);rw [he2,Bool.false_or]at h1 h2;simp [hia,aX,c7,aD,he',hw];simpa [aX,c7,aD]using ih' h1 h2
theorem yU {r:aC} {s:ay} {w:Nat} {q1 kind bf cell other q3 q4:Int} (hw:w<s.ae.length) (hwh:w<s.ao.length) (hhl:s.ao.length≤1000000) (hpl:s.ae.length≤1000000) (hwide:r.wide≠0)
  (hL: ∀h:w<s.ao.length,s.ao[w].l<s.aa.length∧s.ao[w].r<s.aa.length∧ -1≤s.ao[w].l∧ -1≤s.ao[w].r) (htl:s.aa.length=r.aa.length)
  (h2:kind=2→ ∃t:Nat,bf=t∧t<s.aa.length) (h4:kind=4→ ∃o:Nat,other=o∧o<s.ae.length∧o<s.ao.length) (hH:0<H.length):
  bJ KC (aF KC) 84 [.pure (.agg r.row), .pure (.agg s.row), .pure (.agg [.int .i64 q1, .int .i64 w, .int .i64 kind, .int .i64 0, .int .i64 bf, .int .i64 cell, .int .i64 other, .int .i64 q3, .int .i64 q4])] c H=
   some (.pure (.bool (bV r s w ⟨q1,w,kind,0,bf,cell,other,q3,q4⟩)),H):=by
 refine aM (aK KC aw Tryz.func84 rfl rfl Ic (by simp) hH ?_);have hd:=cT r s w ⟨q1,w,kind,0,bf,cell,other,q3,q4⟩;obtain⟨l1,l2,l3,l4⟩:=hL hwh;have hg:s.ao.getD w bD=s.ao[w]:=(by simp [List.getD_eq_getElem?_getD,hwh]);have hp:s.ae.getD w 0=s.ae[w]:=(by simp [List.getD_eq_getElem?_getD,hw]);have e1:bC s w 0=s.ao[w].l:=(by unfold bC;rw [hg];simp);have e2:bC s w (1-0)=s.ao[w].r:=(by unfold bC;rw [hg];simp);simp only [e1,e2,hp]at hd;have wr:IntKind.i64.wrap (1-0)=1:=rfl;rw [gK];simp only [ay.row];have sw:(1:Int)-0=1:=rfl;by_cases k1:kind=1
 ·subst k1;rw [if_pos rfl]at hd;simp [hw,hwh,aI.row,wr];have L:=fun Q=>vw (H:=H) r s hpl cell q1 w 1 0 bf other q3 q4 Q _ rfl s.ae.length 0 (by omega);simp only [aX,c7]at L;refine L _ (fun z=> ?_) (fun z=> ?_)
  ·have z':s.ae.contains cell=false:=(by simpa using z);rw [z',Bool.not_false,Bool.true_and]at hd;simp [hw,hwide,aD,mQ,ah,hd]
  ·have z':s.ae.contains cell=true:=(by simpa using z);rw [z',Bool.not_true,Bool.false_and]at hd;simp [ah,hd]
 have k1':(kind==1)=false:=(by simpa using k1);by_cases k2:kind=2
 ·subst k2;obtain⟨t,rfl,ht⟩:=h2 rfl;have hgt:s.aa.getD t aQ=s.aa[t]:=(by simp [List.getD_eq_getElem?_getD,ht]);simp [hgt]at hd;by_cases z1:s.ao[w].l= -1
  ·simp [z1]at hd;simp [hw,hwh,aI.row,wr,z1,ht,br.row,aD,ah,hd]
  ·have z1':(s.ao[w].l== -1)=false:=(by simpa using z1);simp [z1']at hd;simp [hw,hwh,aI.row,wr,z1',ah,hd]
 have k2':(kind==2)=false:=(by simpa using k2);by_cases k3:kind=3
 ·subst k3;simp at hd;simp [hw,hwh,aI.row,wr,ah,hd]
 have k3':(kind==3)=false:=(by simpa using k3);by_cases k4:kind=4
 ·subst k4;obtain⟨o,rfl,ho,ho2⟩:=h4 rfl;have hgo:s.ae.getD o 0=s.ae[o]:=(by simp [List.getD_eq_getElem?_getD,ho]);simp [hgo]at hd;by_cases z1:0≤s.ao[w].l
  ·cases z2:jz r.wide s.ae[w] s.ae[o]with
   |true=>
    simp [z1,z2]at hd;simp [hw,hwh,aI.row,wr,z1,ho,aD,mQ,hwide,z2,xD,ho2,hhl,ah,hd]
   |false=>
    simp [z1,z2]at hd;simp [hw,hwh,aI.row,wr,z1,ho,aD,mQ,hwide,z2,ah,hd]
  ·simp [z1]at hd;simp [hw,hwh,aI.row,wr,z1,ah,hd]
 have k4':(kind==4)=false:=(by simpa using k4);by_cases k5:kind=5
 ·subst k5;simp at hd;by_cases z1:0≤s.ao[w].l
  ·have n1: ¬s.ao[w].l<0:=(by omega);have n2:(s.ao[w].l).toNat<r.aa.length:=(by omega);have hgt:r.aa[(s.ao[w].l).toNat]?.getD cA=r.aa[(s.ao[w].l).toNat]:=(by simp [n2]);rw [hgt]at hd
   cases z2:r.aa[(s.ao[w].l).toNat].mI with
   |true=>
    simp [z1,z2]at hd;simp [hw,hwh,aI.row,wr,z1,n1,n2,a8.row,z2,ah,hd]
   |false=>
    simp [z1,z2]at hd;simp [hw,hwh,aI.row,wr,z1,n1,n2,a8.row,z2,ah,hd]
  ·simp [z1]at hd;simp [hw,hwh,aI.row,wr,z1,ah,hd]
 have k5':(kind==5)=false:=(by simpa using k5);by_cases k6:kind=6
 ·subst k6;simp at hd;have P:=fun(t st:Int) (ht:t<s.aa.length) (hst:st≠0) (c:Nat) (H:ai) (hH:0<H.length)=>uG (c:=c) (H:=H) (ts:=s.aa) (x1:= .slice (s.ae.map aD)) (x2:= .slice (s.ao.map aI.row)) ht hst hH
  cases z1:eF s.aa s.ao[w].l 2 with
  |false=>
   simp [z1]at hd;simp [hw,hwh,aI.row,wr,P,l1,l2,z1,ah,hd]
  |true=>
  cases z2:eF s.aa s.ao[w].l 4 with
  |true=>
   simp [z1,z2]at hd;simp [hw,hwh,aI.row,wr,P,l1,l2,z1,z2,ah,hd]
  |false=>
  by_cases z3:0≤s.ao[w].r
  ·cases z4:eF s.aa s.ao[w].r 2 with
   |true=>
    simp [z1,z2,z3,z4]at hd;simp [hw,hwh,aI.row,wr,P,l1,l2,z1,z2,z3,z4,ah,hd]
   |false=>
    simp [z1,z2,z3,z4]at hd;simp [hw,hwh,aI.row,wr,P,l1,l2,z1,z2,z3,z4,ah,hd]
  ·simp [z1,z2,z3]at hd;simp [hw,hwh,aI.row,wr,P,l1,l2,z1,z2,z3,ah,hd]
 have k6':(kind==6)=false:=(by simpa using k6);have P:=fun(t st:Int) (ht:t<s.aa.length) (hst:st≠0) (c:Nat) (H:ai) (hH:0<H.length)=>uG (c:=c) (H:=H) (ts:=s.aa) (x1:= .slice (s.ae.map aD)) (x2:= .slice (s.ao.map aI.row)) ht hst hH;by_cases k7:kind=7
 ·subst k7;simp at hd;by_cases z1:0≤s.ao[w].l
  ·simp [z1]at hd;simp [hw,hwh,aI.row,wr,P,l1,l2,z1,ah,hd]
  ·simp [z1]at hd;simp [hw,hwh,aI.row,wr,z1,ah,hd]
 have k7':(kind==7)=false:=(by simpa using k7);simp only [k1,k2,k3,k4,k5,k6,k7,if_false]at hd;simp [hw,hwh,aI.row,wr,P,l1,l2,k1',k2',k3',k4',k5',k6',k7',ah,hd]
theorem yV {r:aC} {s:ay} {w:Nat} {q1 kind bf cell other q3 q4:Int} (hw:w<s.ae.length) (hwh:w<s.ao.length) (hhl:s.ao.length≤1000000) (hpl:s.ae.length≤1000000) (hwide:r.wide≠0)
  (hL: ∀h:w<s.ao.length,s.ao[w].l<s.aa.length∧s.ao[w].r<s.aa.length∧ -1≤s.ao[w].l∧ -1≤s.ao[w].r) (htl:s.aa.length=r.aa.length)
  (h2:kind=2→ ∃t:Nat,bf=t∧t<s.aa.length) (h4:kind=4→ ∃o:Nat,other=o∧o<s.ae.length∧o<s.ao.length) (hH:0<H.length):
  bJ KC (aF KC) 84 [.pure (.agg r.row), .pure (.agg s.row), .pure (.agg [.int .i64 q1, .int .i64 w, .int .i64 kind, .int .i64 1, .int .i64 bf, .int .i64 cell, .int .i64 other, .int .i64 q3, .int .i64 q4])] c H=
   some (.pure (.bool (bV r s w ⟨q1,w,kind,1,bf,cell,other,q3,q4⟩)),H):=by
 refine aM (aK KC aw Tryz.func84 rfl rfl Ic (by simp) hH ?_);have hd:=cT r s w ⟨q1,w,kind,1,bf,cell,other,q3,q4⟩;obtain⟨l1,l2,l3,l4⟩:=hL hwh;have hg:s.ao.getD w bD=s.ao[w]:=(by simp [List.getD_eq_getElem?_getD,hwh]);have hp:s.ae.getD w 0=s.ae[w]:=(by simp [List.getD_eq_getElem?_getD,hw]);have e1:bC s w 1=s.ao[w].r:=(by unfold bC;rw [hg];simp);have e2:bC s w (1-1)=s.ao[w].l:=(by unfold bC;rw [hg];simp);simp only [e1,e2,hp]at hd;have wr:IntKind.i64.wrap (1-1)=0:=rfl;rw [gK];simp only [ay.row];have sw:(1:Int)-1=0:=rfl;by_cases k1:kind=1
 ·subst k1;rw [if_pos rfl]at hd;simp [hw,hwh,aI.row,wr];have L:=fun Q=>vw (H:=H) r s hpl cell q1 w 1 1 bf other q3 q4 Q _ rfl s.ae.length 0 (by omega);simp only [aX,c7]at L;refine L _ (fun z=> ?_) (fun z=> ?_)
  ·have z':s.ae.contains cell=false:=(by simpa using z);rw [z',Bool.not_false,Bool.true_and]at hd;simp [hw,hwide,aD,mQ,ah,hd]
  ·have z':s.ae.contains cell=true:=(by simpa using z);rw [z',Bool.not_true,Bool.false_and]at hd;simp [ah,hd]
 have k1':(kind==1)=false:=(by simpa using k1);by_cases k2:kind=2
 ·subst k2;obtain⟨t,rfl,ht⟩:=h2 rfl;have hgt:s.aa.getD t aQ=s.aa[t]:=(by simp [List.getD_eq_getElem?_getD,ht]);simp [hgt]at hd;by_cases z1:s.ao[w].r= -1
  ·simp [z1]at hd;simp [hw,hwh,aI.row,wr,z1,ht,br.row,aD,ah,hd]
  ·have z1':(s.ao[w].r== -1)=false:=(by simpa using z1);simp [z1']at hd;simp [hw,hwh,aI.row,wr,z1',ah,hd]
 have k2':(kind==2)=false:=(by simpa using k2);by_cases k3:kind=3
 ·subst k3;simp at hd;simp [hw,hwh,aI.row,wr,ah,hd]
 have k3':(kind==3)=false:=(by simpa using k3);by_cases k4:kind=4
 ·subst k4;obtain⟨o,rfl,ho,ho2⟩:=h4 rfl;have hgo:s.ae.getD o 0=s.ae[o]:=(by simp [List.getD_eq_getElem?_getD,ho]);simp [hgo]at hd;by_cases z1:0≤s.ao[w].r
  ·cases z2:jz r.wide s.ae[w] s.ae[o]with
   |true=>
    simp [z1,z2]at hd;simp [hw,hwh,aI.row,wr,z1,ho,aD,mQ,hwide,z2,xD,ho2,hhl,ah,hd]
   |false=>
    simp [z1,z2]at hd;simp [hw,hwh,aI.row,wr,z1,ho,aD,mQ,hwide,z2,ah,hd]
  ·simp [z1]at hd;simp [hw,hwh,aI.row,wr,z1,ah,hd]
 have k4':(kind==4)=false:=(by simpa using k4);by_cases k5:kind=5
 ·subst k5;simp at hd;by_cases z1:0≤s.ao[w].r
  ·have n1: ¬s.ao[w].r<0:=(by omega);have n2:(s.ao[w].r).toNat<r.aa.length:=(by omega);have hgt:r.aa[(s.ao[w].r).toNat]?.getD cA=r.aa[(s.ao[w].r).toNat]:=(by simp [n2]);rw [hgt]at hd
   cases z2:r.aa[(s.ao[w].r).toNat].mI with
   |true=>
    simp [z1,z2]at hd;simp [hw,hwh,aI.row,wr,z1,n1,n2,a8.row,z2,ah,hd]
   |false=>
    simp [z1,z2]at hd;simp [hw,hwh,aI.row,wr,z1,n1,n2,a8.row,z2,ah,hd]
  ·simp [z1]at hd;simp [hw,hwh,aI.row,wr,z1,ah,hd]
 have k5':(kind==5)=false:=(by simpa using k5);by_cases k6:kind=6
 ·subst k6;simp at hd;have P:=fun(t st:Int) (ht:t<s.aa.length) (hst:st≠0) (c:Nat) (H:ai) (hH:0<H.length)=>uG (c:=c) (H:=H) (ts:=s.aa) (x1:= .slice (s.ae.map aD)) (x2:= .slice (s.ao.map aI.row)) ht hst hH
  cases z1:eF s.aa s.ao[w].r 2 with
  |false=>
   simp [z1]at hd;simp [hw,hwh,aI.row,wr,P,l1,l2,z1,ah,hd]
  |true=>
  cases z2:eF s.aa s.ao[w].r 4 with
  |true=>
   simp [z1,z2]at hd;simp [hw,hwh,aI.row,wr,P,l1,l2,z1,z2,ah,hd]
  |false=>
  by_cases z3:0≤s.ao[w].l
  ·cases z4:eF s.aa s.ao[w].l 2 with
   |true=>
    simp [z1,z2,z3,z4]at hd;simp [hw,hwh,aI.row,wr,P,l1,l2,z1,z2,z3,z4,ah,hd]
   |false=>
    simp [z1,z2,z3,z4]at hd;simp [hw,hwh,aI.row,wr,P,l1,l2,z1,z2,z3,z4,ah,hd]
  ·simp [z1,z2,z3]at hd;simp [hw,hwh,aI.row,wr,P,l1,l2,z1,z2,z3,ah,hd]
 have k6':(kind==6)=false:=(by simpa using k6);have P:=fun(t st:Int) (ht:t<s.aa.length) (hst:st≠0) (c:Nat) (H:ai) (hH:0<H.length)=>uG (c:=c) (H:=H) (ts:=s.aa) (x1:= .slice (s.ae.map aD)) (x2:= .slice (s.ao.map aI.row)) ht hst hH;by_cases k7:kind=7
 ·subst k7;simp at hd;by_cases z1:0≤s.ao[w].r
  ·simp [z1]at hd;simp [hw,hwh,aI.row,wr,P,l1,l2,z1,ah,hd]
  ·simp [z1]at hd;simp [hw,hwh,aI.row,wr,z1,ah,hd]
 have k7':(kind==7)=false:=(by simpa using k7);simp only [k1,k2,k3,k4,k5,k6,k7,if_false]at hd;simp [hw,hwh,aI.row,wr,P,l1,l2,k1',k2',k3',k4',k5',k6',k7',ah,hd]
end
section
variable {c:Nat} {H:ai}
def bW (aR kind hand bf cell other:Int):au:=⟨0,aR,kind,hand,bf,cell,other,0,0⟩
def gS (aR:Int)(k i:Nat):List au:=(List.range' i k).map fun(x:Nat)=>bW aR 1 0 0 x 0
def ig (aR hand:Int)(k i:Nat):List au:=(List.range' i k).map fun(x:Nat)=>bW aR 2 hand x 0 0
def gd (aR hand:Int)(k i:Nat):List au:=((List.range' i k).filter fun(x:Nat)=> !((x:Int)==aR)).map fun(x:Nat)=>bW aR 4 hand 0 0 x
def gC (nt np:Nat)(aR:Int)(kind:Nat)(hand:Int):List au:=if kind=2 then ig aR hand nt 0 else if kind=4 then gd aR hand np 0 else [bW aR kind hand 0 0 0]
def oc (nt np:Nat)(aR:Int)(kind:Nat):List au:=gC nt np aR kind 0++gC nt np aR kind 1
def eJ (nt np:Nat)(aR:Int)(k i:Nat):List au:=(List.range' i k).flatMap (oc nt np aR)
def bK (n nt np:Nat)(aR:Int):List au:=gS aR n 0++eJ nt np aR 7 2
theorem qm (aR:Int)(k i:Nat):gS aR (k+1) i=bW aR 1 0 0 i 0::gS aR k (i+1):=by simp [gS,List.range'_succ]
theorem tD (aR hand:Int)(k i:Nat):ig aR hand (k+1) i=bW aR 2 hand i 0 0::ig aR hand k (i+1):=by simp [ig,List.range'_succ]
theorem oN (aR hand:Int)(k i:Nat):gd aR hand (k+1) i=if (i:Int)=aR then gd aR hand k (i+1)else bW aR 4 hand 0 0 i::gd aR hand k (i+1):=by
 by_cases h:(i:Int)=aR
 ·simp [gd,List.range'_succ,h]
 ·simp [gd,List.range'_succ,h]
theorem oO (nt np:Nat)(aR:Int)(k i:Nat):eJ nt np aR (k+1) i=oc nt np aR i++eJ nt np aR k (i+1):=by simp [eJ,List.range'_succ]
theorem Cs (aR hand:Int)(k i:Nat):(ig aR hand k i).length=k:=by simp [ig]
theorem Ct (aR hand:Int)(k i:Nat):(gd aR hand k i).length≤k:=by
 simp only [gd,List.length_map];exact Nat.le_trans (List.length_filter_le _ _) (by simp)
theorem sK (nt np:Nat)(aR:Int)(kind:Nat)(hand:Int):(gC nt np aR kind hand).length≤nt+np+1:=by
 have:=Ct aR hand np 0;have:=Cs aR hand nt 0;unfold gC;split
 ·omega
 ·split
  ·omega
  ·simp
theorem xE (nt np:Nat)(aR:Int)(kind:Nat):(oc nt np aR kind).length≤2*(nt+np+1):=by
 have:=sK nt np aR kind 0;have:=sK nt np aR kind 1;simp only [oc,List.length_append];omega
def qn (r:aC)(l:List au):Fr:=[(2,aX r),(26, .arr 9 (l.map au.row) 0 false)]
def qo (L:Nat)(l:List au):GV:= .bd (L,26) 9 l.length 0 l.length
theorem Ld (r:aC)(aR hand:Int)(nt:Nat)(hnt:r.aa.length=nt)(hb:nt≤1000000)(Q:GX→bM→Prop): ∀(k i:Nat) (l:List au) (x:Int),i+k=nt→l.length+k≤100000000→
  (∀y,Q (.exit 7) ⟨[(1, .pure (.int .i64 aR)),(2, .aA (H.length,2) 0),(5,qo H.length (l++ig aR hand k i)),(7, .pure (.int .i64 2)),(8, .pure (.int .i64 hand))],[(9,bU (bW aR 2 hand y 0 0))]::[]::qn r (l++ig aR hand k i)::H,78⟩)→
  gZ KC aw 25 (lp Tryz.f25 3) [1,2,5,7,8,9,10] [1,2,5,7,8] Q
   [(1, .pure (.int .i64 aR)),(2, .aA (H.length,2) 0),(5,qo H.length l),(7, .pure (.int .i64 2)),(8, .pure (.int .i64 hand)),(9, .aA (H.length+2,9) 0),(10, .pure (.int .i64 i))]
   ([(9,bU (bW aR 2 hand x 0 0))]::[]::qn r l::H) 78:=by
 intro k
 induction k with
 |zero=>
  intro i l x hi hl h1;have e0:ig aR hand 0 i=[]:=rfl;rw [e0,List.append_nil]at h1;have: ¬i<nt:=(by omega);apply az;conv=>arg 4;whnf
  simp [qn,qo,aX,bU,bW,hnt,this];simpa [qn,qo,aX,bU,bW]using h1 x
 |succ k ih=>
  intro i l x hi hl h1;have hia:i<nt:=(by omega);have hw:=c8 (x:=(i:Int)+1) (by omega) (by omega);rw [tD]at h1;have ih':=ih (i+1) (l++[bW aR 2 hand i 0 0]) i (by omega) (by simp;omega);simp only [List.append_assoc,List.singleton_append]at ih';have hb2:(l.length+1)*72≤1099511627776:=(by omega);apply az;conv=>arg 4;whnf
  simp [qn,qo,aX,bU,bW,hnt,hia,hw,hb2];have:=ih' h1;simpa [qn,qo,aX,bU,bW,au.row]using this
theorem Le (r:aC)(aR hand:Int)(np:Nat)(hnp:r.ae.length=np)(hb:np≤1000000)(Q:GX→bM→Prop): ∀(k i:Nat) (l:List au) (x:Int),i+k=np→l.length+k≤100000000→l≠[]→
  (∀y,Q (.exit 9) ⟨[(1, .pure (.int .i64 aR)),(2, .aA (H.length,2) 0),(5,qo H.length (l++gd aR hand k i)),(7, .pure (.int .i64 4)),(8, .pure (.int .i64 hand))],[(9,bU (bW aR 4 hand 0 0 y))]::[]::qn r (l++gd aR hand k i)::H,78⟩)→
  gZ KC aw 25 (lp Tryz.f25 4) [1,2,5,7,8,9,11] [1,2,5,7,8] Q
   [(1, .pure (.int .i64 aR)),(2, .aA (H.length,2) 0),(5,qo H.length l),(7, .pure (.int .i64 4)),(8, .pure (.int .i64 hand)),(9, .aA (H.length+2,9) 0),(11, .pure (.int .i64 i))]
   ([(9,bU (bW aR 4 hand 0 0 x))]::[]::qn r l::H) 78:=by
 intro k
 induction k with
 |zero=>
  intro i l x hi hl hne h1;have e0:gd aR hand 0 i=[]:=rfl;rw [e0,List.append_nil]at h1;have: ¬i<np:=(by omega);apply az;conv=>arg 4;whnf
  simp [qn,qo,aX,bU,bW,hnp,this];simpa [qn,qo,aX,bU,bW]using h1 x
 |succ k ih=>
  intro i l x hi hl hne h1;have hia:i<np:=(by omega);have hw:=c8 (x:=(i:Int)+1) (by omega) (by omega);rw [oN]at h1;have hb2:(l.length+1)*72≤1099511627776:=(by omega);by_cases hwho:(i:Int)=aR
  ·rw [if_pos hwho]at h1;have ih':=ih (i+1) l i (by omega) (by omega) hne h1;apply az;conv=>arg 4;whnf
   have hwho':((i:Int)==aR)=true:=(by simpa using hwho);simp [qn,qo,aX,bU,bW,hnp,hia,hw,hb2,bne,hwho'];simpa [qn,qo,aX,bU,bW,au.row]using ih'
  ·rw [if_neg hwho]at h1;have ih':=ih (i+1) (l++[bW aR 4 hand 0 0 i]) i (by omega) (by simp;omega) (by simp);simp only [List.append_assoc,List.singleton_append]at ih';have hwho':((i:Int)==aR)=false:=(by simpa using hwho);apply az;conv=>arg 4;whnf
   simp [qn,qo,aX,bU,bW,hnp,hia,hw,hb2,bne,hwho'];have:=ih' h1;simpa [qn,qo,aX,bU,bW,au.row]using this
theorem Ef (r:aC) (aR hand:Int) (kind:Nat) (hh:hand=0∨hand=1) (hk:2≤kind∧kind≤8) (nt np:Nat) (hnt:r.aa.length=nt) (hnp:r.ae.length=np) (hb1:nt≤1000000) (hb2:np≤1000000)
  (Q:GX→bM→Prop) (l:List au) (hl:l.length≤50000000) (hne:l≠[])
  (h:gZ KC aw 25 (lp Tryz.f25 2) [1,2,5,7,8] [1,2,5,7] Q
   [(1, .pure (.int .i64 aR)),(2, .aA (H.length,2) 0),(5,qo H.length (l++gC nt np aR kind hand)),(7, .pure (.int .i64 kind)),(8, .pure (.int .i64 (hand+1)))] ([]::qn r (l++gC nt np aR kind hand)::H) 78):
  gZ KC aw 25 (lp Tryz.f25 2) [1,2,5,7,8] [1,2,5,7] Q
   [(1, .pure (.int .i64 aR)),(2, .aA (H.length,2) 0),(5,qo H.length l),(7, .pure (.int .i64 kind)),(8, .pure (.int .i64 hand))] ([]::qn r l::H) 78:=by
 have hw:=c8 (x:=hand+1) (by omega) (by omega);have hlt:hand<2:=(by omega);have hb3:(l.length+1)*72≤1099511627776:=(by omega);have w2:IntKind.i64.wrap 2=2:=rfl;apply az;conv=>arg 4;whnf
 by_cases k2:kind=2
 ·subst k2;have e:gC nt np aR 2 hand=ig aR hand nt 0:=(by simp [gC]);rw [e]at h;have L:=fun Q h=>Ld (H:=H) r aR hand nt hnt hb1 Q nt 0 l 0 (by omega) (by omega) h;simp [qn,qo,aX,bU,bW]at L h;simp [qn,qo,aX,hlt];refine L _ fun y=> ?_;simp [hw];exact h
 ·by_cases k4:kind=4
  ·subst k4;have e:gC nt np aR 4 hand=gd aR hand np 0:=(by simp [gC]);rw [e]at h;have L:=fun Q h=>Le (H:=H) r aR hand np hnp hb2 Q np 0 l 0 (by omega) (by omega) hne h;simp [qn,qo,aX,bU,bW]at L h;simp [qn,qo,aX,hlt];refine L _ fun y=> ?_;simp [hw];exact h
  ·have e:gC nt np aR kind hand=[bW aR kind hand 0 0 0]:=(by simp [gC,k2,k4]);rw [e]at h;have k2':((kind:Int)==2)=false:=(by simp;omega);have k4':((kind:Int)==4)=false:=(by simp;omega);simp [qn,qo,aX,bW,au.row]at h;simp [qn,qo,aX,hlt,k2',k4',hb3,hw];exact h
theorem Lf (r:aC) (aR:Int) (kind:Nat) (hk:2≤kind∧kind≤8) (nt np:Nat) (hnt:r.aa.length=nt) (hnp:r.ae.length=np) (hb1:nt≤1000000) (hb2:np≤1000000)
  (Q:GX→bM→Prop) (l:List au) (hl:l.length≤40000000) (hne:l≠[])
  (h:Q (.exit 4) ⟨[(1, .pure (.int .i64 aR)),(2, .aA (H.length,2) 0),(5,qo H.length (l++oc nt np aR kind)),(7, .pure (.int .i64 kind))],[]::qn r (l++oc nt np aR kind)::H,78⟩):
  gZ KC aw 25 (lp Tryz.f25 2) [1,2,5,7,8] [1,2,5,7] Q
   [(1, .pure (.int .i64 aR)),(2, .aA (H.length,2) 0),(5,qo H.length l),(7, .pure (.int .i64 kind)),(8, .pure (.int .i64 0))] ([]::qn r l::H) 78:=by
 have l0:=sK nt np aR kind 0;refine Ef r aR 0 kind (.inl rfl) hk nt np hnt hnp hb1 hb2 Q l (by omega) hne ?_;refine Ef r aR 1 kind (.inr rfl) hk nt np hnt hnp hb1 hb2 Q _ (by simp;omega) (by simp [hne]) ?_;rw [oc,←List.append_assoc]at h;apply az;conv=>arg 4;whnf
 simp [qn,qo]at h⊢;exact h
theorem Lg (r:aC) (aR:Int) (nt np:Nat) (hnt:r.aa.length=nt) (hnp:r.ae.length=np) (hb1:nt≤1000000) (hb2:np≤1000000)
  (Q:GX→bM→Prop): ∀(k i:Nat) (l:List au),i+k=9→2≤i→l.length+5000000*k≤39000000→l≠[]→
  Q (.exit 2) ⟨[(5,qo H.length (l++eJ nt np aR k i))],qn r (l++eJ nt np aR k i)::H,78⟩→
  gZ KC aw 25 (lp Tryz.f25 1) [1,2,5,7] [5] Q
   [(1, .pure (.int .i64 aR)),(2, .aA (H.length,2) 0),(5,qo H.length l),(7, .pure (.int .i64 i))] (qn r l::H) 78:=by
 intro k
 induction k with
 |zero=>
  intro i l hi h2 hl hne h1;have e0:eJ nt np aR 0 i=[]:=rfl;rw [e0,List.append_nil]at h1;have:i=9:=(by omega);subst this;apply az;conv=>arg 4;whnf
  simp [qn,qo]at h1⊢;exact h1
 |succ k ih=>
  intro i l hi h2 hl hne h1;have hw:=c8 (x:=(i:Int)+1) (by omega) (by omega);have hle:(i:Int)≤8:=(by omega);rw [oO,←List.append_assoc]at h1;have lb:=xE nt np aR i;have ih':=ih (i+1) (l++oc nt np aR i) (by omega) (by omega) (by simp;omega) (by simp [hne]) h1;apply az;conv=>arg 4;whnf
  have L:=fun Q h=>Lf (H:=H) r aR i (by omega) nt np hnt hnp hb1 hb2 Q l (by omega) hne h;simp [qn,qo]at L ih';simp [qn,qo,hle];refine L _ ?_;simp [hw];exact ih'
theorem Lh (r:aC)(aR:Int)(n:Nat)(hn:IntKind.i64.wrap (r.wide*r.deep)=n)(hb:n≤1000000)(Q:GX→bM→Prop): ∀(k i:Nat) (l:List au),i+k=n→l.length+k≤1000000→
  Q (.exit 0) ⟨[(1, .pure (.int .i64 aR)),(2, .aA (H.length,2) 0),(5,dh (H.length,26) 9 ((l++gS aR k i).map au.row))],fD 26 9 ((l++gS aR k i).map au.row) [(2,aX r)]::H,78⟩→
  gZ KC aw 25 (lp Tryz.f25 0) [1,2,5,6] [1,2,5] Q
   [(1, .pure (.int .i64 aR)),(2, .aA (H.length,2) 0),(5,dh (H.length,26) 9 (l.map au.row)),(6, .pure (.int .i64 i))] (fD 26 9 (l.map au.row) [(2,aX r)]::H) 78:=by
 intro k
 induction k with
 |zero=>
  intro i l hi hl h1;have e0:gS aR 0 i=[]:=rfl;rw [e0,List.append_nil]at h1;have: ¬i<n:=(by omega);apply az;conv=>arg 4;whnf
  simp [aX,hn,this];simpa [aX]using h1
 |succ k ih=>
  intro i l hi hl h1;have hia:i<n:=(by omega);have hw:=c8 (x:=(i:Int)+1) (by omega) (by omega);rw [qm]at h1;have ih':=ih (i+1) (l++[bW aR 1 0 0 i 0]) (by omega) (by simp;omega);simp only [List.append_assoc,List.singleton_append]at ih';have hb2:(l.length+1)*72≤1099511627776:=(by omega);apply az;conv=>arg 4;whnf
  simp [aX,hn,hia,hw,hb2,Fr.get];have:=ih' h1;simpa [aX,bW,au.row]using this
theorem Ie (r:aC)(aR:Int)(n nt np:Nat)(hn:IntKind.i64.wrap (r.wide*r.deep)=n)(hn0:0<n)(hb:n≤1000000)(hnt:r.aa.length=nt)(hnp:r.ae.length=np)(hb1:nt≤1000000)(hb2:np≤1000000)(hH:0<H.length):
  aN KC (aF KC) 25 [.pure (.agg r.row), .pure (.int .i64 aR)] c H=some (.pure (.slice ((bK n nt np aR).map au.row)),H):=by
 refine aM ?_;rw [show aN KC (aF KC) 25 [.pure (.agg r.row), .pure (.int .i64 aR)] c H=bJ KC (aF KC) 25 [.pure (.agg r.row), .pure (.int .i64 aR)] c H from tr KC rfl rfl rfl]
 refine aK KC aw Tryz.func25 rfl rfl Sp (by simp) hH ?_;rw [gK];simp;have L:=fun Q h=>Lh (H:=H) r aR n hn hb Q n 0 [] (by omega) (by simp;omega) h;simp [gQ,gP,aX]at L;refine L _ ?_;have hne:gS aR n 0≠[]:=by
  obtain⟨m,rfl⟩: ∃m,n=m+1:=⟨n-1,by omega⟩;rw [qm];simp
 have hlen:(gS aR n 0).length=n:=(by simp [gS]);have L2:=fun Q h=>Lg (H:=H) r aR nt np hnt hnp hb1 hb2 Q 7 2 (gS aR n 0) rfl (by omega) (by omega) hne h;simp [qn,qo,aX]at L2;simp [dh,fD,hne,Fr.ins];refine L2 _ ?_;have e:bK n nt np aR=gS aR n 0++eJ nt np aR 7 2:=rfl;have hnl: ¬H.length≤H.length-1:=(by omega);have t1:List.take ((gS aR n 0).length+(eJ nt np aR 7 2).length) (List.map au.row (gS aR n 0)++List.map au.row (eJ nt np aR 7 2))=List.map au.row (gS aR n 0)++List.map au.row (eJ nt np aR 7 2):=List.take_of_length_le (by simp);simp [ah,e,hne,hnl,t1]
end
section
variable {c:Nat} {H:ai}
structure Ff (r:aC)(s:ay):Prop where
 pl:s.ae.length=r.ae.length
 hl:s.ao.length=r.ae.length
 tl:s.aa.length=r.aa.length
 hr: ∀i (h:i<s.ao.length),s.ao[i].l<s.aa.length∧s.ao[i].r<s.aa.length∧ -1≤s.ao[i].l∧ -1≤s.ao[i].r
structure Y7 (np nt w:Nat)(a:au):Prop where
 aR:a.aR=w
 hand:a.hand=0∨a.hand=1
 bf:a.kind=2→ ∃t:Nat,a.bf=t∧t<nt
 other:a.kind=4→ ∃o:Nat,a.other=o∧o<np
theorem Fg {n nt np w:Nat}{a:au}(h:a∈bK n nt np w):Y7 np nt w a:=by
 have one: ∀hand kind:Nat,(hand=0∨hand=1)→a∈gC nt np w kind hand→Y7 np nt w a:=fun hand kind hh ha=>by
  have hh':(hand:Int)=0∨(hand:Int)=1:=(by omega);unfold gC at ha;split at ha
  ·simp only [ig,List.mem_map,List.mem_range']at ha;obtain⟨x,⟨i,hi,rfl⟩,rfl⟩:=ha;exact⟨rfl,hh',fun _=>⟨_,rfl,by omega⟩,fun h=>by simp [bW]at h⟩
  ·split at ha
   ·simp only [gd,List.mem_map,List.mem_filter,List.mem_range']at ha;obtain⟨x,⟨⟨i,hi,rfl⟩,_⟩,rfl⟩:=ha;exact⟨rfl,hh',fun h=>by simp [bW]at h,fun _=>⟨_,rfl,by omega⟩⟩
   ·rename_i k2 k4;simp only [List.mem_singleton]at ha;subst ha;exact⟨rfl,hh',fun h=>by simp [bW]at h;omega,fun h=>by simp [bW]at h;omega⟩
 simp only [bK,List.mem_append]at h;rcases h with h|h
 ·simp only [gS,List.mem_map,List.mem_range']at h;obtain⟨x,⟨i,hi,rfl⟩,rfl⟩:=h;exact⟨rfl, .inl rfl,fun h=>by simp [bW]at h,fun h=>by simp [bW]at h⟩
 ·simp only [eJ,List.mem_flatMap,oc,List.mem_append]at h;obtain⟨k,_,h|h⟩:=h
  ·exact one 0 k (.inl rfl) h
  ·exact one 1 k (.inr rfl) h
theorem vy (n nt np:Nat)(aR:Int):(bK n nt np aR).length≤n+14*(nt+np+1):=by
 have h: ∀k i,(eJ nt np aR k i).length≤k*(2*(nt+np+1)):=by
  intro k
  induction k with
  |zero=>intro i;simp [eJ]
  |succ k ih=>
   intro i;rw [oO,List.length_append,Nat.add_mul];have:=xE nt np aR i;have:=ih (i+1);omega
 have:=h 7 2;simp only [bK,List.length_append,gS,List.length_map,List.length_range'];omega
theorem AG {r:aC}{s:ay}{w:Nat}{a:au}(hs:Ff r s)(hw:w<r.ae.length)(hpl:r.ae.length≤1000000)(hwide:r.wide≠0)(ha:Y7 r.ae.length r.aa.length w a)(hH:0<H.length):
  bJ KC (aF KC) 84 [.pure (.agg r.row), .pure (.agg s.row), .pure (.agg a.row)] c H=some (.pure (.bool (bV r s w a)),H):=by
 obtain⟨q1,aR,kind,hand,bf,cell,other,q3,q4⟩:=a;obtain⟨h1,h2,h3,h4⟩:=ha;simp only at h1 h2 h3 h4;subst h1;have e1:=hs.pl;have e2:=hs.hl;have e3:=hs.tl;rcases h2 with rfl|rfl
 ·exact yU (by omega) (by omega) (by omega) (by omega) hwide (fun h=>hs.hr w h) e3 (fun h=>by obtain⟨t,a,b⟩:=h3 h;exact⟨t,a,by omega⟩) (fun h=>by obtain⟨t,a,b⟩:=h4 h;exact⟨t,a,by omega,by omega⟩) hH
 ·exact yV (by omega) (by omega) (by omega) (by omega) hwide (fun h=>hs.hr w h) e3 (fun h=>by obtain⟨t,a,b⟩:=h3 h;exact⟨t,a,by omega⟩) (fun h=>by obtain⟨t,a,b⟩:=h4 h;exact⟨t,a,by omega,by omega⟩) hH
theorem yW {r:aC}{s:ay}{w:Nat}{a:au}(hs:Ff r s)(hw:w<r.ae.length)(hpl:r.ae.length≤1000000)(hwide:r.wide≠0)(ha:Y7 r.ae.length r.aa.length w a)(hH:0<H.length):
  aN KC (aF KC) 84 [.pure (.agg r.row), .pure (.agg s.row), .pure (.agg a.row)] c H=some (.pure (.bool (bV r s w a)),H):=eC rfl rfl rfl rfl rfl hH fun H hH=>AG hs hw hpl hwide ha hH
noncomputable def eY:aC→ay→Nat→List au→List au:=ov fun r s w l=>l.flatMap fun a=>if bV r s w a=true then (if a.kind=1 then [a]else [a,a,a])else []
theorem qp (r:aC)(s:ay)(w:Nat)(l:List au):eY r s w l=l.flatMap fun a=>if bV r s w a=true then (if a.kind=1 then [a]else [a,a,a])else []:=by rw [eY,cN]
theorem vz (r:aC)(s:ay)(w:Nat):eY r s w []=[]:=by rw [qp];rfl
theorem tF (r:aC)(s:ay)(w:Nat)(a:au)(l:List au):eY r s w (a::l)=(if bV r s w a=true then (if a.kind=1 then [a]else [a,a,a])else [])++eY r s w l:=by simp only [qp,List.flatMap_cons]
theorem Cu {r:aC}{s:ay}{w:Nat}{a:au}{l:List au}(h:a∈eY r s w l):a∈l∧bV r s w a=true:=by
 rw [qp,List.mem_flatMap]at h;obtain⟨x,hx,h⟩:=h;split at h
 ·rename_i hp;split at h
  ·simp at h;subst h;exact⟨hx,hp⟩
  ·simp at h;subst h;exact⟨hx,hp⟩
 ·simp at h
theorem qq (r:aC)(s:ay)(w:Nat): ∀l:List au,(eY r s w l).length≤3*l.length
 | []=>by simp [vz]
 |a::l=>by
  have:=qq r s w l;rw [tF,List.length_append,List.length_cons];split
  ·split<;>simp<;>omega
  ·simp;omega
theorem Sq {key dm es:Nat}{rows:List (List PV)}{fr f0:Fr}{l bytes:Nat}{r r1 r2:List PV}(hl:H.length=l)(hf:fr.get key=none)(hb:(rows.length+1+2)*bytes≤1099511627776):
  zW l dm (dh (l,key) es (rows++[r])) es bytes [r1,r2] (f0::fD key es (rows++[r]) fr::H)=some (dh (l,key) es (rows++[r,r1,r2]),f0::fD key es (rows++[r,r1,r2]) fr::H):=by
 subst hl;simp [dh,fD,hb,Fr.bc,Fr.cP]
def nw (r:aC)(s:ay):Fr:=[(5,aX r),(6,c7 s),(8,bU cI)]
theorem Cv (r:aC)(s:ay)(w:Nat)(hs:Ff r s)(hw:w<r.ae.length)(hpl:r.ae.length≤1000000)(hwide:r.wide≠0)(all:List au)(hall: ∀a∈all,Y7 r.ae.length r.aa.length w a)(hal:all.length≤30000000)(nm:Nm)(hnm:nm.1<H.length)(Q:GX→bM→Prop):
  ∀(k i:Nat) (l:List au),i+k=all.length→l.length≤3*i→
  Q (.exit 0) ⟨[(0, .aA nm 0),(8, .aA (H.length,8) 0),(10,dh (H.length,35) 9 ((l++eY r s w (all.drop i)).map au.row))],fD 35 9 ((l++eY r s w (all.drop i)).map au.row) (nw r s)::H,64⟩→
  gZ KC aw 49 (lp Tryz.f49 0) [0,5,6,8,10,11,12] [0,8,10] Q
   [(0, .aA nm 0),(5, .aA (H.length,5) 0),(6, .aA (H.length,6) 0),(8, .aA (H.length,8) 0),(10,dh (H.length,35) 9 (l.map au.row)),(11, .pure (.slice (all.map au.row))),(12, .pure (.int .i64 i))]
   (fD 35 9 (l.map au.row) (nw r s)::H) 64:=by
 have hle:nm.1≤H.length:=(by omega);intro k
 induction k with
 |zero=>
  intro i l hi hl h1;have e1:all.drop i=[]:=List.drop_of_length_le (by omega);rw [e1,vz,List.append_nil]at h1;have: ¬i<all.length:=(by omega);apply az;conv=>arg 4;whnf
  simp [this,hle];exact h1
 |succ k ih=>
  intro i l hi hl h1;have hia:i<all.length:=(by omega);have hw1:=c8 (x:=(i:Int)+1) (by omega) (by omega);have hev:=hall all[i] (List.getElem_mem hia);have P:=fun(c:Nat) (H:ai) (hH:0<H.length)=>yW (c:=c) (H:=H) hs hw hpl hwide hev hH;simp only [gK,ay.row,au.row]at P;rw [List.drop_eq_getElem_cons hia,tF,←List.append_assoc]at h1;apply az;conv=>arg 4;whnf
  cases hp:bV r s w all[i]with
  |false=>
   simp only [hp,Bool.false_eq_true,if_false,List.append_nil]at h1;have ih':=ih (i+1) l (by omega) (by omega) h1;simp [nw,aX,c7,bU,hia,au.row,P,hp,hw1,hle,Fr.get];simpa [nw,aX,c7,bU,au.row]using ih'
  |true=>
   have hb:(l.length+1)*72≤1099511627776:=(by omega);have hl4:l.length+3≤90000003:=(by omega);have hb2:(l.length+1+2)*72≤1099511627776:=Nat.le_trans (Nat.mul_le_mul_right 72 (show l.length+1+2≤90000003 from hl4)) (by decide)
   have hi1:(i+1)+k=all.length:=(by omega);have hl1:(l++[all[i]]).length≤3*(i+1):=(by simp;omega);have hl3:(l++[all[i],all[i],all[i]]).length≤3*(i+1):=(by simp;omega);by_cases hk:all[i].kind=1
   ·simp only [hp,hk,if_true]at h1;have ih':=ih (i+1) (l++[all[i]]) hi1 hl1 h1;have hk':(all[i].kind==1)=true:=(by simpa using hk);simp [nw,aX,c7,bU,hia,au.row,P,hp,hw1,hle,hb,bne,hk',Fr.get];simpa [nw,aX,c7,bU,au.row]using ih'
   ·have hk':(all[i].kind==1)=false:=(by simpa using hk);simp only [hp,hk,if_true,if_false]at h1;have ih':=ih (i+1) (l++[all[i],all[i],all[i]]) hi1 hl3 h1;simp [nw,aX,c7,bU,hia,au.row,P,hp,hw1,hle,hb,bne,hk',Fr.get,Sq,hb2];simpa [nw,aX,c7,bU,au.row]using ih'
noncomputable def gf:aC→ay→Nat→List au→Int→(au×Bool)×Int:=ov fun r s w all wd=>
 if eY r s w all=[]then ((cI,false),wd)else (((eY r s w all).getD (lj wd (eY r s w all).length).1.toNat cI,true),(lj wd (eY r s w all).length).2)
theorem vA (r:aC)(s:ay)(w:Nat)(all:List au)(wd:Int):gf r s w all wd=
 if eY r s w all=[]then ((cI,false),wd)else (((eY r s w all).getD (lj wd (eY r s w all).length).1.toNat cI,true),(lj wd (eY r s w all).length).2):=by rw [gf,cN]
theorem Ig (r:aC)(s:ay)(w n:Nat)(hs:Ff r s)(hw:w<r.ae.length)(hpl:r.ae.length≤1000000)(htl:r.aa.length≤1000000)(hwide:r.wide≠0)(hn:IntKind.i64.wrap (r.wide*r.deep)=n)(hn0:0<n)(hnb:n≤1000000){nm:Nm}(hB:fI H nm):
  bJ KC (aF KC) 49 [.aA nm 0, .pure (.agg r.row), .pure (.agg s.row), .pure (.int .i64 w)] c H=
   some (.pure (.tuple [.agg (gf r s w (bK n r.aa.length r.ae.length w) (bE H nm)).1.1.row, .bool (gf r s w (bK n r.aa.length r.ae.length w) (bE H nm)).1.2]),H.set nm (bw (gf r s w (bK n r.aa.length r.ae.length w) (bE H nm)).2)):=by
 have hlt:=gE hB;have hset:=jJ hB;have hne: ¬nm.1=H.length:=(by omega);have hle:nm.1≤H.length:=(by omega);refine aM (aK KC aw Tryz.func49 rfl rfl Sr (by simp) (by omega) ?_);have E:=fun c (H:ai) (hH:0<H.length)=>Ie (c:=c) (H:=H) r w n r.aa.length r.ae.length hn hn0 hnb rfl rfl htl hpl hH;have el:=vy n r.aa.length r.ae.length (w:Int);have L:=fun Q h=>Cv (H:=H) r s w hs hw hpl hwide (bK n r.aa.length r.ae.length w) (fun a ha=>Fg ha) (by omega) nm hlt Q _ 0 [] (Nat.zero_add _) (by simp) h;have hd:=vA r s w (bK n r.aa.length r.ae.length w) (bE H nm);have ml:=qq r s w (bK n r.aa.length r.ae.length w);rw [gK]at E⊢;simp only [ay.row];simp [gQ,gP,nw,aX,c7,bU,cI]at L;simp [E];refine L _ ?_;generalize eY r s w (bK n r.aa.length r.ae.length w)=l at*;generalize gf r s w (bK n r.aa.length r.ae.length w) (bE H nm)=res at*;by_cases hl:l=[]
 ·subst hl;simp at hd;subst hd;simp [gQ,gP,ah,au.row,cI,hset]
 ·rw [if_neg hl]at hd;have hl0:0<l.length:=List.length_pos_iff.2 hl;have hll:(l.length:Int)≤9223372036854775807:=(by omega);have hr:=kB (bE H nm) l.length hll;have h3: ¬(lj (bE H nm) l.length).1<0:=(by omega);have h4:(lj (bE H nm) l.length).1.toNat<l.length:=(by have:=hr;omega);have h5:(lj (bE H nm) l.length).1<(l.length:Int):=(by have:=hr;omega);have hl2:((l.length:Int)==0)=false:=beq_eq_false_iff_ne.2 (by omega);have hgd:l.getD (lj (bE H nm) l.length).1.toNat cI=l[(lj (bE H nm) l.length).1.toNat]:=(by simp [List.getD_eq_getElem?_getD,h4]);rw [hgd]at hd;subst hd;have hB': ∀fr,fI (fr::H) nm:=fun fr=>dW hB;simp [dh,fD,hl,hl2,kx,hB',hll,dy,hlt,hne,ai.dJ,h3,h4,h5,ah,au.row,Fr.ins]
end
section
variable {c:Nat} {H:ai}
def empty:aI:=⟨-1,-1⟩
def eV (t:a8):br:=⟨t.cell,t.state⟩
def aL (r:aC):ay:=⟨r.ae.map (·.cell),r.ae.map fun _=>empty,r.aa.map eV⟩
def Ss (r:aC)(L:Nat)(p:List Int)(h:List aI):Fr:=
 [(1,aX r),(2, .box [.aS, .aS, .aS]),(3, .box [.bd (L,22) 1 p.length 0 p.length, .bd (L,27) 2 h.length 0 h.length, .aS]),(22, .arr 1 (p.map aD) 0 false),(27, .arr 2 (h.map aI.row) 0 false)]
def St (r:aC)(L:Nat)(p:List Int)(h:List aI)(t:List br):Fr:=
 [(1,aX r),(2, .box [.aS, .aS, .aS]),(3, .box [.bd (L,22) 1 p.length 0 p.length, .bd (L,27) 2 h.length 0 h.length, .bd (L,53) 2 t.length 0 t.length]),(22, .arr 1 (p.map aD) 0 false),(27, .arr 2 (h.map aI.row) 0 false),(53, .arr 2 (t.map br.row) 0 false)]
theorem AH (r:aC)(hpl:r.ae.length≤1000000)(Q:GX→bM→Prop): ∀(k i:Nat) (p:List Int) (h:List aI),i+k=r.ae.length→p.length=i→h.length=i→0<i→
  Q (.exit 0) ⟨[(1, .aA (H.length,1) 0),(2, .aA (H.length,2) 0),(3, .aA (H.length,3) 0)],Ss r H.length (p++(r.ae.drop i).map (·.cell)) (h++(r.ae.drop i).map fun _=>empty)::H,56⟩→
  gZ KC aw 48 (lp Tryz.f48 0) [1,2,3,4] [1,2,3] Q
   [(1, .aA (H.length,1) 0),(2, .aA (H.length,2) 0),(3, .aA (H.length,3) 0),(4, .pure (.int .i64 i))] (Ss r H.length p h::H) 56:=by
 intro k
 induction k with
 |zero=>
  intro i p h hi h1 h2 h3 hq;have e1:r.ae.drop i=[]:=List.drop_of_length_le (by omega);rw [e1]at hq;have: ¬i<r.ae.length:=(by omega);apply az;conv=>arg 4;whnf
  simp [Ss,aX,this];simpa [Ss,aX]using hq
 |succ k ih=>
  intro i p h hi h1 h2 h3 hq;have hia:i<r.ae.length:=(by omega);have hw:=c8 (x:=(i:Int)+1) (by omega) (by omega);rw [List.drop_eq_getElem_cons hia]at hq;have hb1:(i+1)*8≤1099511627776:=(by omega);have hb2:(i+1)*16≤1099511627776:=(by omega);have ih':=ih (i+1) (p++[r.ae[i].cell]) (h++[empty]) (by omega) (by simp [h1]) (by simp [h2]) (by omega);simp only [List.append_assoc,List.singleton_append,List.map_cons]at ih' hq;apply az;conv=>arg 4;whnf
  simp [Ss,aX,hia,hw,aV.row,h1,h2,hb1,hb2];have:=ih' hq;simpa [Ss,aX,aD,aI.row,empty,h1,h2,aV.row]using this
theorem AI (r:aC)(htl:r.aa.length≤1000000)(p:List Int)(h:List aI)(Q:GX→bM→Prop): ∀(k i:Nat) (t:List br),i+k=r.aa.length→t.length=i→0<i→
  Q (.exit 2) ⟨[(2, .aA (H.length,2) 0),(3, .aA (H.length,3) 0)],St r H.length p h (t++(r.aa.drop i).map eV)::H,56⟩→
  gZ KC aw 48 (lp Tryz.f48 1) [1,2,3,5] [2,3] Q
   [(1, .aA (H.length,1) 0),(2, .aA (H.length,2) 0),(3, .aA (H.length,3) 0),(5, .pure (.int .i64 i))] (St r H.length p h t::H) 56:=by
 intro k
 induction k with
 |zero=>
  intro i t hi h1 h3 hq;have e1:r.aa.drop i=[]:=List.drop_of_length_le (by omega);rw [e1]at hq;have: ¬i<r.aa.length:=(by omega);apply az;conv=>arg 4;whnf
  simp [St,aX,this];simpa [St,aX]using hq
 |succ k ih=>
  intro i t hi h1 h3 hq;have hia:i<r.aa.length:=(by omega);have hw:=c8 (x:=(i:Int)+1) (by omega) (by omega);rw [List.drop_eq_getElem_cons hia]at hq;have hb2:(i+1)*16≤1099511627776:=(by omega);have ih':=ih (i+1) (t++[eV r.aa[i]]) (by omega) (by simp [h1]) (by omega);simp only [List.append_assoc,List.singleton_append,List.map_cons]at ih' hq;apply az;conv=>arg 4;whnf
  simp [St,aX,hia,hw,a8.row,h1,hb2];have:=ih' hq;simpa [St,aX,aD,br.row,eV,h1,a8.row]using this
def Su (L k1 k2 k3:Nat)(s:ay):GV:= .agg [.bd (L,k1) 1 s.ae.length 0 s.ae.length, .bd (L,k2) 2 s.ao.length 0 s.ao.length, .bd (L,k3) 2 s.aa.length 0 s.aa.length]
theorem vB {α β:Type}(f:α→β)(l:List α)(h:0<l.length):f l[0]::(l.drop 1).map f=l.map f:=by
 cases l with
 |nil=>simp at h
 |cons a t=>rfl
theorem Fh (r:aC) (hp0:r.ae≠[]) (ht0:r.aa≠[]) (hpl:r.ae.length≤1000000) (htl:r.aa.length≤1000000) (hH:0<H.length)
  (hf1:H.get (H.length-1,ak c 22)=none) (hf2:H.get (H.length-1,ak c 27)=none) (hf3:H.get (H.length-1,ak c 53)=none):
  bJ KC (aF KC) 48 [.pure (.agg r.row)] c H=some (Su (H.length-1) (ak c 22) (ak c 27) (ak c 53) (aL r),
   ((H.set (H.length-1,ak c 22) (.arr 1 ((aL r).ae.map aD) 0 false)).set (H.length-1,ak c 27) (.arr 2 ((aL r).ao.map aI.row) 0 false)).set (H.length-1,ak c 53) (.arr 2 ((aL r).aa.map br.row) 0 false)):=by
 refine aM (aK KC aw Tryz.func48 rfl rfl Sv (by simp) hH ?_);rw [gK];have lp0:0<r.ae.length:=List.length_pos_iff.2 hp0;have lt0:0<r.aa.length:=List.length_pos_iff.2 ht0;have mz:ak c 22≠ak c 27:=(by unfold ak;omega);have mc:ak c 22≠ak c 53:=(by unfold ak;omega);have kK:ak c 27≠ak c 53:=(by unfold ak;omega);have L1:=fun Q=>AH (H:=H) r hpl Q (r.ae.length-1) 1 [r.ae[0].cell] [empty] (by omega) rfl rfl (by omega);have L2:=fun p h Q=>AI (H:=H) r htl p h Q (r.aa.length-1) 1 [eV r.aa[0]] (by omega) rfl (by omega);have ep:r.ae[0].cell::(r.ae.drop 1).map (fun p=>p.cell)=r.ae.map (fun p=>p.cell):=vB (fun p:aV=>p.cell) r.ae lp0;have eh:empty::((r.ae.drop 1).map fun _=>empty)=r.ae.map fun _=>empty:=vB (fun _:aV=>empty) r.ae lp0;have et:eV r.aa[0]::(r.aa.drop 1).map eV=r.aa.map eV:=vB eV r.aa lt0;simp only [List.singleton_append,ep,eh,et]at L1 L2;simp [Ss,aX,aD,aI.row,empty]at L1;simp;apply az;conv=>arg 4;whnf
 simp [lp0,aV.row];refine L1 _ ?_;clear L1;have L3:=L2 (r.ae.map (·.cell)) (r.ae.map fun _=>empty);simp [St,aX,aD,aI.row,empty,br.row,eV]at L3;simp;apply az;conv=>arg 4;whnf
 simp [lt0,a8.row];refine L3 _ ?_;have k1:(H.length-1,ak c 27)≠((H.length-1,ak c 22):Nm):=fun e=>mz (Prod.mk.inj e).2.symm;have k2:(H.length-1,ak c 53)≠((H.length-1,ak c 22):Nm):=fun e=>mc (Prod.mk.inj e).2.symm;have k3:(H.length-1,ak c 53)≠((H.length-1,ak c 27):Nm):=fun e=>kK (Prod.mk.inj e).2.symm;have g2: ∀b,(H.set (H.length-1,ak c 22) b).get (H.length-1,ak c 27)=none:=fun b=>(ai.aG b k1).trans hf2;have g3: ∀b b',((H.set (H.length-1,ak c 22) b).set (H.length-1,ak c 27) b').get (H.length-1,ak c 53)=none:=fun b b'=>(ai.aG b' k3).trans ((ai.aG b k2).trans hf3);simp [bT,refs,dN,cY,cv,dq,dr,dedup,cH,cb,tz,hf1,g2,g3,uD,j3,ie,Su,aL,cR,bp,aD,aI.row,empty,br.row,eV]
end
section
variable {c:Nat} {H:ai}
structure mR (H:ai)(n1 n2 n3:Nm)(v1 v2 v3:Nat)(s:ay):Prop where
 mz:n1≠n2
 mc:n1≠n3
 kK:n2≠n3
 g1:H.get n1=some (.arr 1 (s.ae.map aD) v1 false)
 g2:H.get n2=some (.arr 2 (s.ao.map aI.row) v2 false)
 g3:H.get n3=some (.arr 2 (s.aa.map br.row) v3 false)
 e1:v1≤s.ae.length
 e2:v2≤s.ao.length
 e3:v3≤s.aa.length
def kJ (n1 n2 n3:Nm)(s:ay):GV:= .agg [.bd n1 1 s.ae.length 0 s.ae.length, .bd n2 2 s.ao.length 0 s.ao.length, .bd n3 2 s.aa.length 0 s.aa.length]
theorem Sw {nm:Nm}{es v n:Nat}{rows:List (List PV)}{ro:Bool}(h:H.get nm=some (.arr es rows v ro))(hn:rows.length=n)(hv:v≤n):
  dG H (.bd nm es n 0 n)=(.slice rows,H.set nm (.arr es rows v true)):=by
 subst hn;simp [h,hv]
theorem Cw {n1 n2 n3:Nm}{v1 v2 v3:Nat}{s:ay}(h:mR H n1 n2 n3 v1 v2 v3 s):(dx H (kJ n1 n2 n3 s)).1= .pure (.agg s.row):=by
 have a1:(H.set n1 (.arr 1 (s.ae.map aD) v1 true)).get n2=some (.arr 2 (s.ao.map aI.row) v2 false):=(by rw [ai.aG _ h.mz.symm];exact h.g2);have a2:((H.set n1 (.arr 1 (s.ae.map aD) v1 true)).set n2 (.arr 2 (s.ao.map aI.row) v2 true)).get n3=some (.arr 2 (s.aa.map br.row) v3 false):=by
  rw [ai.aG _ h.kK.symm,ai.aG _ h.mc.symm];exact h.g3
 simp only [kJ,dx,gB,dY,Sw h.g1 (by simp) h.e1,Sw a1 (by simp) h.e2,Sw a2 (by simp) h.e3,ay.row];simp
theorem Li {n1 n2 n3:Nm}{v1 v2 v3:Nat}{s:ay}(h:mR H n1 n2 n3 v1 v2 v3 s){t st:Int}(ht:t<s.aa.length)(hst:st≠0)(hH:0<H.length):
  aN KC (aF KC) 121 [kJ n1 n2 n3 s, .pure (.int .i64 t), .pure (.int .i64 st)] c H=some (.pure (.bool (eF s.aa t st)),H):=by
 refine fO KC rfl rfl (args':=[.pure (.agg s.row), .pure (.int .i64 t), .pure (.int .i64 st)]) ?_ rfl hH (fun H hH=>Ee (c:=c) ht hst hH) rfl;simp only [bz,Cw h,oH];rfl
noncomputable def dc:List br→Nat→Int→Bool→List br:=ov fun ts t bit on=>
 if eF ts t bit=on then ts else ts.set t ⟨(ts.getD t aQ).cell,if on then IntKind.i64.wrap ((ts.getD t aQ).state+bit)else IntKind.i64.wrap ((ts.getD t aQ).state-bit)⟩
theorem ik (ts:List br)(t:Nat)(bit:Int)(on:Bool):dc ts t bit on=if eF ts t bit=on then ts else ts.set t ⟨(ts.getD t aQ).cell,if on then IntKind.i64.wrap ((ts.getD t aQ).state+bit)else IntKind.i64.wrap ((ts.getD t aQ).state-bit)⟩:=by rw [dc,cN]
theorem dw (ts:List br)(t:Nat)(bit:Int)(on:Bool):(dc ts t bit on).length=ts.length:=by
 rw [ik];split<;>simp
theorem Sx {n1 n2 n3:Nm}{v1 v2 v3:Nat}{s:ay}(h:mR H n1 n2 n3 v1 v2 v3 s){t:Nat}{bit:Int}{on:Bool}(ht:t<s.aa.length)(hst:bit≠0)(hH:0<H.length):
  aN KC (aF KC) 86 [kJ n1 n2 n3 s, .pure (.int .i64 t), .pure (.int .i64 bit), .pure (.bool on)] c H=
   some (.pure (.tuple []),if eF s.aa t bit=on then H else H.set n3 (.arr 2 ((dc s.aa t bit on).map br.row) s.aa.length false)):=by
 refine aM (bh KC aw Tryz.func86 rfl rfl Sy rfl rfl rfl (by simp) hH ?_);have l1:=ai.bQ h.g1;have l2:=ai.bQ h.g2;have l3:=ai.bQ h.g3;have d1: ¬n1.1=H.length:=(by omega);have d2: ¬n2.1=H.length:=(by omega);have d3: ¬n3.1=H.length:=(by omega);have hg:s.aa.getD t aQ=s.aa[t]:=(by simp [List.getD_eq_getElem?_getD,ht]);have hd:=ik s.aa t bit on;rw [hg]at hd
 have P:=fun(c:Nat)=>Li (c:=c) (H:=[(4, .box [.bd n1 1 s.ae.length 0 s.ae.length, .bd n2 2 s.ao.length 0 s.ao.length, .bd n3 2 s.aa.length 0 s.aa.length])]::H) (n1:=n1) (n2:=n2) (n3:=n3) (v1:=v1) (v2:=v2) (v3:=v3) (s:=s)
  ⟨h.mz,h.mc,h.kK,by simp [d1,h.g1],by simp [d2,h.g2],by simp [d3,h.g3],h.e1,h.e2,h.e3⟩ (t:=t) (st:=bit) (by omega) hst (by simp)
 simp only [kJ]at P⊢
 cases on with
 |true=>
  cases hv:eF s.aa t bit with
  |true=>simp [P,hv,ah]
  |false=>
   simp [hv]at hd;simp [P,hv,d3,h.g3,h.e3,ht,br.row,ah,hd,aH]
 |false=>
  cases hv:eF s.aa t bit with
  |false=>simp [P,hv,ah]
  |true=>
   simp [hv]at hd;simp [P,hv,d3,h.g3,h.e3,ht,br.row,ah,hd,aH]
end
section
variable {c:Nat} {H:ai}
def bs (hs:List aI)(w:Nat)(hand:Int)(v:Int):List aI:=hs.set w (if hand=0 then ⟨v,(hs.getD w bD).r⟩else ⟨(hs.getD w bD).l,v⟩)
noncomputable def dn:ay→Nat→au→ay:=ov fun s w a=>
 if a.kind=1 then {s with ae:=s.ae.set w a.cell}
 else if a.kind=2 then {s with ao:=bs s.ao w a.hand a.bf,aa:=s.aa.set a.bf.toNat ⟨-1,(s.aa.getD a.bf.toNat aQ).state⟩}
 else if a.kind=3 then {s with ao:=bs s.ao w a.hand (-1),aa:=s.aa.set (bC s w a.hand).toNat ⟨s.ae.getD w 0,(s.aa.getD (bC s w a.hand).toNat aQ).state⟩}
 else if a.kind=4 then {s with ao:=bs (bs s.ao a.other.toNat (dU s.ao a.other.toNat) (bC s w a.hand)) w a.hand (-1)}
 else if a.kind=5 then {s with aa:=dc s.aa (bC s w (1-a.hand)).toNat 1 true}
 else if a.kind=6 then {s with aa:=dc (dc (dc s.aa (bC s w a.hand).toNat 2 false) (bC s w a.hand).toNat 1 false) (bC s w (1-a.hand)).toNat 2 true}
 else if a.kind=7 then {s with aa:=dc s.aa (bC s w a.hand).toNat 4 true}
 else {s with aa:=dc s.aa (bC s w a.hand).toNat 4 false}
theorem iv (s:ay)(w:Nat)(a:au):dn s w a=
 if a.kind=1 then {s with ae:=s.ae.set w a.cell}
 else if a.kind=2 then {s with ao:=bs s.ao w a.hand a.bf,aa:=s.aa.set a.bf.toNat ⟨-1,(s.aa.getD a.bf.toNat aQ).state⟩}
 else if a.kind=3 then {s with ao:=bs s.ao w a.hand (-1),aa:=s.aa.set (bC s w a.hand).toNat ⟨s.ae.getD w 0,(s.aa.getD (bC s w a.hand).toNat aQ).state⟩}
 else if a.kind=4 then {s with ao:=bs (bs s.ao a.other.toNat (dU s.ao a.other.toNat) (bC s w a.hand)) w a.hand (-1)}
 else if a.kind=5 then {s with aa:=dc s.aa (bC s w (1-a.hand)).toNat 1 true}
 else if a.kind=6 then {s with aa:=dc (dc (dc s.aa (bC s w a.hand).toNat 2 false) (bC s w a.hand).toNat 1 false) (bC s w (1-a.hand)).toNat 2 true}
 else if a.kind=7 then {s with aa:=dc s.aa (bC s w a.hand).toNat 4 true}
 else {s with aa:=dc s.aa (bC s w a.hand).toNat 4 false}:=by rw [dn,cN]
structure Fi (s:ay)(w:Nat)(a:au):Prop where
 hp:w<s.ae.length
 hh:w<s.ao.length
 aR:a.aR=w
 hand:a.hand=0∨a.hand=1
 kind:1≤a.kind∧a.kind≤8
 take:a.kind=2→ ∃t:Nat,a.bf=t∧t<s.aa.length
 held:3≤a.kind→ ∃t:Nat,bC s w a.hand=t∧t<s.aa.length
 pR:a.kind=4→ ∃o:Nat,a.other=o∧o<s.ao.length∧o≠w∧(dU s.ao o=0∨dU s.ao o=1)
 xF:a.kind=5∨a.kind=6→ ∃t:Nat,bC s w (1-a.hand)=t∧t<s.aa.length
theorem ai.set_comm {n m:Nm}{x y:dB}(h:n≠m): ∀{H:ai},(H.set n x).set m y=(H.set m y).set n x
 | []=>rfl
 |fr::H=>by
  by_cases e1:n.1=H.length
  ·by_cases e2:m.1=H.length
   ·have:n.2≠m.2:=fun e=>h (Prod.ext (e1.trans e2.symm) e);simp [e1,e2,Fr.vC _ _ this.symm]
   ·simp [e1,e2]
  ·by_cases e2:m.1=H.length
   ·simp [e1,e2]
   ·simp [e1,e2,ai.length_set,ai.set_comm h (H:=H)]
structure mh (H:ai)(n1 n2 n3:Nm)(v1 v2 v3:Nat)(s:ay):Prop extends mR H n1 n2 n3 v1 v2 v3 s where
 s1:H.set n1 (.arr 1 (s.ae.map aD) v1 false)=H
 s2:H.set n2 (.arr 2 (s.ao.map aI.row) v2 false)=H
 s3:H.set n3 (.arr 2 (s.aa.map br.row) v3 false)=H
def cu (H:ai)(n1 n2 n3:Nm)(v1 v2 v3:Nat)(s:ay):ai:=((H.set n1 (.arr 1 (s.ae.map aD) v1 false)).set n2 (.arr 2 (s.ao.map aI.row) v2 false)).set n3 (.arr 2 (s.aa.map br.row) v3 false)
theorem iP {fr : Fr} {n1 n2 n3 : Nm} {v1 v2 v3 : Nat} {s : ay} (h : mh H n1 n2 n3 v1 v2 v3 s) {t : Nat} {bit : Int} {on : Bool} (ht : t < s.aa.length) (hst : bit ≠ 0) (c : Nat) :
    ∃ v, v ≤ s.aa.length ∧ aN KC (aF KC) 86 [kJ n1 n2 n3 s, .pure (.int .i64 t), .pure (.int .i64 bit), .pure (.bool on)] c (fr :: H) =
      some (.pure (.tuple []), fr :: H.set n3 (.arr 2 ((dc s.aa t bit on).map br.row) v false)) ∧
      mh (H.set n3 (.arr 2 ((dc s.aa t bit on).map br.row) v false)) n1 n2 n3 v1 v2 v { s with aa := dc s.aa t bit on } := by
  have l1 := ai.bQ h.g1
  have l2 := ai.bQ h.g2
  have l3 := ai.bQ h.g3
  have d1 : ¬ n1.1 = H.length := by omega
  have d2 : ¬ n2.1 = H.length := by omega
  have d3 : ¬ n3.1 = H.length := by omega
  have hS : mR (fr :: H) n1 n2 n3 v1 v2 v3 s := ⟨h.mz, h.mc, h.kK, by simp [d1, h.g1], by simp [d2, h.g2], by simp [d3, h.g3], h.e1, h.e2, h.e3⟩
  have C := Sx (c := c) hS (t := t) (bit := bit) (on := on) ht hst (by simp)
  have fin : ∀ v, v ≤ s.aa.length → mh (H.set n3 (.arr 2 ((dc s.aa t bit on).map br.row) v false)) n1 n2 n3 v1 v2 v { s with aa := dc s.aa t bit on } := fun v hv =>
    { mz := h.mz, mc := h.mc, kK := h.kK, g1 := by rw [ai.aG _ h.mc]; exact h.g1, g2 := by rw [ai.aG _ h.kK]; exact h.g2, g3 := ai.il l3,
      e1 := h.e1, e2 := h.e2, e3 := by simpa [dw] using hv, s1 := by rw [ai.set_comm h.mc.symm, h.s1], s2 := by rw [ai.set_comm h.kK.symm, h.s2], s3 := ai.set_set }
  by_cases hv : eF s.aa t bit = on
  · have e : dc s.aa t bit on = s.aa := by rw [ik, if_pos hv]
    rw [if_pos hv] at C
    refine ⟨v3, h.e3, ?_, fin v3 h.e3⟩
    rw [C, e, h.s3]
  · rw [if_neg hv] at C
    refine ⟨s.aa.length, Nat.le_refl _, ?_, fin _ (Nat.le_refl _)⟩
    rw [C, ai.dJ l3]
theorem mR.up {fr:Fr}{n1 n2 n3:Nm}{v1 v2 v3:Nat}{s:ay}(h:mR H n1 n2 n3 v1 v2 v3 s):mR (fr::H) n1 n2 n3 v1 v2 v3 s:=by
 have l1:=ai.bQ h.g1;have l2:=ai.bQ h.g2;have l3:=ai.bQ h.g3;have d1: ¬n1.1=H.length:=(by omega);have d2: ¬n2.1=H.length:=(by omega);have d3: ¬n3.1=H.length:=(by omega);exact⟨h.mz,h.mc,h.kK,by simp [d1,h.g1],by simp [d2,h.g2],by simp [d3,h.g3],h.e1,h.e2,h.e3⟩
theorem Sz {n1 n2 n3:Nm}{v1 v2 v3:Nat}{s:ay}(h:mh H n1 n2 n3 v1 v2 v3 s){w:Nat}{q1 kind bf cell other q3 q4:Int}(hb:Fi s w ⟨q1,w,kind,0,bf,cell,other,q3,q4⟩)(hhl:s.ao.length≤1000000)(hH:0<H.length):
  ∃v1' v2' v3',v1'≤s.ae.length∧v2'≤s.ao.length∧v3'≤s.aa.length∧
   aN KC (aF KC) 51 [kJ n1 n2 n3 s, .pure (.agg [.int .i64 q1, .int .i64 w, .int .i64 kind, .int .i64 0, .int .i64 bf, .int .i64 cell, .int .i64 other, .int .i64 q3, .int .i64 q4])] c H=
    some (.pure (.tuple []),cu H n1 n2 n3 v1' v2' v3' (dn s w ⟨q1,w,kind,0,bf,cell,other,q3,q4⟩)):=by
 have l1:=ai.bQ h.g1;have l2:=ai.bQ h.g2;have l3:=ai.bQ h.g3;have d1: ¬n1.1=H.length:=(by omega);have d2: ¬n2.1=H.length:=(by omega);have d3: ¬n3.1=H.length:=(by omega);have hp:=hb.hp;have hh:=hb.hh;have hg:s.ao.getD w bD=s.ao[w]:=(by simp [List.getD_eq_getElem?_getD,hh]);have hgp:s.ae.getD w 0=s.ae[w]:=(by simp [List.getD_eq_getElem?_getD,hp]);have eh:bC s w 0=s.ao[w].l:=(by unfold bC;rw [hg];simp);have eo:bC s w (1-0)=s.ao[w].r:=(by unfold bC;rw [hg];simp);have wr:IntKind.i64.wrap (1-0)=1:=rfl;have hk:=hb.kind;have hd:=iv s w ⟨q1,w,kind,0,bf,cell,other,q3,q4⟩;have hheld:=hb.held;have hoth:=hb.xF;have htake:=hb.take;have hgive:=hb.pR;have G23: ∀b,(H.set n2 b).get n3=H.get n3:=fun b=>ai.aG b h.kK.symm;have S2: ∀x,(H.set n1 x).set n2 (.arr 2 (s.ao.map aI.row) v2 false)=H.set n1 x:=fun x=>(by rw [ai.set_comm h.mz,h.s2]);have S3: ∀x,(H.set n1 x).set n3 (.arr 2 (s.aa.map br.row) v3 false)=H.set n1 x:=fun x=>(by rw [ai.set_comm h.mc,h.s3]);have S4: ∀x,(H.set n2 x).set n3 (.arr 2 (s.aa.map br.row) v3 false)=H.set n2 x:=fun x=>(by rw [ai.set_comm h.kK,h.s3]);have s1:=h.s1;have s2:=h.s2;have s3:=h.s3;have G22: ∀b,(H.set n2 b).get n2=some b:=fun b=>ai.il l2;simp only [eh,eo,hgp,bs,hg]at hd hk hheld hoth htake hgive;simp only [kJ];by_cases k1:kind=1
 ·subst k1;simp at hd;refine⟨s.ae.length,v2,v3,Nat.le_refl _,h.e2,h.e3,aM (bh KC aw Tryz.func51 rfl rfl gL rfl rfl rfl (by simp) hH ?_)⟩;simp [d1,d2,d3,h.g1,h.g2,h.g3,h.e1,h.e2,h.e3,hp,hh,aD,aI.row,wr,aH,ah,hd,cu,S2,S3]
 by_cases k2:kind=2
 ·subst k2;obtain⟨t,rfl,ht⟩:=htake rfl;have hgt:s.aa[t]?.getD aQ=s.aa[t]:=(by simp [ht]);simp [hgt]at hd;refine⟨v1,s.ao.length,s.aa.length,h.e1,Nat.le_refl _,Nat.le_refl _,aM (bh KC aw Tryz.func51 rfl rfl gL rfl rfl rfl (by simp) hH ?_)⟩;simp [d1,d2,d3,h.g1,h.g2,h.g3,h.e1,h.e2,h.e3,hp,hh,ht,aI.row,br.row,wr,aH,ah,hd,cu,G23,s1]
 have hk3:3≤kind:=(by omega);obtain⟨t,et,ht⟩:=hheld hk3;simp only [et]at hd hgive;have hgt:s.aa[t]?.getD aQ=s.aa[t]:=(by simp [ht]);by_cases k3:kind=3
 ·subst k3;simp [hgt]at hd;refine⟨v1,s.ao.length,s.aa.length,h.e1,Nat.le_refl _,Nat.le_refl _,aM (bh KC aw Tryz.func51 rfl rfl gL rfl rfl rfl (by simp) hH ?_)⟩;simp [d1,d2,d3,h.g1,h.g2,h.g3,h.e1,h.e2,h.e3,hp,hh,ht,et,aD,aI.row,br.row,wr,aH,ah,hd,cu,G23,s1]
 by_cases k4:kind=4
 ·subst k4;obtain⟨o,rfl,ho,how,htk⟩:=hgive rfl;have hgo:s.ao[o]?.getD bD=s.ao[o]:=(by simp [ho]);have hsw: ∀x,(s.ao.set o x)[w]?.getD bD=s.ao[w]:=fun x=>(by rw [List.getElem?_set_ne how];simp [hh]);simp [hgo,hsw]at hd;have R:(bz ([(2, .box [.bd n1 1 s.ae.length 0 s.ae.length, .bd n2 2 s.ao.length 0 s.ao.length, .bd n3 2 s.aa.length 0 s.aa.length]),(3,bU ⟨q1,w,4,0,bf,cell,o,q3,q4⟩)]::H) [kJ n1 n2 n3 s, .pure (.int .i64 o)]).1.map canon=[.pure (.agg s.row), .pure (.int .i64 o)]:=by
   simp only [bz,Cw (mR.up h.tomR),oH];rfl
  have T:=fun(c:Nat)=>fO KC (f:=85) (c:=c) rfl rfl R rfl (by simp) (fun H hH=>sJ (c:=c) ho hhl hH) rfl;simp only [kJ,bU]at T;rcases htk with z|z
  ·rw [z]at hd T;simp at hd;refine⟨v1,s.ao.length,v3,h.e1,Nat.le_refl _,h.e3,aM (bh KC aw Tryz.func51 rfl rfl gL rfl rfl rfl (by simp) hH ?_)⟩;simp [d1,d2,d3,h.g1,h.g2,h.g3,h.e1,h.e2,h.e3,hp,hh,ht,et,ho,T,aD,aI.row,br.row,wr,aH,ah,hd,cu,G22,G23,s1,S4,how,List.getElem_set_ne]
  ·rw [z]at hd T;simp at hd;refine⟨v1,s.ao.length,v3,h.e1,Nat.le_refl _,h.e3,aM (bh KC aw Tryz.func51 rfl rfl gL rfl rfl rfl (by simp) hH ?_)⟩;simp [d1,d2,d3,h.g1,h.g2,h.g3,h.e1,h.e2,h.e3,hp,hh,ht,et,ho,T,aD,aI.row,br.row,wr,aH,ah,hd,cu,G22,G23,s1,S4,how,List.getElem_set_ne]
 by_cases k5:kind=5
 ·subst k5;obtain⟨u,eu,hu⟩:=hoth (.inl rfl);rw [eu]at hd;simp at hd;obtain⟨v,hv,C,hS⟩:=iP (fr:=[(2, .box [.bd n1 1 s.ae.length 0 s.ae.length, .bd n2 2 s.ao.length 0 s.ao.length, .bd n3 2 s.aa.length 0 s.aa.length]),(3,bU ⟨q1,w,5,0,bf,cell,other,q3,q4⟩)]) h (t:=u) (bit:=1) (on:=true) hu (by decide) 100;simp only [kJ,bU]at C;refine⟨v1,v2,v,h.e1,h.e2,hv,aM (bh KC aw Tryz.func51 rfl rfl gL rfl rfl rfl (by simp) hH ?_)⟩;simp [d1,d2,d3,h.g1,h.g2,h.g3,h.e1,h.e2,h.e3,hp,hh,ht,et,eu,C,aI.row,wr,ah,hd,cu,s1,s2]
 by_cases k6:kind=6
 ·subst k6;obtain⟨u,eu,hu⟩:=hoth (.inr rfl);rw [eu]at hd;simp at hd;obtain⟨v,hv,C,hS⟩:=iP (fr:=[(2, .box [.bd n1 1 s.ae.length 0 s.ae.length, .bd n2 2 s.ao.length 0 s.ao.length, .bd n3 2 s.aa.length 0 s.aa.length]),(3,bU ⟨q1,w,6,0,bf,cell,other,q3,q4⟩)]) h (t:=t) (bit:=2) (on:=false) ht (by decide) 105;obtain⟨v',hv',C',hS'⟩:=iP (fr:=[(2, .box [.bd n1 1 s.ae.length 0 s.ae.length, .bd n2 2 s.ao.length 0 s.ao.length, .bd n3 2 s.aa.length 0 s.aa.length]),(3,bU ⟨q1,w,6,0,bf,cell,other,q3,q4⟩)]) hS (t:=t) (bit:=1) (on:=false) (by rw [dw];exact ht) (by decide) 108;obtain⟨v'',hv'',C'',hS''⟩:=iP (fr:=[(2, .box [.bd n1 1 s.ae.length 0 s.ae.length, .bd n2 2 s.ao.length 0 s.ao.length, .bd n3 2 s.aa.length 0 s.aa.length]),(3,bU ⟨q1,w,6,0,bf,cell,other,q3,q4⟩)]) hS' (t:=u) (bit:=2) (on:=true) (by simp only [dw];exact hu) (by decide) 111;simp only [kJ,bU,dw,ai.set_set]at C C' C'';simp only [dw]at hv'';refine⟨v1,v2,v'',h.e1,h.e2,hv'',aM (bh KC aw Tryz.func51 rfl rfl gL rfl rfl rfl (by simp) hH ?_)⟩;simp [d1,d2,d3,h.g1,h.g2,h.g3,h.e1,h.e2,h.e3,hp,hh,ht,et,eu,C,C',C'',aI.row,wr,ah,hd,cu,s1,s2]
 by_cases k7:kind=7
 ·subst k7;simp at hd;obtain⟨v,hv,C,hS⟩:=iP (fr:=[(2, .box [.bd n1 1 s.ae.length 0 s.ae.length, .bd n2 2 s.ao.length 0 s.ao.length, .bd n3 2 s.aa.length 0 s.aa.length]),(3,bU ⟨q1,w,7,0,bf,cell,other,q3,q4⟩)]) h (t:=t) (bit:=4) (on:=true) ht (by decide) 116;simp only [kJ,bU]at C;refine⟨v1,v2,v,h.e1,h.e2,hv,aM (bh KC aw Tryz.func51 rfl rfl gL rfl rfl rfl (by simp) hH ?_)⟩;simp [d1,d2,d3,h.g1,h.g2,h.g3,h.e1,h.e2,h.e3,hp,hh,ht,et,C,aI.row,wr,ah,hd,cu,s1,s2]
 have k8:kind=8:=(by omega);subst k8;simp at hd;obtain⟨v,hv,C,hS⟩:=iP (fr:=[(2, .box [.bd n1 1 s.ae.length 0 s.ae.length, .bd n2 2 s.ao.length 0 s.ao.length, .bd n3 2 s.aa.length 0 s.aa.length]),(3,bU ⟨q1,w,8,0,bf,cell,other,q3,q4⟩)]) h (t:=t) (bit:=4) (on:=false) ht (by decide) 121;simp only [kJ,bU]at C;refine⟨v1,v2,v,h.e1,h.e2,hv,aM (bh KC aw Tryz.func51 rfl rfl gL rfl rfl rfl (by simp) hH ?_)⟩;simp [d1,d2,d3,h.g1,h.g2,h.g3,h.e1,h.e2,h.e3,hp,hh,ht,et,C,aI.row,wr,ah,hd,cu,s1,s2]
theorem SB {n1 n2 n3:Nm}{v1 v2 v3:Nat}{s:ay}(h:mh H n1 n2 n3 v1 v2 v3 s){w:Nat}{q1 kind bf cell other q3 q4:Int}(hb:Fi s w ⟨q1,w,kind,1,bf,cell,other,q3,q4⟩)(hhl:s.ao.length≤1000000)(hH:0<H.length):
  ∃v1' v2' v3',v1'≤s.ae.length∧v2'≤s.ao.length∧v3'≤s.aa.length∧
   aN KC (aF KC) 51 [kJ n1 n2 n3 s, .pure (.agg [.int .i64 q1, .int .i64 w, .int .i64 kind, .int .i64 1, .int .i64 bf, .int .i64 cell, .int .i64 other, .int .i64 q3, .int .i64 q4])] c H=
    some (.pure (.tuple []),cu H n1 n2 n3 v1' v2' v3' (dn s w ⟨q1,w,kind,1,bf,cell,other,q3,q4⟩)):=by
 have l1:=ai.bQ h.g1;have l2:=ai.bQ h.g2;have l3:=ai.bQ h.g3;have d1: ¬n1.1=H.length:=(by omega);have d2: ¬n2.1=H.length:=(by omega);have d3: ¬n3.1=H.length:=(by omega);have hp:=hb.hp;have hh:=hb.hh;have hg:s.ao.getD w bD=s.ao[w]:=(by simp [List.getD_eq_getElem?_getD,hh]);have hgp:s.ae.getD w 0=s.ae[w]:=(by simp [List.getD_eq_getElem?_getD,hp]);have eh:bC s w 1=s.ao[w].r:=(by unfold bC;rw [hg];simp);have eo:bC s w (1-1)=s.ao[w].l:=(by unfold bC;rw [hg];simp);have wr:IntKind.i64.wrap (1-1)=0:=rfl;have hk:=hb.kind;have hd:=iv s w ⟨q1,w,kind,1,bf,cell,other,q3,q4⟩;have hheld:=hb.held;have hoth:=hb.xF;have htake:=hb.take;have hgive:=hb.pR;have G23: ∀b,(H.set n2 b).get n3=H.get n3:=fun b=>ai.aG b h.kK.symm;have S2: ∀x,(H.set n1 x).set n2 (.arr 2 (s.ao.map aI.row) v2 false)=H.set n1 x:=fun x=>(by rw [ai.set_comm h.mz,h.s2]);have S3: ∀x,(H.set n1 x).set n3 (.arr 2 (s.aa.map br.row) v3 false)=H.set n1 x:=fun x=>(by rw [ai.set_comm h.mc,h.s3]);have S4: ∀x,(H.set n2 x).set n3 (.arr 2 (s.aa.map br.row) v3 false)=H.set n2 x:=fun x=>(by rw [ai.set_comm h.kK,h.s3]);have s1:=h.s1;have s2:=h.s2;have s3:=h.s3;have G22: ∀b,(H.set n2 b).get n2=some b:=fun b=>ai.il l2;simp only [eh,eo,hgp,bs,hg]at hd hk hheld hoth htake hgive;simp only [kJ];by_cases k1:kind=1
 ·subst k1;simp at hd;refine⟨s.ae.length,v2,v3,Nat.le_refl _,h.e2,h.e3,aM (bh KC aw Tryz.func51 rfl rfl gL rfl rfl rfl (by simp) hH ?_)⟩;simp [d1,d2,d3,h.g1,h.g2,h.g3,h.e1,h.e2,h.e3,hp,hh,aD,aI.row,wr,aH,ah,hd,cu,S2,S3]
 by_cases k2:kind=2
 ·subst k2;obtain⟨t,rfl,ht⟩:=htake rfl;have hgt:s.aa[t]?.getD aQ=s.aa[t]:=(by simp [ht]);simp [hgt]at hd;refine⟨v1,s.ao.length,s.aa.length,h.e1,Nat.le_refl _,Nat.le_refl _,aM (bh KC aw Tryz.func51 rfl rfl gL rfl rfl rfl (by simp) hH ?_)⟩;simp [d1,d2,d3,h.g1,h.g2,h.g3,h.e1,h.e2,h.e3,hp,hh,ht,aI.row,br.row,wr,aH,ah,hd,cu,G23,s1]
 have hk3:3≤kind:=(by omega);obtain⟨t,et,ht⟩:=hheld hk3;simp only [et]at hd hgive;have hgt:s.aa[t]?.getD aQ=s.aa[t]:=(by simp [ht]);by_cases k3:kind=3
 ·subst k3;simp [hgt]at hd;refine⟨v1,s.ao.length,s.aa.length,h.e1,Nat.le_refl _,Nat.le_refl _,aM (bh KC aw Tryz.func51 rfl rfl gL rfl rfl rfl (by simp) hH ?_)⟩;simp [d1,d2,d3,h.g1,h.g2,h.g3,h.e1,h.e2,h.e3,hp,hh,ht,et,aD,aI.row,br.row,wr,aH,ah,hd,cu,G23,s1]
 by_cases k4:kind=4
 ·subst k4;obtain⟨o,rfl,ho,how,htk⟩:=hgive rfl;have hgo:s.ao[o]?.getD bD=s.ao[o]:=(by simp [ho]);have hsw: ∀x,(s.ao.set o x)[w]?.getD bD=s.ao[w]:=fun x=>(by rw [List.getElem?_set_ne how];simp [hh]);simp [hgo,hsw]at hd;have R:(bz ([(2, .box [.bd n1 1 s.ae.length 0 s.ae.length, .bd n2 2 s.ao.length 0 s.ao.length, .bd n3 2 s.aa.length 0 s.aa.length]),(3,bU ⟨q1,w,4,1,bf,cell,o,q3,q4⟩)]::H) [kJ n1 n2 n3 s, .pure (.int .i64 o)]).1.map canon=[.pure (.agg s.row), .pure (.int .i64 o)]:=by
   simp only [bz,Cw (mR.up h.tomR),oH];rfl
  have T:=fun(c:Nat)=>fO KC (f:=85) (c:=c) rfl rfl R rfl (by simp) (fun H hH=>sJ (c:=c) ho hhl hH) rfl;simp only [kJ,bU]at T;rcases htk with z|z
  ·rw [z]at hd T;simp at hd;refine⟨v1,s.ao.length,v3,h.e1,Nat.le_refl _,h.e3,aM (bh KC aw Tryz.func51 rfl rfl gL rfl rfl rfl (by simp) hH ?_)⟩;simp [d1,d2,d3,h.g1,h.g2,h.g3,h.e1,h.e2,h.e3,hp,hh,ht,et,ho,T,aD,aI.row,br.row,wr,aH,ah,hd,cu,G22,G23,s1,S4,how,List.getElem_set_ne]
  ·rw [z]at hd T;simp at hd;refine⟨v1,s.ao.length,v3,h.e1,Nat.le_refl _,h.e3,aM (bh KC aw Tryz.func51 rfl rfl gL rfl rfl rfl (by simp) hH ?_)⟩;simp [d1,d2,d3,h.g1,h.g2,h.g3,h.e1,h.e2,h.e3,hp,hh,ht,et,ho,T,aD,aI.row,br.row,wr,aH,ah,hd,cu,G22,G23,s1,S4,how,List.getElem_set_ne]
 by_cases k5:kind=5
 ·subst k5;obtain⟨u,eu,hu⟩:=hoth (.inl rfl);rw [eu]at hd;simp at hd;obtain⟨v,hv,C,hS⟩:=iP (fr:=[(2, .box [.bd n1 1 s.ae.length 0 s.ae.length, .bd n2 2 s.ao.length 0 s.ao.length, .bd n3 2 s.aa.length 0 s.aa.length]),(3,bU ⟨q1,w,5,1,bf,cell,other,q3,q4⟩)]) h (t:=u) (bit:=1) (on:=true) hu (by decide) 100;simp only [kJ,bU]at C;refine⟨v1,v2,v,h.e1,h.e2,hv,aM (bh KC aw Tryz.func51 rfl rfl gL rfl rfl rfl (by simp) hH ?_)⟩;simp [d1,d2,d3,h.g1,h.g2,h.g3,h.e1,h.e2,h.e3,hp,hh,ht,et,eu,C,aI.row,wr,ah,hd,cu,s1,s2]
 by_cases k6:kind=6
 ·subst k6;obtain⟨u,eu,hu⟩:=hoth (.inr rfl);rw [eu]at hd;simp at hd;obtain⟨v,hv,C,hS⟩:=iP (fr:=[(2, .box [.bd n1 1 s.ae.length 0 s.ae.length, .bd n2 2 s.ao.length 0 s.ao.length, .bd n3 2 s.aa.length 0 s.aa.length]),(3,bU ⟨q1,w,6,1,bf,cell,other,q3,q4⟩)]) h (t:=t) (bit:=2) (on:=false) ht (by decide) 105;obtain⟨v',hv',C',hS'⟩:=iP (fr:=[(2, .box [.bd n1 1 s.ae.length 0 s.ae.length, .bd n2 2 s.ao.length 0 s.ao.length, .bd n3 2 s.aa.length 0 s.aa.length]),(3,bU ⟨q1,w,6,1,bf,cell,other,q3,q4⟩)]) hS (t:=t) (bit:=1) (on:=false) (by rw [dw];exact ht) (by decide) 108;obtain⟨v'',hv'',C'',hS''⟩:=iP (fr:=[(2, .box [.bd n1 1 s.ae.length 0 s.ae.length, .bd n2 2 s.ao.length 0 s.ao.length, .bd n3 2 s.aa.length 0 s.aa.length]),(3,bU ⟨q1,w,6,1,bf,cell,other,q3,q4⟩)]) hS' (t:=u) (bit:=2) (on:=true) (by simp only [dw];exact hu) (by decide) 111;simp only [kJ,bU,dw,ai.set_set]at C C' C'';simp only [dw]at hv'';refine⟨v1,v2,v'',h.e1,h.e2,hv'',aM (bh KC aw Tryz.func51 rfl rfl gL rfl rfl rfl (by simp) hH ?_)⟩;simp [d1,d2,d3,h.g1,h.g2,h.g3,h.e1,h.e2,h.e3,hp,hh,ht,et,eu,C,C',C'',aI.row,wr,ah,hd,cu,s1,s2]
 by_cases k7:kind=7
 ·subst k7;simp at hd;obtain⟨v,hv,C,hS⟩:=iP (fr:=[(2, .box [.bd n1 1 s.ae.length 0 s.ae.length, .bd n2 2 s.ao.length 0 s.ao.length, .bd n3 2 s.aa.length 0 s.aa.length]),(3,bU ⟨q1,w,7,1,bf,cell,other,q3,q4⟩)]) h (t:=t) (bit:=4) (on:=true) ht (by decide) 116;simp only [kJ,bU]at C;refine⟨v1,v2,v,h.e1,h.e2,hv,aM (bh KC aw Tryz.func51 rfl rfl gL rfl rfl rfl (by simp) hH ?_)⟩;simp [d1,d2,d3,h.g1,h.g2,h.g3,h.e1,h.e2,h.e3,hp,hh,ht,et,C,aI.row,wr,ah,hd,cu,s1,s2]
 have k8:kind=8:=(by omega);subst k8;simp at hd;obtain⟨v,hv,C,hS⟩:=iP (fr:=[(2, .box [.bd n1 1 s.ae.length 0 s.ae.length, .bd n2 2 s.ao.length 0 s.ao.length, .bd n3 2 s.aa.length 0 s.aa.length]),(3,bU ⟨q1,w,8,1,bf,cell,other,q3,q4⟩)]) h (t:=t) (bit:=4) (on:=false) ht (by decide) 121;simp only [kJ,bU]at C;refine⟨v1,v2,v,h.e1,h.e2,hv,aM (bh KC aw Tryz.func51 rfl rfl gL rfl rfl rfl (by simp) hH ?_)⟩;simp [d1,d2,d3,h.g1,h.g2,h.g3,h.e1,h.e2,h.e3,hp,hh,ht,et,C,aI.row,wr,ah,hd,cu,s1,s2]
theorem O8 {n1 n2 n3:Nm}{v1 v2 v3:Nat}{s:ay}(h:mh H n1 n2 n3 v1 v2 v3 s){w:Nat}{a:au}(hb:Fi s w a)(hhl:s.ao.length≤1000000)(hH:0<H.length):
  ∃v1' v2' v3',v1'≤s.ae.length∧v2'≤s.ao.length∧v3'≤s.aa.length∧
   aN KC (aF KC) 51 [kJ n1 n2 n3 s, .pure (.agg a.row)] c H=some (.pure (.tuple []),cu H n1 n2 n3 v1' v2' v3' (dn s w a)):=by
 obtain⟨q1,aR,kind,hand,bf,cell,other,q3,q4⟩:=a;have e1:=hb.aR;have e2:=hb.hand;simp only at e1 e2;subst e1;rcases e2 with rfl|rfl
 ·exact Sz h hb hhl hH
 ·exact SB h hb hhl hH
end
section
variable {c:Nat} {H:ai}
noncomputable def eQ:List Int→List Int→Bool:=ov fun l m=>l.any fun x=>m.contains x
theorem ke (l m:List Int):eQ l m=l.any fun x=>m.contains x:=by rw [eQ,cN]
theorem yX (l m:List Int)(hm:m.length≤1000000)(i:Nat)(hi:i<l.length)(H':ai)(f0 f1:Fr)(hH':H'=f1::f0::H)(Q:GX→bM→Prop):
  ∀k j:Nat,j+k=m.length→
  ((m.drop j).contains l[i]=false→Q (.exit 2) ⟨[(0, .pure (.slice (l.map aD))),(1, .pure (.slice (m.map aD))),(4,aO),(5, .pure (.int .i64 i))],H',28⟩)→
  ((m.drop j).contains l[i]=true→Q .ret ⟨[(0, .pure (.slice (l.map aD))),(1, .pure (.slice (m.map aD))),(4, .pure (.bool true)),(5, .pure (.int .i64 i))],H',28⟩)→
  gZ KC aw 122 (lp Tryz.f122 1) [0,1,5,6] [0,1,4,5] Q
   [(0, .pure (.slice (l.map aD))),(1, .pure (.slice (m.map aD))),(5, .pure (.int .i64 i)),(6, .pure (.int .i64 j))] H' 28:=by
 subst hH';intro k
 induction k with
 |zero=>
  intro j hj h1 h2;have e1:m.drop j=[]:=List.drop_of_length_le (by omega);rw [e1]at h1;have: ¬j<m.length:=(by omega);apply az;conv=>arg 4;whnf
  simp [this];exact h1 rfl
 |succ k ih=>
  intro j hj h1 h2;have hja:j<m.length:=(by omega);have hw:=c8 (x:=(j:Int)+1) (by omega) (by omega);have ih':=ih (j+1) (by omega);rw [List.drop_eq_getElem_cons hja,List.contains_cons]at h1 h2;apply az;conv=>arg 4;whnf
  cases he:l[i]==m[j]with
  |true=>
   rw [he]at h2;simp [hi,hja,aD,he];exact h2 rfl
  |false=>
   rw [he]at h1 h2;rw [Bool.false_or]at h1 h2;simp [hi,hja,aD,he,hw];exact ih' h1 h2
theorem AJ (l m:List Int)(hl:l.length≤1000000)(hm:m.length≤1000000)(f0:Fr)(Q:GX→bM→Prop):
  ∀k i:Nat,i+k=l.length→
  (((l.drop i).any fun x=>m.contains x)=false→Q (.exit 0) ⟨[(4,aO)],f0::H,28⟩)→
  (((l.drop i).any fun x=>m.contains x)=true→Q .ret ⟨[(4, .pure (.bool true))],f0::H,28⟩)→
  gZ KC aw 122 (lp Tryz.f122 0) [0,1,5] [4] Q
   [(0, .pure (.slice (l.map aD))),(1, .pure (.slice (m.map aD))),(5, .pure (.int .i64 i))] (f0::H) 28:=by
 intro k
 induction k with
 |zero=>
  intro i hi h1 h2;have e1:l.drop i=[]:=List.drop_of_length_le (by omega);rw [e1]at h1;have: ¬i<l.length:=(by omega);apply az;conv=>arg 4;whnf
  simp [this];exact h1 rfl
 |succ k ih=>
  intro i hi h1 h2;have hia:i<l.length:=(by omega);have hw:=c8 (x:=(i:Int)+1) (by omega) (by omega);have ih':=ih (i+1) (by omega);rw [List.drop_eq_getElem_cons hia,List.any_cons]at h1 h2;apply az;conv=>arg 4;whnf
  have L:=fun f1 Q=>yX l m hm i hia (f1::f0::H) f0 f1 rfl Q m.length 0 (by omega);simp only [List.drop_zero]at L;simp [hia];refine L _ _ (fun z=> ?_) (fun z=> ?_)
  ·rw [z,Bool.false_or]at h1 h2;simp [hw];exact ih' h1 h2
  ·rw [z,Bool.true_or]at h2;simp;exact h2 rfl
theorem Fj {l m:List Int}(hl:l.length≤1000000)(hm:m.length≤1000000)(hH:0<H.length):
  aN KC (aF KC) 122 [.pure (.slice (l.map aD)), .pure (.slice (m.map aD))] c H=some (.pure (.bool (eQ l m)),H):=by
 refine eC rfl rfl rfl rfl rfl hH fun H hH=> ?_;refine aM (aK KC aw Tryz.func122 rfl rfl Lj (by simp) hH ?_);have hd:=ke l m;have L:=fun f0 Q=>AJ (H:=H) l m hl hm f0 Q l.length 0 (by omega);simp only [List.drop_zero]at L;simp;refine L _ _ (fun z=> ?_) (fun z=> ?_)
 ·rw [z]at hd;simp [ah,hd]
 ·rw [z]at hd;simp [ah,hd]
structure Touch where
 ae:List Int
 aa:List Int
 cells:List Int
def Touch.row (t:Touch):List PV:=[.slice (t.ae.map aD), .slice (t.aa.map aD), .slice (t.cells.map aD)]
noncomputable def b8:ay→Nat→au→Touch:=ov fun s w a=>
 if a.kind=1 then ⟨[a.aR],[],[s.ae.getD w 0,a.cell]⟩
 else if a.kind=2 then ⟨[a.aR],[a.bf],[]⟩
 else if a.kind=4 then ⟨[a.aR,a.other],[bC s w a.hand],[]⟩
 else if a.kind=5∨a.kind=6 then ⟨[a.aR],[bC s w a.hand,bC s w (1-a.hand)],[]⟩
 else ⟨[a.aR],[bC s w a.hand],[]⟩
theorem dS (s:ay)(w:Nat)(a:au):b8 s w a=
 if a.kind=1 then ⟨[a.aR],[],[s.ae.getD w 0,a.cell]⟩
 else if a.kind=2 then ⟨[a.aR],[a.bf],[]⟩
 else if a.kind=4 then ⟨[a.aR,a.other],[bC s w a.hand],[]⟩
 else if a.kind=5∨a.kind=6 then ⟨[a.aR],[bC s w a.hand,bC s w (1-a.hand)],[]⟩
 else ⟨[a.aR],[bC s w a.hand],[]⟩:=by rw [b8,cN]
theorem vD (s:ay)(w:Nat)(a:au):(b8 s w a).ae.length≤2∧(b8 s w a).aa.length≤2∧(b8 s w a).cells.length≤2:=by
 rw [dS]
 repeat' split
 all_goals simp
theorem Fk {s:ay}{w:Nat}{q1 kind bf cell other q3 q4:Int}(hp:w<s.ae.length)(hh:w<s.ao.length)(hH:0<H.length):
  aN KC (aF KC) 88 [.pure (.agg s.row), .pure (.agg [.int .i64 q1, .int .i64 w, .int .i64 kind, .int .i64 0, .int .i64 bf, .int .i64 cell, .int .i64 other, .int .i64 q3, .int .i64 q4])] c H=
    some (.pure (.agg (b8 s w ⟨q1,w,kind,0,bf,cell,other,q3,q4⟩).row),H):=by
 refine aM (ba KC aw Tryz.func88 rfl rfl Ih rfl rfl rfl (by simp) hH ?_);have hg:s.ao.getD w bD=s.ao[w]:=(by simp [List.getD_eq_getElem?_getD,hh]);have hgp:s.ae.getD w 0=s.ae[w]:=(by simp [List.getD_eq_getElem?_getD,hp]);have eh:bC s w 0=s.ao[w].l:=(by unfold bC;rw [hg];simp);have eo:bC s w (1-0)=s.ao[w].r:=(by unfold bC;rw [hg];simp);have wr:IntKind.i64.wrap (1-0)=1:=rfl;have hnl: ¬H.length≤H.length-1:=(by omega);have hd:=dS s w ⟨q1,w,kind,0,bf,cell,other,q3,q4⟩;simp only [eh,eo,hgp]at hd;simp only [ay.row];by_cases k1:kind=1
 ·subst k1;simp at hd;simp [hp,hh,aD,aI.row,wr,ah,hd,Touch.row,hnl]
 by_cases k2:kind=2
 ·subst k2;simp at hd;simp [hp,hh,aD,aI.row,wr,ah,hd,Touch.row,hnl]
 by_cases k4:kind=4
 ·subst k4;simp at hd;simp [hp,hh,aD,aI.row,wr,ah,hd,Touch.row,hnl]
 by_cases k5:kind=5
 ·subst k5;simp at hd;simp [hp,hh,aD,aI.row,wr,ah,hd,Touch.row,hnl]
 by_cases k6:kind=6
 ·subst k6;simp at hd;simp [hp,hh,aD,aI.row,wr,ah,hd,Touch.row,hnl]
 have k1':(kind==1)=false:=(by simpa using k1);have k2':(kind==2)=false:=(by simpa using k2);have k4':(kind==4)=false:=(by simpa using k4);have k5':(kind==5)=false:=(by simpa using k5);have k6':(kind==6)=false:=(by simpa using k6);simp [k1,k2,k4,k5,k6]at hd;simp [hp,hh,aD,aI.row,wr,k1',k2',k4',k5',k6',ah,hd,Touch.row,hnl]
theorem Fl {s:ay}{w:Nat}{q1 kind bf cell other q3 q4:Int}(hp:w<s.ae.length)(hh:w<s.ao.length)(hH:0<H.length):
  aN KC (aF KC) 88 [.pure (.agg s.row), .pure (.agg [.int .i64 q1, .int .i64 w, .int .i64 kind, .int .i64 1, .int .i64 bf, .int .i64 cell, .int .i64 other, .int .i64 q3, .int .i64 q4])] c H=
    some (.pure (.agg (b8 s w ⟨q1,w,kind,1,bf,cell,other,q3,q4⟩).row),H):=by
 refine aM (ba KC aw Tryz.func88 rfl rfl Ih rfl rfl rfl (by simp) hH ?_);have hg:s.ao.getD w bD=s.ao[w]:=(by simp [List.getD_eq_getElem?_getD,hh]);have hgp:s.ae.getD w 0=s.ae[w]:=(by simp [List.getD_eq_getElem?_getD,hp]);have eh:bC s w 1=s.ao[w].r:=(by unfold bC;rw [hg];simp);have eo:bC s w (1-1)=s.ao[w].l:=(by unfold bC;rw [hg];simp);have wr:IntKind.i64.wrap (1-1)=0:=rfl;have hnl: ¬H.length≤H.length-1:=(by omega);have hd:=dS s w ⟨q1,w,kind,1,bf,cell,other,q3,q4⟩;simp only [eh,eo,hgp]at hd;simp only [ay.row];by_cases k1:kind=1
 ·subst k1;simp at hd;simp [hp,hh,aD,aI.row,wr,ah,hd,Touch.row,hnl]
 by_cases k2:kind=2
 ·subst k2;simp at hd;simp [hp,hh,aD,aI.row,wr,ah,hd,Touch.row,hnl]
 by_cases k4:kind=4
 ·subst k4;simp at hd;simp [hp,hh,aD,aI.row,wr,ah,hd,Touch.row,hnl]
 by_cases k5:kind=5
 ·subst k5;simp at hd;simp [hp,hh,aD,aI.row,wr,ah,hd,Touch.row,hnl]
 by_cases k6:kind=6
 ·subst k6;simp at hd;simp [hp,hh,aD,aI.row,wr,ah,hd,Touch.row,hnl]
 have k1':(kind==1)=false:=(by simpa using k1);have k2':(kind==2)=false:=(by simpa using k2);have k4':(kind==4)=false:=(by simpa using k4);have k5':(kind==5)=false:=(by simpa using k5);have k6':(kind==6)=false:=(by simpa using k6);simp [k1,k2,k4,k5,k6]at hd;simp [hp,hh,aD,aI.row,wr,k1',k2',k4',k5',k6',ah,hd,Touch.row,hnl]
theorem AK {s:ay}{w:Nat}{a:au}(hp:w<s.ae.length)(hh:w<s.ao.length)(hw:a.aR=w)(ha:a.hand=0∨a.hand=1)(hH:0<H.length):
  aN KC (aF KC) 88 [.pure (.agg s.row), .pure (.agg a.row)] c H=some (.pure (.agg (b8 s w a).row),H):=by
 obtain⟨q1,aR,kind,hand,bf,cell,other,q3,q4⟩:=a;simp only at hw ha;subst hw;rcases ha with rfl|rfl
 ·exact Fk hp hh hH
 ·exact Fl hp hh hH
noncomputable def xG:Touch→Touch→Bool:=ov fun a b=>eQ a.ae b.ae||(eQ a.aa b.aa||eQ a.cells b.cells)
theorem xH (a b:Touch):xG a b=(eQ a.ae b.ae||(eQ a.aa b.aa||eQ a.cells b.cells)):=by rw [xG,cN]
theorem Lk {a b:Touch}(ha:a.ae.length≤2∧a.aa.length≤2∧a.cells.length≤2)(hb:b.ae.length≤2∧b.aa.length≤2∧b.cells.length≤2)(hH:0<H.length):
  aN KC (aF KC) 87 [.pure (.agg a.row), .pure (.agg b.row)] c H=some (.pure (.bool (xG a b)),H):=by
 refine eC rfl rfl rfl rfl rfl hH fun H hH=> ?_;refine aM (aK KC aw Tryz.func87 rfl rfl SC (by simp) hH ?_);have hd:=xH a b;have C:=fun(l m:List Int) (hl:l.length≤2) (hm:m.length≤2) (c:Nat) (H:ai) (hH:0<H.length)=>Fj (c:=c) (H:=H) (l:=l) (m:=m) (by omega) (by omega) hH;simp only [Touch.row]
 cases z1:eQ a.ae b.ae with
 |true=>
  simp [z1]at hd;simp [C,ha,hb,z1,ah,hd]
 |false=>
  cases z2:eQ a.aa b.aa with
  |true=>
   simp [z1,z2]at hd;simp [C,ha,hb,z1,z2,ah,hd]
  |false=>
   simp [z1,z2]at hd;simp [C,ha,hb,z1,z2,ah,hd]
noncomputable def qt:ay→Nat→au→Nat→au→Bool:=ov fun s w a v b=> !xG (b8 s w a) (b8 s v b)
theorem vE (s:ay)(w:Nat)(a:au)(v:Nat)(b:au):qt s w a v b= !xG (b8 s w a) (b8 s v b):=by rw [qt,cN]
theorem Ii {s:ay} {w v:Nat} {a b:au} (hp:w<s.ae.length) (hh:w<s.ao.length) (hw:a.aR=w) (ha:a.hand=0∨a.hand=1)
  (hp2:v<s.ae.length) (hh2:v<s.ao.length) (hw2:b.aR=v) (hb:b.hand=0∨b.hand=1) (hH:0<H.length):
  bJ KC (aF KC) 53 [.pure (.agg s.row), .pure (.agg a.row), .pure (.agg b.row)] c H=some (.pure (.bool (qt s w a v b)),H):=by
 refine aM (aK KC aw Tryz.func53 rfl rfl SD (by simp) hH ?_);have hd:=vE s w a v b;have T1:=fun c (H:ai) (hH:0<H.length)=>AK (c:=c) (H:=H) hp hh hw ha hH;have T2:=fun c (H:ai) (hH:0<H.length)=>AK (c:=c) (H:=H) hp2 hh2 hw2 hb hH;have B:=fun c (H:ai) (hH:0<H.length)=>Lk (c:=c) (H:=H) (vD s w a) (vD s v b) hH;simp only [ay.row,au.row,Touch.row]at T1 T2 B⊢;simp [T1,T2,B,ah,hd]
end
section
variable {c:Nat} {H:ai}
@[simp] theorem Y8 (x:Int):(aD x).length=1:=rfl
@[simp] theorem Y9 (x:aI):x.row.length=2:=rfl
@[simp] theorem Za (x:br):x.row.length=2:=rfl
theorem SG {n1 n2 n3:Nm} {v1 v2 v3:Nat} {s:ay} (h:mR H n1 n2 n3 v1 v2 v3 s) (p0:s.ae≠[]) (h0:s.ao≠[]) (t0:s.aa≠[]) (pl:s.ae.length≤1000000) (hl:s.ao.length≤1000000) (tl:s.aa.length≤1000000) (hH:0<H.length)
  (hf1:H.get (H.length-1,ak c 6)=none) (hf2:H.get (H.length-1,ak c 10)=none) (hf3:H.get (H.length-1,ak c 14)=none):
  aN KC (aF KC) 50 [kJ n1 n2 n3 s] c H=some (kJ (H.length-1,ak c 6) (H.length-1,ak c 10) (H.length-1,ak c 14) s,
   cu H (H.length-1,ak c 6) (H.length-1,ak c 10) (H.length-1,ak c 14) 0 0 0 s):=by
 refine aM (bh KC aw Tryz.func50 rfl rfl HN rfl rfl rfl (by simp) hH ?_);have l1:=ai.bQ h.g1;have l2:=ai.bQ h.g2;have l3:=ai.bQ h.g3;have d1: ¬n1.1=H.length:=(by omega);have d2: ¬n2.1=H.length:=(by omega);have d3: ¬n3.1=H.length:=(by omega);have b1:s.ae.length*8≤1099511627776:=(by omega);have b2:s.ao.length*16≤1099511627776:=(by omega);have b3:s.aa.length*16≤1099511627776:=(by omega);have mz:ak c 6≠ak c 10:=(by unfold ak;omega);have mc:ak c 6≠ak c 14:=(by unfold ak;omega);have kK:ak c 10≠ak c 14:=(by unfold ak;omega);have k1:(H.length-1,ak c 10)≠((H.length-1,ak c 6):Nm):=fun e=>mz (Prod.mk.inj e).2.symm;have k2:(H.length-1,ak c 14)≠((H.length-1,ak c 6):Nm):=fun e=>mc (Prod.mk.inj e).2.symm;have k3:(H.length-1,ak c 14)≠((H.length-1,ak c 10):Nm):=fun e=>kK (Prod.mk.inj e).2.symm;have g2: ∀b,(H.set (H.length-1,ak c 6) b).get (H.length-1,ak c 10)=none:=fun b=>(ai.aG b k1).trans hf2;have g3: ∀b b',((H.set (H.length-1,ak c 6) b).set (H.length-1,ak c 10) b').get (H.length-1,ak c 14)=none:=fun b b'=>(ai.aG b' k3).trans ((ai.aG b k2).trans hf3);have tp:List.take s.ae.length (s.ae.map aD)=s.ae.map aD:=List.take_of_length_le (by simp);have th:List.take s.ao.length (s.ao.map aI.row)=s.ao.map aI.row:=List.take_of_length_le (by simp);have tt:List.take s.aa.length (s.aa.map br.row)=s.aa.map br.row:=List.take_of_length_le (by simp);have hn: ¬H.length+1≤H.length:=(by omega);simp only [kJ];simp [tp,th,tt,hn,d1,d2,d3,h.g1,h.g2,h.g3,h.e1,h.e2,h.e3,p0,h0,t0,b1,b2,b3];simp [bT,refs,dN,cY,cv,dq,dr,dedup,cH,cb,tz,hf1,g2,g3,uD,j3,ie,cu]
end
section
variable {c:Nat} {H:ai}
def rH (l:List Int)(i j:Nat):List Int:=((l++[(i:Int)]).set i ((l++[(i:Int)]).getD j 0)).set j i
theorem Fm (l:List Int)(i j:Nat):(rH l i j).length=l.length+1:=by simp [rH]
noncomputable def iT:Nat→Nat→List Int→Int→List Int×Int
 |0,_,l,wd=>(l,wd)
 |k+1,i,l,wd=>iT k (i+1) (rH l i (lj wd (i+1:Nat)).1.toNat) (lj wd (i+1:Nat)).2
theorem set_perm (l:List Int)(j:Nat)(hj:j<l.length)(x:Int):(l.set j x++[l[j]]).Perm (l++[x]):=by
 have e:l=l.take j++l[j]::l.drop (j+1):=(by rw [←List.drop_eq_getElem_cons hj,List.take_append_drop]);have e2:l.set j x=l.take j++x::l.drop (j+1):=List.set_eq_take_append_cons_drop .. |>.trans (by simp [hj]);rw [e2];conv=>rhs;rw [e]
 simp only [List.append_assoc];refine List.Perm.append_left _ ?_;simp only [List.cons_append];refine(List.Perm.cons x List.perm_append_comm).trans ?_;simp only [List.singleton_append];refine(List.Perm.swap ..).trans ?_;refine List.Perm.cons _ ?_;exact(List.perm_append_comm (l₁:=[x]) (l₂:=l.drop (j+1)))
theorem Cx (l:List Int)(i j:Nat)(hl:l.length=i)(hj:j≤i):(rH l i j).Perm (l++[(i:Int)]):=by
 subst hl;unfold rH;by_cases e:j=l.length
 ·subst e;simp
 ·have hj':j<l.length:=(by omega);have h1:(l++[(l.length:Int)]).getD j 0=l[j]:=(by simp [List.getD_eq_getElem?_getD,List.getElem?_append_left hj',hj']);rw [h1];have h2:(l++[(l.length:Int)]).set l.length l[j]=l++[l[j]]:=(by simp);rw [h2];have h3:(l++[l[j]]).set j (l.length:Int)=l.set j l.length++[l[j]]:=(by rw [List.set_append_left _ _ hj']);rw [h3];exact set_perm l j hj' _
theorem tG: ∀(k i:Nat) (l:List Int) (wd:Int),l.Perm ((List.range i).map Int.ofNat)→i+k≤1000000→(iT k i l wd).1.Perm ((List.range (i+k)).map Int.ofNat)
 |0,i,l,wd,h,_=>by simpa [iT]using h
 |k+1,i,l,wd,h,hk=>by
  have hr:=kB wd ((i+1:Nat):Int) (by omega);have hl:l.length=i:=(by simpa using h.length_eq);have e:i+(k+1)=i+1+k:=(by omega);rw [iT,e];refine tG k (i+1) _ _ ((Cx l i _ hl (by omega)).trans ?_) (by omega);rw [List.range_succ,List.map_append];exact h.append_right _
def Cy (l:List Int):Fr:=[(20, .arr 1 (l.map aD) l.length false)]
theorem Cz {nm:Nm}(hlt:nm.1<H.length)(n:Nat)(hn:n≤1000000)(Q:GX→bM→Prop): ∀(k i:Nat) (l:List Int) (wd:Int),i+k=n→l.length=i→0<i→
  Q (.exit 0) ⟨[(5, .bd (H.length,20) 1 (iT k i l wd).1.length 0 (iT k i l wd).1.length)],Cy (iT k i l wd).1::H.set nm (bw (iT k i l wd).2),36⟩→
  gZ KC aw 83 (lp Tryz.f83 0) [0,1,5,6] [5] Q
   [(0, .aA nm 0),(1, .pure (.int .i64 n)),(5, .bd (H.length,20) 1 l.length 0 l.length),(6, .pure (.int .i64 i))] (Cy l::H.set nm (bw wd)) 36:=by
 have hB: ∀w f0 f1,fI (f0::f1::H.set nm (bw w)) nm:=fun w f0 f1=>dW (dW (lk hlt));have hne: ¬nm.1=H.length:=(by omega);have hne2: ¬nm.1=H.length+1:=(by omega);have hle:nm.1≤H.length:=(by omega);intro k
 induction k with
 |zero=>
  intro i l wd hi hl h0 hq;have: ¬i<n:=(by omega);apply az;conv=>arg 4;whnf
  simp [Cy,this,ai.length_set];simpa [Cy,iT]using hq
 |succ k ih=>
  intro i l wd hi hl h0 hq;have hia:i<n:=(by omega);have hw:=c8 (x:=(i:Int)+1) (by omega) (by omega);have hr:=kB wd ((i+1:Nat):Int) (by omega);obtain⟨j,ej⟩: ∃j:Nat,(lj wd ((i+1:Nat):Int)).1=j:=⟨(lj wd ((i+1:Nat):Int)).1.toNat,by omega⟩;have ih':=ih (i+1) (rH l i j) (lj wd ((i+1:Nat):Int)).2 (by omega) (by rw [Fm,hl]) (by omega);rw [iT,ej,Int.toNat_natCast]at hq;have ih'':=ih' hq;have hji:j<l.length+1:=(by omega);have ec:((i+1:Nat):Int)=(i:Int)+1:=(by omega);rw [ec]at ej ih'';have hb:(l.length+1)*8≤1099511627776:=(by omega);have hnb:(i:Int)+1≤9223372036854775807:=(by omega);have hW: ∀w f0 f1,bE (f0::f1::H.set nm (bw w)) nm=w:=fun w f0 f1=>(by rw [dy (by simp [ai.length_set];omega),dy (by simpa [ai.length_set]using hlt),lq hlt]);subst hl;obtain⟨m,em⟩: ∃m,m=l++[(l.length:Int)]:=⟨_,rfl⟩;have hm:m.length=l.length+1:=(by simp [em]);have ra:List.map aD l++[[PV.int .i64 l.length]]=List.map aD m:=(by simp [em,aD]);have hjm:j<m.length:=(by omega);have him:l.length<m.length:=(by omega);have hjI:(j:Int)<(l.length:Int)+1:=(by omega);have hiI:(l.length:Int)<(l.length:Int)+1:=(by omega);have gi:m[l.length]=(l.length:Int):=(by simp [em]);have sw:rH l l.length j=(m.set l.length m[j]).set j l.length:=by
   unfold rH;rw [←em];simp [List.getD_eq_getElem?_getD,hjm]
  rw [sw]at ih'';have hgj:((List.map aD m).set l.length [PV.int .i64 m[j]])[j]'(by simpa using hjm)=[PV.int .i64 m[j]]:=by rw [List.getElem_set];split<;>simp [aD]
  apply az;conv=>arg 4;whnf
  simp [Cy,hia,hw,ai.length_set,kx,hB,hW,hnb,hlt,hne,hne2,ai.dJ,ej,hb,hji,hjI,hiI,hle,ra,hm,aD,aH,gi,hgj];simpa [Cy,aD,hm]using ih''
noncomputable def sL:Nat→Int→List Int×Int:=ov fun n wd=>iT n 0 [] wd
theorem vF (n:Nat)(wd:Int):sL n wd=iT n 0 [] wd:=by rw [sL,cN]
theorem AL {n:Nat}(wd:Int)(hn:n≤1000000):(sL n wd).1.Perm ((List.range n).map Int.ofNat):=by
 rw [vF];simpa using tG n 0 [] wd (by simp) (by omega)
theorem Ij {nm:Nm}(hB:fI H nm){n:Nat}(h0:0<n)(hn:n≤1000000):
  aN KC (aF KC) 83 [.aA nm 0, .pure (.int .i64 n)] c H=some (.pure (.slice ((sL n (bE H nm)).1.map aD)),H.set nm (bw (sL n (bE H nm)).2)):=by
 have hlt:=gE hB;have hset:=jJ hB;have hne: ¬nm.1=H.length:=(by omega);have hne2: ¬nm.1=H.length+1:=(by omega);have hle:nm.1≤H.length:=(by omega);have hB2: ∀f0 f1,fI (f0::f1::H) nm:=fun f0 f1=>dW (dW hB);have hW: ∀f0 f1,bE (f0::f1::H) nm=bE H nm:=fun f0 f1=>(by rw [dy (by simp;omega),dy hlt]);have hnl: ¬H.length≤H.length-1:=(by omega);refine aM (ba KC aw Tryz.func83 rfl rfl SH rfl rfl rfl (by simp) (by omega) ?_);obtain⟨k,rfl⟩: ∃k,n=k+1:=⟨n-1,by omega⟩;have hr:=kB (bE H nm) 1 (by omega);have ej:(lj (bE H nm) 1).1=0:=(by omega);have L:=fun Q=>Cz (H:=H) hlt (k+1) hn Q k 1 [0] (lj (bE H nm) 1).2 (by omega) rfl (by omega);have hd:=vF (k+1) (bE H nm);have e1:iT (k+1) 0 [] (bE H nm)=iT k 1 [0] (lj (bE H nm) 1).2:=by
  rw [iT];simp [ej,rH]
 rw [e1]at hd;have hk:(0:Int)<(k:Int)+1:=(by omega);simp [Cy]at L;simp;apply az;conv=>arg 4;whnf
 simp [hk,ai.length_set,kx,hB2,hW,hlt,hne,hne2,ai.dJ,ej,hle,aD,aH];simp [aD]at L;refine L _ ?_;have tk: ∀l:List Int,List.take l.length (List.map aD l)=List.map aD l:=fun l=>List.take_of_length_le (by simp);simp [ah,hd,ai.length_set,hnl,tk]
end
section
variable {c:Nat} {H:ai}
theorem CA {nm:Nm}(hlt:nm.1<H.length)(w:Int)(f0 f1:Fr):fI (f0::f1::H.set nm (bw w)) nm:=dW (dW (lk hlt))
theorem Zb {nm:Nm}(hlt:nm.1<H.length)(w:Int)(f1:Fr):fI (f1::H.set nm (bw w)) nm:=dW (lk hlt)
theorem vG {nm:Nm}(hlt:nm.1<H.length)(w:Int)(f0 f1:Fr):bE (f0::f1::H.set nm (bw w)) nm=w:=by
 rw [dy (by simp [ai.length_set];omega),dy (by simpa [ai.length_set]using hlt),lq hlt]
theorem O9 {nm:Nm}(hlt:nm.1<H.length)(w:Int)(f1:Fr):bE (f1::H.set nm (bw w)) nm=w:=by
 rw [dy (by simpa [ai.length_set]using hlt),lq hlt]
def jk:dB:= .box [.pure (.int .i64 0), .pure (.int .i64 0), .aS, .aS, .aS, .aS, .aS]
def SI (w d:Int)(L:Nat)(p:List aV):Fr:=
 [(4,jk),(5, .box [.pure (.int .i64 w), .pure (.int .i64 d), .bd (L,46) 2 p.length 0 p.length, .aS, .aS, .aS, .aS]),(46, .arr 2 (p.map aV.row) 0 false)]
theorem CB {nm:Nm}(hlt:nm.1<H.length)(w d:Int)(cells:List Int)(hcl:cells.length≤1000000)(Q:GX→bM→Prop): ∀(k:Nat) (p:List aV) (wd:Int),p.length+k≤cells.length→0<p.length→p.map aV.cell=cells.take p.length→(∀x∈p,1≤x.role∧x.role≤3)→
  (∀(p':List aV) (wd':Int),p'.length=p.length+k→p'.map aV.cell=cells.take p'.length→(∀x∈p',1≤x.role∧x.role≤3)→
   Q (.exit 0) ⟨[(0, .aA nm 0),(4, .aA (H.length,4) 0),(5, .aA (H.length,5) 0)],SI w d H.length p'::H.set nm (bw wd'),99⟩)→
  gZ KC aw 47 (lp Tryz.f47 0) [0,4,5,6,7] [0,4,5] Q
   [(0, .aA nm 0),(4, .aA (H.length,4) 0),(5, .aA (H.length,5) 0),(6, .pure (.slice (cells.map aD))),(7, .pure (.int .i64 k))] (SI w d H.length p::H.set nm (bw wd)) 99:=by
 have hne: ¬nm.1=H.length:=(by omega);have hne2: ¬nm.1=H.length+1:=(by omega);have hle:nm.1≤H.length:=(by omega);have hB:=fun w f0 f1=>CA hlt w f0 f1;have hW:=fun w f0 f1=>vG hlt w f0 f1;intro k
 induction k with
 |zero=>
  intro p wd hi h0 hpc hpr hq;have hq':=hq p wd (by omega) hpc hpr;apply az;conv=>arg 4;whnf
  simp [SI,ai.length_set,hle];simpa [SI]using hq'
 |succ k ih=>
  intro p wd hi h0 hpc hpr hq;have hw:=c8 (x:=((k:Int)+1)-1) (by omega) (by omega);have hk:(0:Int)<(k:Int)+1:=(by omega);have hia:p.length<cells.length:=(by omega);have hr:=AM wd 1 3 (by omega) (by omega) (by omega);have hb:(p.length+1)*16≤1099511627776:=(by omega);have es:(k:Int)+1-1=k:=(by omega);rw [es]at hw
  have ih':=ih (p++[⟨(uv wd 1 3).1,cells[p.length]⟩]) (uv wd 1 3).2 (by simp;omega) (by simp) (by
   simp only [List.map_append,List.map_cons,List.map_nil,hpc,List.length_append,List.length_singleton];exact List.take_append_getElem hia) (by
   intro x hx;rcases List.mem_append.1 hx with hx|hx
   ·exact hpr x hx
   ·simp at hx;subst hx;exact hr) (fun p' wd' h1 h2 h3=>hq p' wd' (by rw [h1];simp;omega) h2 h3)
  apply az;conv=>arg 4;whnf
  simp [SI,hk,es,hw,ai.length_set,sM,hB,hW,hlt,hne,hne2,ai.dJ,hle,aD,hia,hb];simpa [SI,aV.row]using ih'
end
section
variable {c:Nat} {H:ai}
theorem pC (w n:Int)(h:n≤9223372036854775807)(h1:1≤n): ∃(i:Nat) (w':Int),lj w n=((i:Int),w')∧(i:Int)<n:=by
 have:=kB w n h;refine⟨(lj w n).1.toNat,(lj w n).2, ?_, ?_⟩
 ·rw [Int.toNat_of_nonneg this.1]
 ·omega
theorem mT (w:Int)(hi:Int)(h:hi≤1000000)(h1:1≤hi): ∃(i:Nat) (w':Int),uv w 1 hi=((i:Int),w')∧1≤i∧(i:Int)≤hi:=by
 have:=AM w 1 hi (by omega) (by omega) (by omega);refine⟨(uv w 1 hi).1.toNat,(uv w 1 hi).2, ?_, ?_, ?_⟩
 ·rw [Int.toNat_of_nonneg (by omega)]
 ·omega
 ·omega
def Ll (w d:Int)(L:Nat)(p:List aV)(ts:List a8):Fr:=
 [(4,jk),(5, .box [.pure (.int .i64 w), .pure (.int .i64 d), .bd (L,46) 2 p.length 0 p.length,dh (L,83) 5 (ts.map a8.row), .aS, .aS, .aS]),(46, .arr 2 (p.map aV.row) 0 false)]
def ThB (w d:Int)(t:a8):Prop:=0≤t.cell∧t.cell<w*d∧0≤t.state∧t.state<16∧t.home=0∧t.want=0
theorem CC {nm:Nm}(hlt:nm.1<H.length)(w d:Int)(hwd:IntKind.i64.wrap (w*d)=w*d)(hwd1:0<w*d)(hwd2:w*d≤1000000)(p:List aV)(hp:p≠[])(hpl:p.length≤1000000)(hpc: ∀x∈p,0≤x.cell∧x.cell<w*d)(Q:GX→bM→Prop): ∀(k:Nat) (ts:List a8) (wd:Int),ts.length+k≤1000000→(∀t∈ts,ThB w d t)→
  (∀(ts':List a8) (wd':Int),ts'.length=ts.length+k→(∀t∈ts',ThB w d t)→
   Q (.exit 2) ⟨[(0, .aA nm 0),(4, .aA (H.length,4) 0),(5, .aA (H.length,5) 0)],fD 83 5 (ts'.map a8.row) (Ll w d H.length p ts')::H.set nm (bw wd'),99⟩)→
  gZ KC aw 47 (lp Tryz.f47 1) [0,4,5,8] [0,4,5] Q
   [(0, .aA nm 0),(4, .aA (H.length,4) 0),(5, .aA (H.length,5) 0),(8, .pure (.int .i64 k))] (fD 83 5 (ts.map a8.row) (Ll w d H.length p ts)::H.set nm (bw wd)) 99:=by
 have hne: ¬nm.1=H.length:=(by omega);have hne2: ¬nm.1=H.length+1:=(by omega);have hle:nm.1≤H.length:=(by omega);have hB:=fun w f0 f1=>CA hlt w f0 f1;have hW:=fun w f0 f1=>vG hlt w f0 f1;have lp0:0<p.length:=List.length_pos_iff.2 hp;have hplI:(p.length:Int)≤9223372036854775807:=(by omega);have hwdI:w*d≤9223372036854775807:=(by omega);intro k
 induction k with
 |zero=>
  intro ts wd hi hts hq;have hq':=hq ts wd (by omega) hts;apply az;conv=>arg 4;whnf
  simp [Ll,ai.length_set,hle];simpa [Ll]using hq'
 |succ k ih=>
  intro ts wd hi hts hq;have hw:=c8 (x:=((k:Int)+1)-1) (by omega) (by omega);have hk:(0:Int)<(k:Int)+1:=(by omega);have hb:(ts.length+1)*40≤1099511627776:=(by omega);have es:(k:Int)+1-1=k:=(by omega);rw [es]at hw;obtain⟨i,w1,e1,hi1I⟩:=pC wd p.length hplI (by omega);have hi1:i<p.length:=(by omega);obtain⟨st,w2,e2,hst⟩:=pC w1 16 (by omega) (by omega);obtain⟨cl,w3,e3⟩: ∃(cl:Bool) (w3:Int),yY w2 3=(cl,w3):=⟨_,_,rfl⟩;obtain⟨mv,w4,e4⟩: ∃(mv:Bool) (w4:Int),yY w3 5=(mv,w4):=⟨_,_,rfl⟩;have hin: ¬(i:Int)<0:=by omega
  have ih':=fun(t:a8) (w':Int) (ht:ThB w d t)=>ih (ts++[t]) w' (by simp;omega) (by
   intro x hx;rcases List.mem_append.1 hx with hx|hx
   ·exact hts x hx
   ·simp at hx;subst hx;exact ht) (fun p' wd' h1 h2=>hq p' wd' (by rw [h1];simp;omega) h2)
  have hcell:=hpc p[i] (List.getElem_mem hi1);apply az;conv=>arg 4;whnf
  cases mv with
  |false=>
   have ih2:=ih' ⟨p[i].cell,st,0,0,cl⟩ w4 ⟨hcell.1,hcell.2,Int.natCast_nonneg st,hst,rfl,rfl⟩;simp [Ll,a8.row]at ih2;simp [Ll,hk,es,hw,ai.length_set,kx,ny,hB,hW,hplI,hlt,hne,hne2,ai.dJ,hle,aD,hb,e1,e2,e3,e4,hi1,hi1I,hin,aV.row];exact ih2
  |true=>
   obtain⟨cc,w5,e5,hcc⟩:=pC w4 (w*d) hwdI (by omega);have ih2:=ih' ⟨cc,st,0,0,cl⟩ w5 ⟨Int.natCast_nonneg cc,hcc,Int.natCast_nonneg st,hst,rfl,rfl⟩;simp [Ll,a8.row]at ih2;simp [Ll,hk,es,hw,ai.length_set,kx,ny,hB,hW,hplI,hlt,hne,hne2,ai.dJ,hle,aD,hb,e1,e2,e3,e4,e5,hwd,hwdI,hi1,hi1I,hin,aV.row];exact ih2
def Lm (w d:Int)(L:Nat)(p:List aV)(ts:List a8)(ls:List Int):Fr:=
 [(4,jk),(5, .box [.pure (.int .i64 w), .pure (.int .i64 d), .bd (L,46) 2 p.length 0 p.length, .bd (L,83) 5 ts.length 0 ts.length, .aS,dh (L,96) 1 (ls.map aD), .aS]),(46, .arr 2 (p.map aV.row) 0 false),(83, .arr 5 (ts.map a8.row) 0 false)]
theorem CD {nm:Nm}(hlt:nm.1<H.length)(w d:Int)(p:List aV)(ts:List a8)(Q:GX→bM→Prop): ∀(k i:Nat) (ls:List Int) (wd:Int),i+k=4→1≤i→ls.length<i→ls.Pairwise (· < ·)→(∀x∈ls,1≤x∧x<i)→
  (∀(ls':List Int) (wd':Int),ls'.length≤3→ls'.Pairwise (· < ·)→(∀x∈ls',1≤x∧x<4)→
   Q (.exit 4) ⟨[(4, .aA (H.length,4) 0),(5, .aA (H.length,5) 0)],fD 96 1 (ls'.map aD) (Lm w d H.length p ts ls')::H.set nm (bw wd'),99⟩)→
  gZ KC aw 47 (lp Tryz.f47 2) [0,4,5,10] [4,5] Q
   [(0, .aA nm 0),(4, .aA (H.length,4) 0),(5, .aA (H.length,5) 0),(10, .pure (.int .i64 i))] (fD 96 1 (ls.map aD) (Lm w d H.length p ts ls)::H.set nm (bw wd)) 99:=by
 have hne: ¬nm.1=H.length:=(by omega);have hne2: ¬nm.1=H.length+1:=(by omega);have hle:nm.1≤H.length:=(by omega);have hB:=fun w f0 f1=>CA hlt w f0 f1;have hW:=fun w f0 f1=>vG hlt w f0 f1;intro k
 induction k with
 |zero=>
  intro i ls wd hi h1 hl hps hb hq;have hq':=hq ls wd (by omega) hps (fun x hx=>⟨(hb x hx).1,by have:=(hb x hx).2;omega⟩);have: ¬(i:Int)≤3:=(by omega);apply az;conv=>arg 4;whnf
  simp [Lm,ai.length_set,this];simpa [Lm]using hq'
 |succ k ih=>
  intro i ls wd hi h1 hl hps hb hq;have hw:=c8 (x:=(i:Int)+1) (by omega) (by omega);have hk:(i:Int)≤3:=(by omega);have hbb:(ls.length+1)*8≤1099511627776:=(by omega);obtain⟨on,w1,e1⟩: ∃(on:Bool) (w1:Int),yY wd 3=(on,w1):=⟨_,_,rfl⟩;apply az;conv=>arg 4;whnf
  cases on with
  |true=>
   have ih2:=ih (i+1) ls w1 (by omega) (by omega) (by omega) hps (fun x hx=>⟨(hb x hx).1,by have:=(hb x hx).2;omega⟩) hq;simp [Lm]at ih2;simp [Lm,hk,hw,ai.length_set,ny,hB,hW,hlt,hne,hne2,ai.dJ,hle,e1];exact ih2
  |false=>
   have ih2:=ih (i+1) (ls++[(i:Int)]) w1 (by omega) (by omega) (by simp;omega) (List.pairwise_append.2 ⟨hps,by simp,fun a ha b hb'=>by simp at hb';subst hb';exact(hb a ha).2⟩)
    (fun x hx=>by
     rcases List.mem_append.1 hx with hx|hx
     ·exact⟨(hb x hx).1,by have:=(hb x hx).2;omega⟩
     ·simp at hx;subst hx;constructor<;>omega) hq
   simp [Lm,aD]at ih2;simp [Lm,hk,hw,ai.length_set,ny,hB,hW,hlt,hne,hne2,ai.dJ,hle,e1,aD,hbb];exact ih2
structure vH (r:aC):Prop where
 w1:1≤r.wide
 w3:r.wide≤3
 d1:1≤r.deep
 d3:r.deep≤3
 p0:r.ae≠[]
 p3:r.ae.length≤3
 pn:(r.ae.map aV.cell).Nodup
 pc: ∀x∈r.ae,(1≤x.role∧x.role≤3)∧0≤x.cell∧x.cell<r.wide*r.deep
 t0:r.aa≠[]
 t4:r.aa.length≤4
 tc: ∀t∈r.aa,ThB r.wide r.deep t
 seen:r.seen=[]
 lp:r.a7.Pairwise (· < ·)
 lr: ∀x∈r.a7,1≤x∧x<4
 ll:r.a7.length≤3
 aj:r.aj=[]
def vI (n2 n3 n5:Nm)(r:aC):GV:= .agg [.pure (.int .i64 r.wide), .pure (.int .i64 r.deep), .bd n2 2 r.ae.length 0 r.ae.length, .bd n3 5 r.aa.length 0 r.aa.length, .aS,dh n5 1 (r.a7.map aD), .aS]
def ic (H:ai)(nm:Nm)(es:Nat)(rows:List (List PV)):ai:=if rows=[]then H else H.set nm (.arr es rows 0 false)
theorem Fo {nm : Nm} (hB0 : fI H nm) {sd : Nat} (hsd : 1 ≤ sd ∧ sd ≤ 3)
    (hf1 : H.get (H.length - 1, ak c 46) = none) (hf2 : H.get (H.length - 1, ak c 83) = none) (hf3 : H.get (H.length - 1, ak c 96) = none) (hnk : ∀ k, nm ≠ (H.length - 1, ak c k)) :
    ∃ r wd, vH r ∧ aN KC (aF KC) 47 [.aA nm 0, .pure (.int .i64 sd)] c H = some (vI (H.length - 1, ak c 46) (H.length - 1, ak c 83) (H.length - 1, ak c 96) r,
      ic (((H.set nm (bw wd)).set (H.length - 1, ak c 46) (.arr 2 (r.ae.map aV.row) 0 false)).set (H.length - 1, ak c 83) (.arr 5 (r.aa.map a8.row) 0 false)) (H.length - 1, ak c 96) 1 (r.a7.map aD)) := by
  have hlt := gE hB0
  have hset := jJ hB0
  have hne : ¬ nm.1 = H.length := by omega
  have hne2 : ¬ nm.1 = H.length + 1 := by omega
  have hle : nm.1 ≤ H.length := by omega
  suffices hs : mE (aN KC (aF KC) 47 [.aA nm 0, .pure (.int .i64 sd)] c H) (fun x => ∃ r wd, vH r ∧ x = (vI (H.length - 1, ak c 46) (H.length - 1, ak c 83) (H.length - 1, ak c 96) r,
      ic (((H.set nm (bw wd)).set (H.length - 1, ak c 46) (.arr 2 (r.ae.map aV.row) 0 false)).set (H.length - 1, ak c 83) (.arr 5 (r.aa.map a8.row) 0 false)) (H.length - 1, ak c 96) 1 (r.a7.map aD))) by
    obtain ⟨x, hx, r, wd, h1, h2⟩ := hs
    exact ⟨r, wd, h1, by rw [hx, h2]⟩
  refine ba KC aw Tryz.func47 rfl rfl SJ rfl rfl rfl (by simp) (by omega) ?_
  obtain ⟨w0, hw0⟩ : ∃ w0, bE H nm = w0 := ⟨_, rfl⟩
  rw [hw0] at hset
  have hB' : ∀ f, fI (f :: H) nm := fun f => dW hB0
  have hW' : ∀ f, bE (f :: H) nm = w0 := fun f => (dy hlt).trans hw0
  have hB1 := fun w f => Zb hlt w f
  have hW1 := fun w f => O9 hlt w f
  have hB2 := fun w f0 f1 => CA hlt w f0 f1
  have hW2 := fun w f0 f1 => vG hlt w f0 f1
  obtain ⟨wi, w1, e1, hwi1, hwi3⟩ := mT w0 sd (by omega) (by omega)
  obtain ⟨de, w2, e2, hde1, hde3⟩ := mT w1 sd (by omega) (by omega)
  obtain ⟨N, hN⟩ : ∃ N, N = wi * de := ⟨_, rfl⟩
  have hN9 : N ≤ 3 * 3 := by rw [hN]; exact Nat.mul_le_mul (by omega) (by omega)
  have hN0 : 0 < N := by rw [hN]; exact Nat.mul_pos hwi1 hde1
  have hNI : (wi : Int) * (de : Int) = (N : Int) := by rw [hN]; simp
  have hwN : IntKind.i64.wrap ((wi : Int) * (de : Int)) = (N : Int) := by rw [hNI]; exact c8 (by omega) (by omega)
  obtain ⟨cells, w3, e3⟩ : ∃ cells w3, sL N w2 = (cells, w3) := ⟨_, _, rfl⟩
  have hpm : cells.Perm ((List.range N).map Int.ofNat) := by have := AL (n := N) w2 (by omega); rwa [e3] at this
  have hcl : cells.length = N := by simpa using hpm.length_eq
  have hcn : cells.Nodup := hpm.nodup_iff.2 (List.Pairwise.map Int.ofNat (fun a b h e => h (Int.ofNat.inj e)) List.nodup_range)
  have hcr : ∀ x ∈ cells, 0 ≤ x ∧ x < N := fun x hx => by
    have := hpm.mem_iff.1 hx
    simp only [List.mem_map, List.mem_range] at this
    obtain ⟨a, h1, h2⟩ := this
    subst h2; constructor
    · exact Int.natCast_nonneg a
    · exact Int.ofNat_lt.2 h1
  obtain ⟨mn, hmn⟩ : ∃ mn : Nat, mn = min 3 N := ⟨_, rfl⟩
  have hmI : (if (N : Int) < 3 then (N : Int) else 3) = (mn : Int) := by split <;> omega
  obtain ⟨np, w4, e4, hnp1, hnp2⟩ := mT w3 mn (by omega) (by omega)
  obtain ⟨m, rfl⟩ : ∃ m, np = m + 1 := ⟨np - 1, by omega⟩
  obtain ⟨ro, w5, e5, hro1, hro3⟩ := mT w4 3 (by omega) (by omega)
  have c0 : 0 < cells.length := by omega
  have hNm : N ≤ 1000000 := by omega
  have gc : cells[0]? = some cells[0] := List.getElem?_eq_getElem c0
  simp
  simp [ai.length_set, sM, Ij, hB', hW', hB1, hW1, hB2, hW2, hlt, hne, hne2, ai.dJ, hle, e1, e2, hwN, hN0, hNm, e3, hcl, hmI, e4]
  have hes : ((m : Int) + 1) - 1 = m := by omega
  have hwm := c8 (x := (m : Int)) (by omega) (by omega)
  have hm0 : (0 : Int) < (m : Int) + 1 := by omega
  have hN1 : (0 : Int) < (N : Int) := by omega
  have L1 := fun Q => CB (H := H) hlt wi de cells (by omega) Q m [⟨ro, cells[0]⟩] w5 (by simp; omega) (by simp) (by simp [List.take_one, List.head?_eq_getElem?, c0]) (by simp; omega)
  simp [SI, jk, aV.row] at L1
  apply az
  conv => arg 4; whnf
  simp [hm0, hes, hwm, ai.length_set, sM, hB2, hW2, hlt, hne, hne2, ai.dJ, hle, e5, hN1, hcl, aD, gc]
  refine L1 _ fun p wd1 hp1 hp2 hp3 => ?_
  clear L1
  have hp0 : p ≠ [] := by intro h; subst h; simp at hp1; omega
  have hpl : p.length ≤ 3 := by omega
  have hpc : ∀ x ∈ p, 0 ≤ x.cell ∧ x.cell < (wi : Int) * de := fun x hx => by
    have h1 : x.cell ∈ p.map aV.cell := List.mem_map_of_mem hx
    rw [hp2] at h1
    have := hcr _ (List.mem_of_mem_take h1)
    rw [hNI]; exact this
  obtain ⟨nt, w6, e6, hnt1, hnt4⟩ := mT wd1 4 (by omega) (by omega)
  have L2 := fun Q => CC (H := H) hlt wi de (by rw [hwN, hNI]) (by rw [hNI]; omega) (by rw [hNI]; omega) p hp0 (by omega) hpc Q nt [] w6 (by simp; omega) (by simp)
  simp [Ll, jk, gQ, gP] at L2
  simp [ai.length_set, sM, hB1, hW1, hlt, hne, hne2, ai.dJ, hle, e6]
  refine L2 _ fun ts wd2 ht1 ht2 => ?_
  clear L2
  have ht0 : ts ≠ [] := by intro h; subst h; simp at ht1; omega
  have L3 := fun Q => CD (H := H) hlt wi de p ts Q 3 1 [] wd2 (by omega) (by omega) (by simp) .nil (by simp)
  simp [Lm, jk, gQ, gP] at L3
  simp [dh, fD, ht0]
  refine L3 _ fun ls wd3 hl1 hl2 hl3 => ?_
  clear L3
  have hRB : vH ⟨wi, de, p, ts, [], ls, []⟩ :=
    { w1 := by show (1 : Int) ≤ wi; omega, w3 := by show (wi : Int) ≤ 3; omega, d1 := by show (1 : Int) ≤ de; omega, d3 := by show (de : Int) ≤ 3; omega, p0 := hp0, p3 := hpl, pn := by
        show (p.map aV.cell).Nodup
        rw [hp2]; exact hcn.sublist (List.take_sublist ..), pc := fun x hx => ⟨hp3 x hx, hpc x hx⟩, t0 := ht0, t4 := by show ts.length ≤ 4; omega, tc := ht2, seen := rfl, lp := hl2, lr := hl3, ll := hl1, aj := rfl }
  have mz : ak c 46 ≠ ak c 83 := by unfold ak; omega
  have mc : ak c 46 ≠ ak c 96 := by unfold ak; omega
  have kK : ak c 83 ≠ ak c 96 := by unfold ak; omega
  have k1 : (H.length - 1, ak c 83) ≠ ((H.length - 1, ak c 46) : Nm) := fun e => mz (Prod.mk.inj e).2.symm
  have k2 : (H.length - 1, ak c 96) ≠ ((H.length - 1, ak c 46) : Nm) := fun e => mc (Prod.mk.inj e).2.symm
  have k3 : (H.length - 1, ak c 96) ≠ ((H.length - 1, ak c 83) : Nm) := fun e => kK (Prod.mk.inj e).2.symm
  have g1 : (H.set nm (bw wd3)).get (H.length - 1, ak c 46) = none := (ai.aG _ (hnk _).symm).trans hf1
  have g2 : ∀ b, ((H.set nm (bw wd3)).set (H.length - 1, ak c 46) b).get (H.length - 1, ak c 83) = none := fun b => (ai.aG b k1).trans ((ai.aG _ (hnk _).symm).trans hf2)
  have g3 : ∀ b b', (((H.set nm (bw wd3)).set (H.length - 1, ak c 46) b).set (H.length - 1, ak c 83) b').get (H.length - 1, ak c 96) = none := fun b b' => (ai.aG b' k3).trans ((ai.aG b k2).trans ((ai.aG _ (hnk _).symm).trans hf3))
  simp
  suffices hs : ∀ x, fY KC 47 c (GV.agg
        [GV.pure (PV.int IntKind.i64 ↑wi), GV.pure (PV.int IntKind.i64 ↑de),
          GV.bd (List.length H, 46) 2 p.length 0 p.length, GV.bd (List.length H, 83) 5 ts.length 0 ts.length, GV.aS,
          dh (List.length H, 96) 1 (List.map aD ls), GV.aS])
      (fD 96 1 (List.map aD ls)
          [(4, x), (5, x),
            (46, dB.arr 2 (List.map aV.row p) 0 false), (83, dB.arr 5 (List.map a8.row ts) 0 false)] ::
        H.set nm (bw wd3)) = some (vI (List.length H - 1, ak c 46) (List.length H - 1, ak c 83) (List.length H - 1, ak c 96) ⟨wi, de, p, ts, [], ls, []⟩,
              ic
                (((H.set nm (bw wd3)).set (List.length H - 1, ak c 46)
                      (dB.arr 2 (List.map aV.row p) 0 false)).set
                  (List.length H - 1, ak c 83) (dB.arr 5 (List.map a8.row ts) 0 false))
                (List.length H - 1, ak c 96) 1 (List.map aD ls)) by
    rw [hs]
    rw [fP]
    exact ⟨_, hRB, _, rfl⟩
  intro x
  by_cases hls : ls = []
  · subst hls
    simp [gQ, gP, bT, refs, dN, cY, cv, dq, dr, dedup, cH, cb, tz, g1, g2, g3, uD, j3, ie, vI, ic, ai.length_set, aV.row, a8.row]
  · simp [dh, fD, hls, bT, refs, dN, cY, cv, dq, dr, dedup, cH, cb, tz, g1, g2, g3, uD, j3, ie, vI, ic, ai.length_set, aV.row, a8.row]
end
end Go.Gh
