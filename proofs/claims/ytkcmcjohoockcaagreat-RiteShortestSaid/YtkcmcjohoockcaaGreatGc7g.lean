/- Texts joined: the evaluator over ghost values, its soundness, the walks. Spaces struck and names made short by a program, for the size. -/
import Derived.Test.YtkcmcjohoockcaaGreatGc7f
namespace Go.Gh
open Go.Proofs
set_option linter.unusedVariables false
set_option linter.unusedSimpArgs false
set_option linter.unnecessarySimpa false
set_option maxRecDepth 100000
set_option maxHeartbeats 8000000
section
variable {c:Nat} {H:aj}
def oV (p:Nat→Bool):Nat→Nat→Int
 |0,_=> -1
 |k+1,i=>if p i=true then (i:Int)else oV p k (i+1)
theorem oW {p:Nat→Bool}: ∀{k i:Nat},0≤oV p k i↔ ∃j,i≤j∧j<i+k∧p j=true
 |0,i=>by simp [oV];intro j h1 h2;omega
 |k+1,i=>by
  unfold oV;by_cases h:p i=true
  ·simp only [h,if_true];exact⟨fun _=>⟨i,Nat.le_refl _,by omega,h⟩,fun _=>by omega⟩
  ·rw [if_neg h,oW];constructor
   ·rintro⟨j,h1,h2,h3⟩;exact⟨j,by omega,by omega,h3⟩
   ·rintro⟨j,h1,h2,h3⟩;rcases Nat.lt_or_ge i j with h4|h4
    ·exact⟨j,h4,by omega,h3⟩
    ·have:j=i:=(by omega);subst this;exact absurd h3 h
def bH:ak:=⟨0,0,0,0,0,0,0,0,0⟩
@[simp] theorem ak.eta (a:ak):(⟨a.a7,a.aN,a.kind,a.hand,a.bd,a.cell,a.other,a.bZ,a.gz⟩:ak)=a:=rfl
def TZ (p:ak→Bool)(l:List ak)(j:Nat):Bool:=p (l.getD j bH)
theorem zu (p:ak→Bool)(l:List ak)(i:Nat)(h:i<l.length):TZ p l i=p l[i]:=by simp [TZ,List.getD_eq_getElem?_getD,h]
theorem Iy (l:List ak) (hn:l.length≤4611686018427387904) (p:ak→Bool) (g:GV) (hg: ∀(x:ak) (c:Nat) (fr:Fr),dJ KC (aE KC) g [.pure (.agg x.row)] c (fr::H)=some (.pure (.bool (p x)),fr::H))
  (hcl: ∀fr,clean (fr::H) (H.length-1) g=g) (Q:GX→bN→Prop) (hH:0<H.length): ∀k i:Nat,i+k=l.length→
  (oV (TZ p l) k i= -1→Q (.exit 0) ⟨[(4,aP)],H,19⟩)→(0≤oV (TZ p l) k i→Q .ret ⟨[(4, .pure (.int .i64 (oV (TZ p l) k i)))],H,19⟩)→
  gS KC au 126 (lp Tryz.f126 0) [0,1,7,8] [4] Q [(0, .pure (.slice (l.map ak.row))),(1,g),(7, .pure (.int .i64 l.length)),(8, .pure (.int .i64 i))] H 19:=by
 intro k
 induction k with
 |zero=>
  intro i hi h1 h2;apply ax;conv=>arg 4;whnf
  have: ¬i<l.length:=(by omega);simp [this,hH];exact h1 rfl
 |succ k ih=>
  intro i hi h1 h2;have hia:i<l.length:=(by omega);have hw:=dh (x:=(i:Int)+1) (by omega) (by omega);have ih':=ih (i+1) (by omega);unfold oV at h1 h2;rw [zu p l i hia]at h1 h2;have hg':=hg l[i];simp only [ak.row]at hg';apply ax;conv=>arg 4;whnf
  cases hp:p l[i]with
  |true=>
   simp [hp]at h1 h2;simp [hia,hH,ak.row,hg',hp];exact h2
  |false=>
   simp only [hp,Bool.false_eq_true,if_false]at h1 h2;simp [hia,hH,ak.row,hg',hp,hw,hcl];have:=ih' h1 h2;simpa [ak.row]using this
theorem Iz (l:List ak) (hn:l.length≤4611686018427387904) (p:ak→Bool) (g:GV) (hcan:canon g=g) (hfz: ∀H,dn H g=(g,H)) (hg: ∀(x:ak) (c:Nat) (f0 fr:Fr),dJ KC (aE KC) g [.pure (.agg x.row)] c (f0::fr::H)=some (.pure (.bool (p x)),f0::fr::H))
  (hcl: ∀f0 fr,clean (f0::fr::H) (H.length) g=g) (hH:0<H.length):
  aL KC (aE KC) 126 [.pure (.slice (l.map ak.row)),g] c H=some (.pure (.int .i64 (oV (TZ p l) l.length 0)),H):=by
 refine aO (bf KC au Tryz.func126 rfl rfl L0 (by simp [bs,hfz]) rfl rfl (by simp) hH ?_);simp [hcan];refine Iy (H:=[]::H) l hn p g (fun x c fr=>hg x c fr []) (fun fr=>by simpa using hcl fr []) _ (by simp) l.length 0 (by omega) (fun h=> ?_) (fun h=> ?_)
 ·simp [h,ae]
 ·simp [ae]
theorem Bh (l:List ak) (hn:l.length≤4611686018427387904) (p:ak→Bool) (g:GV) (hcan:canon g=g) (hfz: ∀H,dn H g=(g,H)) (hg: ∀(x:ak) (c:Nat) (f0 f1 fr:Fr),dJ KC (aE KC) g [.pure (.agg x.row)] c (f0::f1::fr::H)=some (.pure (.bool (p x)),f0::f1::fr::H))
  (hcl: ∀f0 f1 fr,clean (f0::f1::fr::H) (H.length+1) g=g) (hH:0<H.length):
  aL KC (aE KC) 90 [.pure (.slice (l.map ak.row)),g] c H=some (.pure (.bool (l.any p)),H):=by
 refine aO (bf KC au Tryz.func90 rfl rfl Tt (by simp [bs,hfz]) rfl rfl (by simp) hH ?_);have I:=fun c (fr:Fr)=>Iz (c:=c) (H:=fr::H) l hn p g hcan hfz (fun x c f0 f1=>hg x c f0 f1 fr) (fun f0 f1=>by simpa using hcl f0 f1 fr) (by simp);have e:(decide (0≤oV (TZ p l) l.length 0))=l.any p:=by
  rw [Bool.eq_iff_iff,decide_eq_true_eq,oW,List.any_eq_true];constructor
  ·rintro⟨j,_,h2,h3⟩;have hj:j<l.length:=(by omega);exact⟨l[j],List.getElem_mem hj,by rw [←zu p l j hj];exact h3⟩
  ·rintro⟨x,hx,hp⟩;obtain⟨j,hj,rfl⟩:=List.getElem_of_mem hx;exact⟨j,Nat.zero_le _,by omega,by rw [zu p l j hj];exact hp⟩
 simp [hcan,I,ae,e]
def bW (a:ak):dH:= .box [.pure (.int .i64 a.a7), .pure (.int .i64 a.aN), .pure (.int .i64 a.kind), .pure (.int .i64 a.hand), .pure (.int .i64 a.bd), .pure (.int .i64 a.cell), .pure (.int .i64 a.other), .pure (.int .i64 a.bZ), .pure (.int .i64 a.gz)]
def kq (a b:ak):Bool:=b.a7==a.a7 && b.aN==a.aN
theorem IA (a b:ak){nm:Nm}(hg:H.get nm=some (bW a)):aL KC (aE KC) 91 [.pure (.agg b.row), .ay nm 0] c H=some (.pure (.bool (kq a b)),H):=by
 have hl:nm.1<H.length:=aj.bL hg;have hne: ¬nm.1=H.length:=(by omega);refine aO (bf KC au Tryz.func91 rfl rfl Tu rfl rfl rfl (by simp) (by omega) ?_);unfold bW at hg;unfold kq
 cases h1:(b.a7==a.a7)with
 |true=>simp [ae,hg,hne,ak.row,h1]
 |false=>simp [ae,hg,hne,ak.row,h1]
noncomputable def Dc:aA→Nat→Int:=nL fun r i=>
 if dc (r.ai.getD i bH).a7 0 1000=false then 2 else if 0<i∧(r.ai.getD i bH).a7<(r.ai.getD (i-1) bH).a7 then 11
 else if dc (r.ai.getD i bH).aN 0 ((r.ah.length:Int)-1)=false then 7 else if (r.ai.take i).any (kq (r.ai.getD i bH))=true then 12
 else if dV (cU r.wide r.deep) r.aa.length r.ah.length (r.ai.getD i bH)≠0 then dV (cU r.wide r.deep) r.aa.length r.ah.length (r.ai.getD i bH)
 else if dc (r.ai.getD i bH).bZ 0 15=false∨dc (r.ai.getD i bH).gz 0 9=false then 2 else 0
theorem oB (r:aA)(i:Nat):Dc r i=
 if dc (r.ai.getD i bH).a7 0 1000=false then 2 else if 0<i∧(r.ai.getD i bH).a7<(r.ai.getD (i-1) bH).a7 then 11
 else if dc (r.ai.getD i bH).aN 0 ((r.ah.length:Int)-1)=false then 7 else if (r.ai.take i).any (kq (r.ai.getD i bH))=true then 12
 else if dV (cU r.wide r.deep) r.aa.length r.ah.length (r.ai.getD i bH)≠0 then dV (cU r.wide r.deep) r.aa.length r.ah.length (r.ai.getD i bH)
 else if dc (r.ai.getD i bH).bZ 0 15=false∨dc (r.ai.getD i bH).gz 0 9=false then 2 else 0:=by rw [Dc,cN]
noncomputable def cB:aA→Int:=nL fun r=>if ld r≠0 then ld r else if 40<r.ai.length then 8 else bR (Dc r) r.ai.length 0
theorem jM (r:aA):cB r=if ld r≠0 then ld r else if 40<r.ai.length then 8 else bR (Dc r) r.ai.length 0:=by rw [cB,cN]
theorem IB (r:aA)(hl:r.ai.length≤40)(hp:r.ah.length≤1000000)(ht:r.aa.length≤1000000)(Q:GX→bN→Prop): ∀k i:Nat,i+k=r.ai.length→
  (bR (Dc r) k i=0→Q (.exit 0) ⟨[(2,aP)],[(1,aR r)]::H,77⟩)→
  (bR (Dc r) k i≠0→Q .ret ⟨[(2, .pure (.int .i64 (bR (Dc r) k i)))],[(1,aR r)]::H,77⟩)→
  gS KC au 57 (lp Tryz.f57 0) [1,17,18,19] [2] Q
   [(1, .ay (H.length,1) 0),(17, .pure (.slice (r.ai.map ak.row))),(18, .pure (.int .i64 r.ai.length)),(19, .pure (.int .i64 i))] ([(1,aR r)]::H) 77:=by
 intro k
 induction k with
 |zero=>
  intro i hi h1 h2;apply ax;conv=>arg 4;whnf
  have: ¬i<r.ai.length:=(by omega);simp [this];exact h1 rfl
 |succ k ih=>
  intro i hi h1 h2;have hia:i<r.ai.length:=(by omega);have hw:=dh (x:=(i:Int)+1) (by omega) (by omega);have hw2:=dh (x:=(i:Int)-1) (by omega) (by omega);have hwp:=dh (x:=(r.ah.length:Int)-1) (by omega) (by omega);have ih':=ih (i+1) (by omega);unfold bR at h1 h2;have hf:=oB r i;have hgi:r.ai.getD i bH=r.ai[i]:=(by simp [List.getD_eq_getElem?_getD,hia]);rw [hgi]at hf;have hile:i≤r.ai.length:=(by omega);have hmin:min i r.ai.length=i:=(by omega);have C:=fun(c:Nat)=>Bh (c:=c) (H:=[(5,bW r.ai[i])]::[(1,aR r)]::H) (r.ai.take i) (by simp;omega) (kq r.ai[i]) (.func 91 [] [.ay (H.length+1,5) 0]) rfl (fun _=>rfl) (fun x c f0 f1 fr=>by
   rw [mY];exact IA r.ai[i] x (by simp)) (fun f0 f1 fr=>by simp) (by simp)
  simp [aR,bW]at C;have CF:=fun(c:Nat) (H:aj) (hH:0<H.length)=>ow (c:=c) (r:=r) (H:=H) (q1:=r.ai[i].a7) (q2:=r.ai[i].aN) (kind:=r.ai[i].kind) (hand:=r.ai[i].hand) (bd:=r.ai[i].bd) (cell:=r.ai[i].cell) (other:=r.ai[i].other) (q3:=r.ai[i].bZ) (q4:=r.ai[i].gz) hp ht hH;simp only [ak.eta,eE]at CF;apply ax;conv=>arg 4;whnf
  cases z1:dc r.ai[i].a7 0 1000 with
  |false=>
   simp [z1]at hf;simp [hf]at h1 h2;simp [hia,ak.row,aR,c7,z1];simpa [aR]using h2
  |true=>
  have ord:(0<i∧r.ai[i].a7<(r.ai.getD (i-1) bH).a7)∨ ¬(0<i∧r.ai[i].a7<(r.ai.getD (i-1) bH).a7):=Classical.em _;have step: ∀(Q':Prop),(0<i→ ∀h:i-1<r.ai.length,¬((i:Int)-1<0)→((i:Int)-1).toNat=i-1→(0:Int)<i→r.ai.getD (i-1) bH=r.ai[i-1]→Q')→(i=0→Q')→Q':=fun Q' a b=>by
   by_cases h0:0<i
   ·have hi1:i-1<r.ai.length:=(by omega);exact a h0 hi1 (by omega) (by omega) (by omega) (by simp [List.getD_eq_getElem?_getD,hi1])
   ·exact b (by omega)
  refine step _ (fun h0 hi1 hnn htn h0' hg1=> ?_) (fun h0=> ?_)
  ·rw [hg1]at hf;by_cases z2:r.ai[i].a7<r.ai[i-1].a7
   ·simp [z1,z2,h0]at hf;simp [hf]at h1 h2;simp [hia,ak.row,aR,c7,z1,h0',hw2,hnn,htn,hi1,z2,h0];simpa [aR]using h2
   ·cases z3:dc r.ai[i].aN 0 ((r.ah.length:Int)-1)with
    |false=>
     simp [z1,z2,z3,h0]at hf;simp [hf]at h1 h2;simp [hia,ak.row,aR,c7,z1,h0',hw2,hnn,htn,hi1,z2,hwp,z3,h0];simpa [aR]using h2
    |true=>
    cases z4:(r.ai.take i).any (kq r.ai[i])with
    |true=>
     simp only [z1,z2,z3,z4,and_false,Bool.true_eq_false,if_false,if_true]at hf;simp [hf]at h1 h2;simp [hia,ak.row,aR,c7,z1,h0',hw2,hnn,htn,hi1,z2,hwp,z3,hile,C,z4,h0];simpa [aR]using h2
    |false=>
    by_cases z5:dV (cU r.wide r.deep) r.aa.length r.ah.length r.ai[i]=0
    ·cases z6:dc r.ai[i].bZ 0 15 with
     |false=>
      simp only [z1,z2,z3,z4,z5,z6,and_false,Bool.true_eq_false,Bool.false_eq_true,ne_eq,not_true_eq_false,true_or,if_false,if_true]at hf;simp [hf]at h1 h2;simp [hia,ak.row,aR,c7,z1,h0',hw2,hnn,htn,hi1,z2,hwp,z3,hile,C,z4,CF,z5,z6,h0];simpa [aR]using h2
     |true=>
     cases z7:dc r.ai[i].gz 0 9 with
     |false=>
      simp only [z1,z2,z3,z4,z5,z6,z7,and_false,Bool.true_eq_false,Bool.false_eq_true,ne_eq,not_true_eq_false,or_true,if_false,if_true]at hf;simp [hf]at h1 h2;simp [hia,ak.row,aR,c7,z1,h0',hw2,hnn,htn,hi1,z2,hwp,z3,hile,C,z4,CF,z5,z6,z7,h0];simpa [aR]using h2
     |true=>
      simp only [z1,z2,z3,z4,z5,z6,z7,and_false,Bool.true_eq_false,Bool.false_eq_true,ne_eq,not_true_eq_false,or_self,if_false,if_true]at hf;simp [hf]at h1 h2;simp [hia,ak.row,aR,c7,z1,h0',hw2,hnn,htn,hi1,z2,hwp,z3,hile,C,z4,CF,z5,z6,z7,hw,h0];simpa [aR,ak.row]using ih' h1 h2
    ·have z5':(dV (cU r.wide r.deep) r.aa.length r.ah.length r.ai[i] !=0)=true:=(by simpa using z5);simp only [z1,z2,z3,z4,z5,and_false,Bool.true_eq_false,Bool.false_eq_true,ne_eq,not_false_eq_true,if_false,if_true]at hf;simp [hf,z5]at h1 h2;simp [hia,ak.row,aR,c7,z1,h0',hw2,hnn,htn,hi1,z2,hwp,z3,hile,C,z4,CF,z5,z5',h0];simpa [aR]using h2
  ·subst h0;simp at C;have z4:(r.ai.take 0).any (kq r.ai[0])=false:=by simp
   cases z3:dc r.ai[0].aN 0 ((r.ah.length:Int)-1)with
   |false=>
    simp [z1,z3]at hf;simp [hf]at h1 h2;simp [hia,ak.row,aR,c7,z1,hwp,z3];simpa [aR]using h2
   |true=>
   by_cases z5:dV (cU r.wide r.deep) r.aa.length r.ah.length r.ai[0]=0
   ·cases z6:dc r.ai[0].bZ 0 15 with
    |false=>
     simp [z1,z3,z5,z6]at hf;simp [hf]at h1 h2;simp [hia,ak.row,aR,c7,z1,hwp,z3,C,CF,z5,z6];simpa [aR]using h2
    |true=>
    cases z7:dc r.ai[0].gz 0 9 with
    |false=>
     simp [z1,z3,z5,z6,z7]at hf;simp [hf]at h1 h2;simp [hia,ak.row,aR,c7,z1,hwp,z3,C,CF,z5,z6,z7];simpa [aR]using h2
    |true=>
     simp [z1,z3,z5,z6,z7]at hf;simp [hf]at h1 h2;simp [hia,ak.row,aR,c7,z1,hwp,z3,C,CF,z5,z6,z7,hw];simpa [aR,ak.row]using ih' h1 h2
   ·have z5':(dV (cU r.wide r.deep) r.aa.length r.ah.length r.ai[0] !=0)=true:=(by simpa using z5);simp [z1,z3,z5]at hf;simp [hf,z5]at h1 h2;simp [hia,ak.row,aR,c7,z1,hwp,z3,C,CF,z5,z5'];simpa [aR]using h2
theorem FL (r:aA)(h1:r.seen.length≤1000000)(h2:r.br.length≤1000000)(h3:r.ah.length≤1000000)(h4:r.aa.length≤1000000)(h5:r.ai.length≤1000000)(hH:0<H.length):
  bK KC (aE KC) 57 [.pure (.agg r.row)] c H=some (.pure (.int .i64 (cB r)),H):=by
 refine aO (aK KC au Tryz.func57 rfl rfl Tc (by simp) hH ?_);have hr:=jM r;have R:=fun c (H:aj) (hH:0<H.length)=>yS (c:=c) (H:=H) r h1 h2 h3 h4 hH;rw [eE]at R⊢;by_cases z1:ld r=0
 ·by_cases z2:40<r.ai.length
  ·have z2':(40:Int)<r.ai.length:=(by omega);simp [z1,z2]at hr;simp [R,z1,z2,z2',ae,hr]
  ·have z2': ¬(40:Int)<r.ai.length:=(by omega);simp only [z1,z2,ne_eq,not_true_eq_false,if_false]at hr;simp [R,z1,z2,z2'];have L:=fun Q=>IB (H:=H) r (by omega) h3 h4 Q r.ai.length 0 (by omega);simp [aR]at L;refine L _ (fun h=> ?_) (fun h=> ?_)
   ·simp [h]at hr;simp [ae,hr]
   ·simp [ae,hr]
 ·have z1':(ld r !=0)=true:=(by simpa using z1);simp [z1]at hr;simp [R,z1,z1',ae,hr]
theorem r5 (r:aA)(h1:r.seen.length≤1000000)(h2:r.br.length≤1000000)(h3:r.ah.length≤1000000)(h4:r.aa.length≤1000000)(h5:r.ai.length≤1000000)(hH:0<H.length):
  aL KC (aE KC) 57 [.pure (.agg r.row)] c H=some (.pure (.int .i64 (cB r)),H):=eF rfl rfl rfl rfl rfl hH fun H hH=>FL r h1 h2 h3 h4 h5 hH
end
section
variable {c:Nat} {H:aj}
end
section
variable {c:Nat} {H:aj}
end
section
variable {c:Nat} {H:aj}
@[simp] theorem T0 {l0:Nat}:clean H l0 aP=aP:= .trans rfl rfl
end
section
variable {c:Nat} {H:aj}
noncomputable def kz:Int→Int→Int→Bool:=nL fun w a b=>
 (IntKind.i64.wrap (a.tmod w-b.tmod w)==0 && (IntKind.i64.wrap (IntKind.i64.wrap (a.tdiv w)-IntKind.i64.wrap (b.tdiv w))==1||IntKind.i64.wrap (IntKind.i64.wrap (a.tdiv w)-IntKind.i64.wrap (b.tdiv w))== -1))||
 (IntKind.i64.wrap (IntKind.i64.wrap (a.tdiv w)-IntKind.i64.wrap (b.tdiv w))==0 && (IntKind.i64.wrap (a.tmod w-b.tmod w)==1||IntKind.i64.wrap (a.tmod w-b.tmod w)== -1))
theorem yc (w a b:Int):kz w a b=
 ((IntKind.i64.wrap (a.tmod w-b.tmod w)==0 && (IntKind.i64.wrap (IntKind.i64.wrap (a.tdiv w)-IntKind.i64.wrap (b.tdiv w))==1||IntKind.i64.wrap (IntKind.i64.wrap (a.tdiv w)-IntKind.i64.wrap (b.tdiv w))== -1))||
 (IntKind.i64.wrap (IntKind.i64.wrap (a.tdiv w)-IntKind.i64.wrap (b.tdiv w))==0 && (IntKind.i64.wrap (a.tmod w-b.tmod w)==1||IntKind.i64.wrap (a.tmod w-b.tmod w)== -1))):=by rw [kz,cN]
theorem mM {w d a b:Int}{x1 x2 x3 x4 x5:PV}(hw:w≠0)(hH:0<H.length):aL KC (aE KC) 120 [.pure (.agg [.int .i64 w, .int .i64 d,x1,x2,x3,x4,x5]), .pure (.int .i64 a), .pure (.int .i64 b)] c H=some (.pure (.bool (kz w a b)),H):=by
 refine eF rfl rfl rfl rfl rfl hH fun H hH=> ?_;refine aO (aK KC au Tryz.func120 rfl rfl LS (by simp) hH ?_);have hd:=yc w a b;generalize hx:IntKind.i64.wrap (a.tmod w-b.tmod w)=x at hd;generalize hy:IntKind.i64.wrap (IntKind.i64.wrap (a.tdiv w)-IntKind.i64.wrap (b.tdiv w))=y at hd;by_cases x0:x=0
 ·subst x0;by_cases y1:y=1
  ·subst y1;simp at hd;simp [hw,hx,hy,ae,hd]
  ·have y1':(y==1)=false:=(by simpa using y1);by_cases y2:y= -1
   ·subst y2;simp at hd;simp [hw,hx,hy,ae,hd]
   ·have y2':(y== -1)=false:=(by simpa using y2);by_cases y0:y=0
    ·subst y0;simp at hd;simp [hw,hx,hy,ae,hd]
    ·have y0':(y==0)=false:=(by simpa using y0);simp [y1',y2',y0']at hd;simp [hw,hx,hy,y1',y2',y0',ae,hd]
 ·have x0':(x==0)=false:=(by simpa using x0);by_cases y0:y=0
  ·subst y0;by_cases x1:x=1
   ·subst x1;simp at hd;simp [hw,hx,hy,ae,hd]
   ·have x1':(x==1)=false:=(by simpa using x1);by_cases x2:x= -1
    ·subst x2;simp at hd;simp [hw,hx,hy,ae,hd]
    ·have x2':(x== -1)=false:=(by simpa using x2);simp [x0',x1',x2']at hd;simp [hw,hx,hy,x0',x1',x2',ae,hd]
  ·have y0':(y==0)=false:=(by simpa using y0);simp [x0',y0']at hd;simp [hw,hx,hy,x0',y0',ae,hd]
def aS:bB:=⟨0,0⟩
noncomputable def eS:List bB→Int→Int→Bool:=nL fun ts t st=>decide (0≤t) && ((IntKind.i64.wrap ((ts.getD t.toNat aS).state.tdiv st)).tmod 2==1)
theorem iK (ts:List bB)(t st:Int):eS ts t st=(decide (0≤t) && ((IntKind.i64.wrap ((ts.getD t.toNat aS).state.tdiv st)).tmod 2==1)):=by rw [eS,cN]
theorem Er {ts:List bB}{x1 x2:PV}{t st:Int}(ht:t<ts.length)(hst:st≠0)(hH:0<H.length):
  bK KC (aE KC) 121 [.pure (.agg [x1,x2, .slice (ts.map bB.row)]), .pure (.int .i64 t), .pure (.int .i64 st)] c H=some (.pure (.bool (eS ts t st)),H):=by
 refine aO (aK KC au Tryz.func121 rfl rfl LU (by simp) hH ?_);have hd:=iK ts t st;by_cases h0:0≤t
 ·have hn: ¬t<0:=(by omega);have hl:t.toNat<ts.length:=(by omega);have hg:ts.getD t.toNat aS=ts[t.toNat]:=(by simp [List.getD_eq_getElem?_getD,hl]);rw [hg]at hd;simp [h0]at hd;simp [h0,hn,hl,hst,bB.row,ae,hd]
 ·simp [h0]at hd;simp [h0,ae,hd]
theorem uO {ts:List bB}{x1 x2:PV}{t st:Int}(ht:t<ts.length)(hst:st≠0)(hH:0<H.length):
  aL KC (aE KC) 121 [.pure (.agg [x1,x2, .slice (ts.map bB.row)]), .pure (.int .i64 t), .pure (.int .i64 st)] c H=some (.pure (.bool (eS ts t st)),H):=eF rfl rfl rfl rfl rfl hH fun H hH=>Er ht hst hH
def bA:aH:=⟨0,0⟩
def dM (hs:List aH)(aN:Nat):Int:=if (hs.getD aN bA).l= -1 then 0 else if (hs.getD aN bA).r= -1 then 1 else-1
theorem sW {hs:List aH}{x1 x2:PV}{aN:Nat}(hw:aN<hs.length)(hl:hs.length≤1000000)(hH:0<H.length):
  bK KC (aE KC) 85 [.pure (.agg [x1, .slice (hs.map aH.row),x2]), .pure (.int .i64 aN)] c H=some (.pure (.int .i64 (dM hs aN)),H):=by
 refine aO (aK KC au Tryz.func85 rfl rfl Tp (by simp) hH ?_);have hg:hs.getD aN bA=hs[aN]:=(by simp [List.getD_eq_getElem?_getD,hw]);have hd:dM hs aN=if hs[aN].l= -1 then 0 else if hs[aN].r= -1 then 1 else-1:=(by unfold dM;rw [hg]);have w2:IntKind.i64.wrap 2=2:=rfl;simp;apply ax;conv=>arg 4;whnf
 by_cases h1:hs[aN].l= -1
 ·simp [h1]at hd;simp [hw,aH.row,h1,ae,hd]
 ·have h1':(hs[aN].l== -1)=false:=(by simpa using h1);simp [h1]at hd;simp [hw,aH.row,h1'];apply ax;conv=>arg 4;whnf
  by_cases h2:hs[aN].r= -1
  ·simp [h2]at hd;simp [hw,aH.row,h2,ae,hd]
  ·have h2':(hs[aN].r== -1)=false:=(by simpa using h2);simp [h2]at hd;simp [hw,aH.row,h2',w2];apply ax;conv=>arg 4;whnf
   simp [ae,hd]
theorem yd {hs:List aH}{x1 x2:PV}{aN:Nat}(hw:aN<hs.length)(hl:hs.length≤1000000)(hH:0<H.length):
  aL KC (aE KC) 85 [.pure (.agg [x1, .slice (hs.map aH.row),x2]), .pure (.int .i64 aN)] c H=some (.pure (.int .i64 (dM hs aN)),H):=eF rfl rfl rfl rfl rfl hH fun H hH=>sW hw hl hH
end
section
variable {c:Nat} {H:aj}
def bG (s:aw)(w:Nat)(hand:Int):Int:=if hand=0 then (s.ao.getD w bA).l else (s.ao.getD w bA).r
def df:bc:=⟨0,0,0,0,false⟩
noncomputable def bV:aA→aw→Nat→ak→Bool:=nL fun r s w a=>
 if a.kind=1 then !(s.ah.contains a.cell) && kz r.wide (s.ah.getD w 0) a.cell
 else if a.kind=2 then bG s w a.hand== -1 && (s.aa.getD a.bd.toNat aS).cell==s.ah.getD w 0
 else if a.kind=3 then decide (0≤bG s w a.hand)
 else if a.kind=4 then decide (0≤bG s w a.hand) && kz r.wide (s.ah.getD w 0) (s.ah.getD a.other.toNat 0) && decide (0≤dM s.ao a.other.toNat)
 else if a.kind=5 then decide (0≤bG s w a.hand) && (r.aa.getD (bG s w a.hand).toNat df).pQ && decide (0≤bG s w (1-a.hand))
 else if a.kind=6 then eS s.aa (bG s w a.hand) 2 && !eS s.aa (bG s w a.hand) 4 && decide (0≤bG s w (1-a.hand)) && !eS s.aa (bG s w (1-a.hand)) 2 && !eS s.aa (bG s w (1-a.hand)) 4
 else if a.kind=7 then decide (0≤bG s w a.hand) && !eS s.aa (bG s w a.hand) 4
 else eS s.aa (bG s w a.hand) 4
theorem dP (r:aA)(s:aw)(w:Nat)(a:ak):bV r s w a=
 if a.kind=1 then !(s.ah.contains a.cell) && kz r.wide (s.ah.getD w 0) a.cell
 else if a.kind=2 then bG s w a.hand== -1 && (s.aa.getD a.bd.toNat aS).cell==s.ah.getD w 0
 else if a.kind=3 then decide (0≤bG s w a.hand)
 else if a.kind=4 then decide (0≤bG s w a.hand) && kz r.wide (s.ah.getD w 0) (s.ah.getD a.other.toNat 0) && decide (0≤dM s.ao a.other.toNat)
 else if a.kind=5 then decide (0≤bG s w a.hand) && (r.aa.getD (bG s w a.hand).toNat df).pQ && decide (0≤bG s w (1-a.hand))
 else if a.kind=6 then eS s.aa (bG s w a.hand) 2 && !eS s.aa (bG s w a.hand) 4 && decide (0≤bG s w (1-a.hand)) && !eS s.aa (bG s w (1-a.hand)) 2 && !eS s.aa (bG s w (1-a.hand)) 4
 else if a.kind=7 then decide (0≤bG s w a.hand) && !eS s.aa (bG s w a.hand) 4
 else eS s.aa (bG s w a.hand) 4:=by rw [bV,cN]
def gg (s:aw):dH:= .box [.pure (.slice (s.ah.map aG)), .pure (.slice (s.ao.map aH.row)), .pure (.slice (s.aa.map bB.row))]
theorem vZ (r:aA) (s:aw) (hl:s.ah.length≤1000000) (cell q1 q2 kind hand bd other q3 q4:Int) (Q:GX→bN→Prop) (fr:Fr)
  (hfr:fr=[(3,aR r),(4,gg s),(5, .box [.pure (.int .i64 q1), .pure (.int .i64 q2), .pure (.int .i64 kind), .pure (.int .i64 hand), .pure (.int .i64 bd), .pure (.int .i64 cell), .pure (.int .i64 other), .pure (.int .i64 q3), .pure (.int .i64 q4)])]):
  ∀k i:Nat,i+k=s.ah.length→
  ((s.ah.drop i).contains cell=false→Q (.exit 1) ⟨[(3, .ay (H.length,3) 0),(4, .ay (H.length,4) 0),(5, .ay (H.length,5) 0),(6,aP)],fr::H,165⟩)→
  ((s.ah.drop i).contains cell=true→Q .ret ⟨[(3, .ay (H.length,3) 0),(4, .ay (H.length,4) 0),(5, .ay (H.length,5) 0),(6, .pure (.bool false))],fr::H,165⟩)→
  gS KC au 84 (lp Tryz.f84 0) [3,4,5,9] [3,4,5,6] Q
   [(3, .ay (H.length,3) 0),(4, .ay (H.length,4) 0),(5, .ay (H.length,5) 0),(9, .pure (.int .i64 i))] (fr::H) 165:=by
 subst hfr;intro k
 induction k with
 |zero=>
  intro i hi h1 h2;have e1:s.ah.drop i=[]:=List.drop_of_length_le (by omega);rw [e1]at h1;apply ax;conv=>arg 4;whnf
  have: ¬i<s.ah.length:=(by omega);simp [this,aR,gg];simpa [aR,gg]using h1 rfl
 |succ k ih=>
  intro i hi h1 h2;have hia:i<s.ah.length:=(by omega);have hw:=dh (x:=(i:Int)+1) (by omega) (by omega);have ih':=ih (i+1) (by omega);rw [List.drop_eq_getElem_cons hia,List.contains_cons]at h1 h2;apply ax;conv=>arg 4;whnf
  by_cases he:s.ah[i]=cell
  ·have ht:(cell==s.ah[i]||(s.ah.drop (i+1)).contains cell)=true:=(by simp [he]);simp [hia,aR,gg,aG,he];simpa [aR,gg]using h2 ht
  ·have he':(s.ah[i]==cell)=false:=(by simpa using he);have he2:(cell==s.ah[i])=false:=(by simpa using fun h=>he h.symm);rw [he2,Bool.false_or]at h1 h2;simp [hia,aR,gg,aG,he',hw];simpa [aR,gg,aG]using ih' h1 h2
theorem zw {r:aA} {s:aw} {w:Nat} {q1 kind bd cell other q3 q4:Int} (hw:w<s.ah.length) (hwh:w<s.ao.length) (hhl:s.ao.length≤1000000) (hpl:s.ah.length≤1000000) (hwide:r.wide≠0)
  (hL: ∀h:w<s.ao.length,s.ao[w].l<s.aa.length∧s.ao[w].r<s.aa.length∧ -1≤s.ao[w].l∧ -1≤s.ao[w].r) (htl:s.aa.length=r.aa.length)
  (h2:kind=2→ ∃t:Nat,bd=t∧t<s.aa.length) (h4:kind=4→ ∃o:Nat,other=o∧o<s.ah.length∧o<s.ao.length) (hH:0<H.length):
  bK KC (aE KC) 84 [.pure (.agg r.row), .pure (.agg s.row), .pure (.agg [.int .i64 q1, .int .i64 w, .int .i64 kind, .int .i64 0, .int .i64 bd, .int .i64 cell, .int .i64 other, .int .i64 q3, .int .i64 q4])] c H=
   some (.pure (.bool (bV r s w ⟨q1,w,kind,0,bd,cell,other,q3,q4⟩)),H):=by
 refine aO (aK KC au Tryz.func84 rfl rfl Hw (by simp) hH ?_);have hd:=dP r s w ⟨q1,w,kind,0,bd,cell,other,q3,q4⟩;obtain⟨l1,l2,l3,l4⟩:=hL hwh;have hg:s.ao.getD w bA=s.ao[w]:=(by simp [List.getD_eq_getElem?_getD,hwh]);have hp:s.ah.getD w 0=s.ah[w]:=(by simp [List.getD_eq_getElem?_getD,hw]);have e1:bG s w 0=s.ao[w].l:=(by unfold bG;rw [hg];simp);have e2:bG s w (1-0)=s.ao[w].r:=(by unfold bG;rw [hg];simp);simp only [e1,e2,hp]at hd;have wr:IntKind.i64.wrap (1-0)=1:=rfl;rw [eE];simp only [aw.row];have sw:(1:Int)-0=1:=rfl;by_cases k1:kind=1
 ·subst k1;rw [if_pos rfl]at hd;simp [hw,hwh,aH.row,wr];have L:=fun Q=>vZ (H:=H) r s hpl cell q1 w 1 0 bd other q3 q4 Q _ rfl s.ah.length 0 (by omega);simp only [aR,gg]at L;refine L _ (fun z=> ?_) (fun z=> ?_)
  ·have z':s.ah.contains cell=false:=(by simpa using z);rw [z',Bool.not_false,Bool.true_and]at hd;simp [hw,hwide,aG,mM,ae,hd]
  ·have z':s.ah.contains cell=true:=(by simpa using z);rw [z',Bool.not_true,Bool.false_and]at hd;simp [ae,hd]
 have k1':(kind==1)=false:=(by simpa using k1);by_cases k2:kind=2
 ·subst k2;obtain⟨t,rfl,ht⟩:=h2 rfl;have hgt:s.aa.getD t aS=s.aa[t]:=(by simp [List.getD_eq_getElem?_getD,ht]);simp [hgt]at hd;by_cases z1:s.ao[w].l= -1
  ·simp [z1]at hd;simp [hw,hwh,aH.row,wr,z1,ht,bB.row,aG,ae,hd]
  ·have z1':(s.ao[w].l== -1)=false:=(by simpa using z1);simp [z1']at hd;simp [hw,hwh,aH.row,wr,z1',ae,hd]
 have k2':(kind==2)=false:=(by simpa using k2);by_cases k3:kind=3
 ·subst k3;simp at hd;simp [hw,hwh,aH.row,wr,ae,hd]
 have k3':(kind==3)=false:=(by simpa using k3);by_cases k4:kind=4
 ·subst k4;obtain⟨o,rfl,ho,ho2⟩:=h4 rfl;have hgo:s.ah.getD o 0=s.ah[o]:=(by simp [List.getD_eq_getElem?_getD,ho]);simp [hgo]at hd;by_cases z1:0≤s.ao[w].l
  ·cases z2:kz r.wide s.ah[w] s.ah[o]with
   |true=>
    simp [z1,z2]at hd;simp [hw,hwh,aH.row,wr,z1,ho,aG,mM,hwide,z2,yd,ho2,hhl,ae,hd]
   |false=>
    simp [z1,z2]at hd;simp [hw,hwh,aH.row,wr,z1,ho,aG,mM,hwide,z2,ae,hd]
  ·simp [z1]at hd;simp [hw,hwh,aH.row,wr,z1,ae,hd]
 have k4':(kind==4)=false:=(by simpa using k4);by_cases k5:kind=5
 ·subst k5;simp at hd;by_cases z1:0≤s.ao[w].l
  ·have n1: ¬s.ao[w].l<0:=(by omega);have n2:(s.ao[w].l).toNat<r.aa.length:=(by omega);have hgt:r.aa[(s.ao[w].l).toNat]?.getD df=r.aa[(s.ao[w].l).toNat]:=(by simp [n2]);rw [hgt]at hd
   cases z2:r.aa[(s.ao[w].l).toNat].pQ with
   |true=>
    simp [z1,z2]at hd;simp [hw,hwh,aH.row,wr,z1,n1,n2,bc.row,z2,ae,hd]
   |false=>
    simp [z1,z2]at hd;simp [hw,hwh,aH.row,wr,z1,n1,n2,bc.row,z2,ae,hd]
  ·simp [z1]at hd;simp [hw,hwh,aH.row,wr,z1,ae,hd]
 have k5':(kind==5)=false:=(by simpa using k5);by_cases k6:kind=6
 ·subst k6;simp at hd;have P:=fun(t st:Int) (ht:t<s.aa.length) (hst:st≠0) (c:Nat) (H:aj) (hH:0<H.length)=>uO (c:=c) (H:=H) (ts:=s.aa) (x1:= .slice (s.ah.map aG)) (x2:= .slice (s.ao.map aH.row)) ht hst hH
  cases z1:eS s.aa s.ao[w].l 2 with
  |false=>
   simp [z1]at hd;simp [hw,hwh,aH.row,wr,P,l1,l2,z1,ae,hd]
  |true=>
  cases z2:eS s.aa s.ao[w].l 4 with
  |true=>
   simp [z1,z2]at hd;simp [hw,hwh,aH.row,wr,P,l1,l2,z1,z2,ae,hd]
  |false=>
  by_cases z3:0≤s.ao[w].r
  ·cases z4:eS s.aa s.ao[w].r 2 with
   |true=>
    simp [z1,z2,z3,z4]at hd;simp [hw,hwh,aH.row,wr,P,l1,l2,z1,z2,z3,z4,ae,hd]
   |false=>
    simp [z1,z2,z3,z4]at hd;simp [hw,hwh,aH.row,wr,P,l1,l2,z1,z2,z3,z4,ae,hd]
  ·simp [z1,z2,z3]at hd;simp [hw,hwh,aH.row,wr,P,l1,l2,z1,z2,z3,ae,hd]
 have k6':(kind==6)=false:=(by simpa using k6);have P:=fun(t st:Int) (ht:t<s.aa.length) (hst:st≠0) (c:Nat) (H:aj) (hH:0<H.length)=>uO (c:=c) (H:=H) (ts:=s.aa) (x1:= .slice (s.ah.map aG)) (x2:= .slice (s.ao.map aH.row)) ht hst hH;by_cases k7:kind=7
 ·subst k7;simp at hd;by_cases z1:0≤s.ao[w].l
  ·simp [z1]at hd;simp [hw,hwh,aH.row,wr,P,l1,l2,z1,ae,hd]
  ·simp [z1]at hd;simp [hw,hwh,aH.row,wr,z1,ae,hd]
 have k7':(kind==7)=false:=(by simpa using k7);simp only [k1,k2,k3,k4,k5,k6,k7,if_false]at hd;simp [hw,hwh,aH.row,wr,P,l1,l2,k1',k2',k3',k4',k5',k6',k7',ae,hd]
theorem zy {r:aA} {s:aw} {w:Nat} {q1 kind bd cell other q3 q4:Int} (hw:w<s.ah.length) (hwh:w<s.ao.length) (hhl:s.ao.length≤1000000) (hpl:s.ah.length≤1000000) (hwide:r.wide≠0)
  (hL: ∀h:w<s.ao.length,s.ao[w].l<s.aa.length∧s.ao[w].r<s.aa.length∧ -1≤s.ao[w].l∧ -1≤s.ao[w].r) (htl:s.aa.length=r.aa.length)
  (h2:kind=2→ ∃t:Nat,bd=t∧t<s.aa.length) (h4:kind=4→ ∃o:Nat,other=o∧o<s.ah.length∧o<s.ao.length) (hH:0<H.length):
  bK KC (aE KC) 84 [.pure (.agg r.row), .pure (.agg s.row), .pure (.agg [.int .i64 q1, .int .i64 w, .int .i64 kind, .int .i64 1, .int .i64 bd, .int .i64 cell, .int .i64 other, .int .i64 q3, .int .i64 q4])] c H=
   some (.pure (.bool (bV r s w ⟨q1,w,kind,1,bd,cell,other,q3,q4⟩)),H):=by
 refine aO (aK KC au Tryz.func84 rfl rfl Hw (by simp) hH ?_);have hd:=dP r s w ⟨q1,w,kind,1,bd,cell,other,q3,q4⟩;obtain⟨l1,l2,l3,l4⟩:=hL hwh;have hg:s.ao.getD w bA=s.ao[w]:=(by simp [List.getD_eq_getElem?_getD,hwh]);have hp:s.ah.getD w 0=s.ah[w]:=(by simp [List.getD_eq_getElem?_getD,hw]);have e1:bG s w 1=s.ao[w].r:=(by unfold bG;rw [hg];simp);have e2:bG s w (1-1)=s.ao[w].l:=(by unfold bG;rw [hg];simp);simp only [e1,e2,hp]at hd;have wr:IntKind.i64.wrap (1-1)=0:=rfl;rw [eE];simp only [aw.row];have sw:(1:Int)-1=0:=rfl;by_cases k1:kind=1
 ·subst k1;rw [if_pos rfl]at hd;simp [hw,hwh,aH.row,wr];have L:=fun Q=>vZ (H:=H) r s hpl cell q1 w 1 1 bd other q3 q4 Q _ rfl s.ah.length 0 (by omega);simp only [aR,gg]at L;refine L _ (fun z=> ?_) (fun z=> ?_)
  ·have z':s.ah.contains cell=false:=(by simpa using z);rw [z',Bool.not_false,Bool.true_and]at hd;simp [hw,hwide,aG,mM,ae,hd]
  ·have z':s.ah.contains cell=true:=(by simpa using z);rw [z',Bool.not_true,Bool.false_and]at hd;simp [ae,hd]
 have k1':(kind==1)=false:=(by simpa using k1);by_cases k2:kind=2
 ·subst k2;obtain⟨t,rfl,ht⟩:=h2 rfl;have hgt:s.aa.getD t aS=s.aa[t]:=(by simp [List.getD_eq_getElem?_getD,ht]);simp [hgt]at hd;by_cases z1:s.ao[w].r= -1
  ·simp [z1]at hd;simp [hw,hwh,aH.row,wr,z1,ht,bB.row,aG,ae,hd]
  ·have z1':(s.ao[w].r== -1)=false:=(by simpa using z1);simp [z1']at hd;simp [hw,hwh,aH.row,wr,z1',ae,hd]
 have k2':(kind==2)=false:=(by simpa using k2);by_cases k3:kind=3
 ·subst k3;simp at hd;simp [hw,hwh,aH.row,wr,ae,hd]
 have k3':(kind==3)=false:=(by simpa using k3);by_cases k4:kind=4
 ·subst k4;obtain⟨o,rfl,ho,ho2⟩:=h4 rfl;have hgo:s.ah.getD o 0=s.ah[o]:=(by simp [List.getD_eq_getElem?_getD,ho]);simp [hgo]at hd;by_cases z1:0≤s.ao[w].r
  ·cases z2:kz r.wide s.ah[w] s.ah[o]with
   |true=>
    simp [z1,z2]at hd;simp [hw,hwh,aH.row,wr,z1,ho,aG,mM,hwide,z2,yd,ho2,hhl,ae,hd]
   |false=>
    simp [z1,z2]at hd;simp [hw,hwh,aH.row,wr,z1,ho,aG,mM,hwide,z2,ae,hd]
  ·simp [z1]at hd;simp [hw,hwh,aH.row,wr,z1,ae,hd]
 have k4':(kind==4)=false:=(by simpa using k4);by_cases k5:kind=5
 ·subst k5;simp at hd;by_cases z1:0≤s.ao[w].r
  ·have n1: ¬s.ao[w].r<0:=(by omega);have n2:(s.ao[w].r).toNat<r.aa.length:=(by omega);have hgt:r.aa[(s.ao[w].r).toNat]?.getD df=r.aa[(s.ao[w].r).toNat]:=(by simp [n2]);rw [hgt]at hd
   cases z2:r.aa[(s.ao[w].r).toNat].pQ with
   |true=>
    simp [z1,z2]at hd;simp [hw,hwh,aH.row,wr,z1,n1,n2,bc.row,z2,ae,hd]
   |false=>
    simp [z1,z2]at hd;simp [hw,hwh,aH.row,wr,z1,n1,n2,bc.row,z2,ae,hd]
  ·simp [z1]at hd;simp [hw,hwh,aH.row,wr,z1,ae,hd]
 have k5':(kind==5)=false:=(by simpa using k5);by_cases k6:kind=6
 ·subst k6;simp at hd;have P:=fun(t st:Int) (ht:t<s.aa.length) (hst:st≠0) (c:Nat) (H:aj) (hH:0<H.length)=>uO (c:=c) (H:=H) (ts:=s.aa) (x1:= .slice (s.ah.map aG)) (x2:= .slice (s.ao.map aH.row)) ht hst hH
  cases z1:eS s.aa s.ao[w].r 2 with
  |false=>
   simp [z1]at hd;simp [hw,hwh,aH.row,wr,P,l1,l2,z1,ae,hd]
  |true=>
  cases z2:eS s.aa s.ao[w].r 4 with
  |true=>
   simp [z1,z2]at hd;simp [hw,hwh,aH.row,wr,P,l1,l2,z1,z2,ae,hd]
  |false=>
  by_cases z3:0≤s.ao[w].l
  ·cases z4:eS s.aa s.ao[w].l 2 with
   |true=>
    simp [z1,z2,z3,z4]at hd;simp [hw,hwh,aH.row,wr,P,l1,l2,z1,z2,z3,z4,ae,hd]
   |false=>
    simp [z1,z2,z3,z4]at hd;simp [hw,hwh,aH.row,wr,P,l1,l2,z1,z2,z3,z4,ae,hd]
  ·simp [z1,z2,z3]at hd;simp [hw,hwh,aH.row,wr,P,l1,l2,z1,z2,z3,ae,hd]
 have k6':(kind==6)=false:=(by simpa using k6);have P:=fun(t st:Int) (ht:t<s.aa.length) (hst:st≠0) (c:Nat) (H:aj) (hH:0<H.length)=>uO (c:=c) (H:=H) (ts:=s.aa) (x1:= .slice (s.ah.map aG)) (x2:= .slice (s.ao.map aH.row)) ht hst hH;by_cases k7:kind=7
 ·subst k7;simp at hd;by_cases z1:0≤s.ao[w].r
  ·simp [z1]at hd;simp [hw,hwh,aH.row,wr,P,l1,l2,z1,ae,hd]
  ·simp [z1]at hd;simp [hw,hwh,aH.row,wr,z1,ae,hd]
 have k7':(kind==7)=false:=(by simpa using k7);simp only [k1,k2,k3,k4,k5,k6,k7,if_false]at hd;simp [hw,hwh,aH.row,wr,P,l1,l2,k1',k2',k3',k4',k5',k6',k7',ae,hd]
end
section
variable {c:Nat} {H:aj}
def b8 (aN kind hand bd cell other:Int):ak:=⟨0,aN,kind,hand,bd,cell,other,0,0⟩
def gC (aN:Int)(k i:Nat):List ak:=(List.range' i k).map fun(x:Nat)=>b8 aN 1 0 0 x 0
def ib (aN hand:Int)(k i:Nat):List ak:=(List.range' i k).map fun(x:Nat)=>b8 aN 2 hand x 0 0
def gw (aN hand:Int)(k i:Nat):List ak:=((List.range' i k).filter fun(x:Nat)=> !((x:Int)==aN)).map fun(x:Nat)=>b8 aN 4 hand 0 0 x
def ic (nt np:Nat)(aN:Int)(kind:Nat)(hand:Int):List ak:=if kind=2 then ib aN hand nt 0 else if kind=4 then gw aN hand np 0 else [b8 aN kind hand 0 0 0]
def nR (nt np:Nat)(aN:Int)(kind:Nat):List ak:=ic nt np aN kind 0++ic nt np aN kind 1
def fE (nt np:Nat)(aN:Int)(k i:Nat):List ak:=(List.range' i k).flatMap (nR nt np aN)
def bJ (n nt np:Nat)(aN:Int):List ak:=gC aN n 0++fE nt np aN 7 2
theorem qM (aN:Int)(k i:Nat):gC aN (k+1) i=b8 aN 1 0 0 i 0::gC aN k (i+1):=by simp [gC,List.range'_succ]
theorem tM (aN hand:Int)(k i:Nat):ib aN hand (k+1) i=b8 aN 2 hand i 0 0::ib aN hand k (i+1):=by simp [ib,List.range'_succ]
theorem oT (aN hand:Int)(k i:Nat):gw aN hand (k+1) i=if (i:Int)=aN then gw aN hand k (i+1)else b8 aN 4 hand 0 0 i::gw aN hand k (i+1):=by
 by_cases h:(i:Int)=aN
 ·simp [gw,List.range'_succ,h]
 ·simp [gw,List.range'_succ,h]
theorem oU (nt np:Nat)(aN:Int)(k i:Nat):fE nt np aN (k+1) i=nR nt np aN i++fE nt np aN k (i+1):=by simp [fE,List.range'_succ]
theorem Dd (aN hand:Int)(k i:Nat):(ib aN hand k i).length=k:=by simp [ib]
theorem De (aN hand:Int)(k i:Nat):(gw aN hand k i).length≤k:=by
 simp only [gw,List.length_map];exact Nat.le_trans (List.length_filter_le _ _) (by simp)
theorem sX (nt np:Nat)(aN:Int)(kind:Nat)(hand:Int):(ic nt np aN kind hand).length≤nt+np+1:=by
 have:=De aN hand np 0;have:=Dd aN hand nt 0;unfold ic;split
 ·omega
 ·split
  ·omega
  ·simp
theorem ye (nt np:Nat)(aN:Int)(kind:Nat):(nR nt np aN kind).length≤2*(nt+np+1):=by
 have:=sX nt np aN kind 0;have:=sX nt np aN kind 1;simp only [nR,List.length_append];omega
def qN (r:aA)(l:List ak):Fr:=[(2,aR r),(26, .arr 9 (l.map ak.row) 0 false)]
def qO (L:Nat)(l:List ak):GV:= .a8 (L,26) 9 l.length 0 l.length
theorem Nh (r:aA)(aN hand:Int)(nt:Nat)(hnt:r.aa.length=nt)(hb:nt≤1000000)(Q:GX→bN→Prop): ∀(k i:Nat) (l:List ak) (x:Int),i+k=nt→l.length+k≤100000000→
  (∀y,Q (.exit 7) ⟨[(1, .pure (.int .i64 aN)),(2, .ay (H.length,2) 0),(5,qO H.length (l++ib aN hand k i)),(7, .pure (.int .i64 2)),(8, .pure (.int .i64 hand))],[(9,bW (b8 aN 2 hand y 0 0))]::[]::qN r (l++ib aN hand k i)::H,78⟩)→
  gS KC au 25 (lp Tryz.f25 3) [1,2,5,7,8,9,10] [1,2,5,7,8] Q
   [(1, .pure (.int .i64 aN)),(2, .ay (H.length,2) 0),(5,qO H.length l),(7, .pure (.int .i64 2)),(8, .pure (.int .i64 hand)),(9, .ay (H.length+2,9) 0),(10, .pure (.int .i64 i))]
   ([(9,bW (b8 aN 2 hand x 0 0))]::[]::qN r l::H) 78:=by
 intro k
 induction k with
 |zero=>
  intro i l x hi hl h1;have e0:ib aN hand 0 i=[]:=rfl;rw [e0,List.append_nil]at h1;have: ¬i<nt:=(by omega);apply ax;conv=>arg 4;whnf
  simp [qN,qO,aR,bW,b8,hnt,this];simpa [qN,qO,aR,bW,b8]using h1 x
 |succ k ih=>
  intro i l x hi hl h1;have hia:i<nt:=(by omega);have hw:=dh (x:=(i:Int)+1) (by omega) (by omega);rw [tM]at h1;have ih':=ih (i+1) (l++[b8 aN 2 hand i 0 0]) i (by omega) (by simp;omega);simp only [List.append_assoc,List.singleton_append]at ih';have hb2:(l.length+1)*72≤1099511627776:=(by omega);apply ax;conv=>arg 4;whnf
  simp [qN,qO,aR,bW,b8,hnt,hia,hw,hb2];have:=ih' h1;simpa [qN,qO,aR,bW,b8,ak.row]using this
theorem Ni (r:aA)(aN hand:Int)(np:Nat)(hnp:r.ah.length=np)(hb:np≤1000000)(Q:GX→bN→Prop): ∀(k i:Nat) (l:List ak) (x:Int),i+k=np→l.length+k≤100000000→l≠[]→
  (∀y,Q (.exit 9) ⟨[(1, .pure (.int .i64 aN)),(2, .ay (H.length,2) 0),(5,qO H.length (l++gw aN hand k i)),(7, .pure (.int .i64 4)),(8, .pure (.int .i64 hand))],[(9,bW (b8 aN 4 hand 0 0 y))]::[]::qN r (l++gw aN hand k i)::H,78⟩)→
  gS KC au 25 (lp Tryz.f25 4) [1,2,5,7,8,9,11] [1,2,5,7,8] Q
   [(1, .pure (.int .i64 aN)),(2, .ay (H.length,2) 0),(5,qO H.length l),(7, .pure (.int .i64 4)),(8, .pure (.int .i64 hand)),(9, .ay (H.length+2,9) 0),(11, .pure (.int .i64 i))]
   ([(9,bW (b8 aN 4 hand 0 0 x))]::[]::qN r l::H) 78:=by
 intro k
 induction k with
 |zero=>
  intro i l x hi hl hne h1;have e0:gw aN hand 0 i=[]:=rfl;rw [e0,List.append_nil]at h1;have: ¬i<np:=(by omega);apply ax;conv=>arg 4;whnf
  simp [qN,qO,aR,bW,b8,hnp,this];simpa [qN,qO,aR,bW,b8]using h1 x
 |succ k ih=>
  intro i l x hi hl hne h1;have hia:i<np:=(by omega);have hw:=dh (x:=(i:Int)+1) (by omega) (by omega);rw [oT]at h1;have hb2:(l.length+1)*72≤1099511627776:=(by omega);by_cases hwho:(i:Int)=aN
  ·rw [if_pos hwho]at h1;have ih':=ih (i+1) l i (by omega) (by omega) hne h1;apply ax;conv=>arg 4;whnf
   have hwho':((i:Int)==aN)=true:=(by simpa using hwho);simp [qN,qO,aR,bW,b8,hnp,hia,hw,hb2,bne,hwho'];simpa [qN,qO,aR,bW,b8,ak.row]using ih'
  ·rw [if_neg hwho]at h1;have ih':=ih (i+1) (l++[b8 aN 4 hand 0 0 i]) i (by omega) (by simp;omega) (by simp);simp only [List.append_assoc,List.singleton_append]at ih';have hwho':((i:Int)==aN)=false:=(by simpa using hwho);apply ax;conv=>arg 4;whnf
   simp [qN,qO,aR,bW,b8,hnp,hia,hw,hb2,bne,hwho'];have:=ih' h1;simpa [qN,qO,aR,bW,b8,ak.row]using this
theorem Es (r:aA) (aN hand:Int) (kind:Nat) (hh:hand=0∨hand=1) (hk:2≤kind∧kind≤8) (nt np:Nat) (hnt:r.aa.length=nt) (hnp:r.ah.length=np) (hb1:nt≤1000000) (hb2:np≤1000000)
  (Q:GX→bN→Prop) (l:List ak) (hl:l.length≤50000000) (hne:l≠[])
  (h:gS KC au 25 (lp Tryz.f25 2) [1,2,5,7,8] [1,2,5,7] Q
   [(1, .pure (.int .i64 aN)),(2, .ay (H.length,2) 0),(5,qO H.length (l++ic nt np aN kind hand)),(7, .pure (.int .i64 kind)),(8, .pure (.int .i64 (hand+1)))] ([]::qN r (l++ic nt np aN kind hand)::H) 78):
  gS KC au 25 (lp Tryz.f25 2) [1,2,5,7,8] [1,2,5,7] Q
   [(1, .pure (.int .i64 aN)),(2, .ay (H.length,2) 0),(5,qO H.length l),(7, .pure (.int .i64 kind)),(8, .pure (.int .i64 hand))] ([]::qN r l::H) 78:=by
 have hw:=dh (x:=hand+1) (by omega) (by omega);have hlt:hand<2:=(by omega);have hb3:(l.length+1)*72≤1099511627776:=(by omega);have w2:IntKind.i64.wrap 2=2:=rfl;apply ax;conv=>arg 4;whnf
 by_cases k2:kind=2
 ·subst k2;have e:ic nt np aN 2 hand=ib aN hand nt 0:=(by simp [ic]);rw [e]at h;have L:=fun Q h=>Nh (H:=H) r aN hand nt hnt hb1 Q nt 0 l 0 (by omega) (by omega) h;simp [qN,qO,aR,bW,b8]at L h;simp [qN,qO,aR,hlt];refine L _ fun y=> ?_;simp [hw];exact h
 ·by_cases k4:kind=4
  ·subst k4;have e:ic nt np aN 4 hand=gw aN hand np 0:=(by simp [ic]);rw [e]at h;have L:=fun Q h=>Ni (H:=H) r aN hand np hnp hb2 Q np 0 l 0 (by omega) (by omega) hne h;simp [qN,qO,aR,bW,b8]at L h;simp [qN,qO,aR,hlt];refine L _ fun y=> ?_;simp [hw];exact h
  ·have e:ic nt np aN kind hand=[b8 aN kind hand 0 0 0]:=(by simp [ic,k2,k4]);rw [e]at h;have k2':((kind:Int)==2)=false:=(by simp;omega);have k4':((kind:Int)==4)=false:=(by simp;omega);simp [qN,qO,aR,b8,ak.row]at h;simp [qN,qO,aR,hlt,k2',k4',hb3,hw];exact h
theorem Nj (r:aA) (aN:Int) (kind:Nat) (hk:2≤kind∧kind≤8) (nt np:Nat) (hnt:r.aa.length=nt) (hnp:r.ah.length=np) (hb1:nt≤1000000) (hb2:np≤1000000)
  (Q:GX→bN→Prop) (l:List ak) (hl:l.length≤40000000) (hne:l≠[])
  (h:Q (.exit 4) ⟨[(1, .pure (.int .i64 aN)),(2, .ay (H.length,2) 0),(5,qO H.length (l++nR nt np aN kind)),(7, .pure (.int .i64 kind))],[]::qN r (l++nR nt np aN kind)::H,78⟩):
  gS KC au 25 (lp Tryz.f25 2) [1,2,5,7,8] [1,2,5,7] Q
   [(1, .pure (.int .i64 aN)),(2, .ay (H.length,2) 0),(5,qO H.length l),(7, .pure (.int .i64 kind)),(8, .pure (.int .i64 0))] ([]::qN r l::H) 78:=by
 have l0:=sX nt np aN kind 0;refine Es r aN 0 kind (.inl rfl) hk nt np hnt hnp hb1 hb2 Q l (by omega) hne ?_;refine Es r aN 1 kind (.inr rfl) hk nt np hnt hnp hb1 hb2 Q _ (by simp;omega) (by simp [hne]) ?_;rw [nR,←List.append_assoc]at h;apply ax;conv=>arg 4;whnf
 simp [qN,qO]at h⊢;exact h
theorem Nk (r:aA) (aN:Int) (nt np:Nat) (hnt:r.aa.length=nt) (hnp:r.ah.length=np) (hb1:nt≤1000000) (hb2:np≤1000000)
  (Q:GX→bN→Prop): ∀(k i:Nat) (l:List ak),i+k=9→2≤i→l.length+5000000*k≤39000000→l≠[]→
  Q (.exit 2) ⟨[(5,qO H.length (l++fE nt np aN k i))],qN r (l++fE nt np aN k i)::H,78⟩→
  gS KC au 25 (lp Tryz.f25 1) [1,2,5,7] [5] Q
   [(1, .pure (.int .i64 aN)),(2, .ay (H.length,2) 0),(5,qO H.length l),(7, .pure (.int .i64 i))] (qN r l::H) 78:=by
 intro k
 induction k with
 |zero=>
  intro i l hi h2 hl hne h1;have e0:fE nt np aN 0 i=[]:=rfl;rw [e0,List.append_nil]at h1;have:i=9:=(by omega);subst this;apply ax;conv=>arg 4;whnf
  simp [qN,qO]at h1⊢;exact h1
 |succ k ih=>
  intro i l hi h2 hl hne h1;have hw:=dh (x:=(i:Int)+1) (by omega) (by omega);have hle:(i:Int)≤8:=(by omega);rw [oU,←List.append_assoc]at h1;have lb:=ye nt np aN i;have ih':=ih (i+1) (l++nR nt np aN i) (by omega) (by omega) (by simp;omega) (by simp [hne]) h1;apply ax;conv=>arg 4;whnf
  have L:=fun Q h=>Nj (H:=H) r aN i (by omega) nt np hnt hnp hb1 hb2 Q l (by omega) hne h;simp [qN,qO]at L ih';simp [qN,qO,hle];refine L _ ?_;simp [hw];exact ih'
theorem Nl (r:aA)(aN:Int)(n:Nat)(hn:IntKind.i64.wrap (r.wide*r.deep)=n)(hb:n≤1000000)(Q:GX→bN→Prop): ∀(k i:Nat) (l:List ak),i+k=n→l.length+k≤1000000→
  Q (.exit 0) ⟨[(1, .pure (.int .i64 aN)),(2, .ay (H.length,2) 0),(5,dG (H.length,26) 9 ((l++gC aN k i).map ak.row))],fX 26 9 ((l++gC aN k i).map ak.row) [(2,aR r)]::H,78⟩→
  gS KC au 25 (lp Tryz.f25 0) [1,2,5,6] [1,2,5] Q
   [(1, .pure (.int .i64 aN)),(2, .ay (H.length,2) 0),(5,dG (H.length,26) 9 (l.map ak.row)),(6, .pure (.int .i64 i))] (fX 26 9 (l.map ak.row) [(2,aR r)]::H) 78:=by
 intro k
 induction k with
 |zero=>
  intro i l hi hl h1;have e0:gC aN 0 i=[]:=rfl;rw [e0,List.append_nil]at h1;have: ¬i<n:=(by omega);apply ax;conv=>arg 4;whnf
  simp [aR,hn,this];simpa [aR]using h1
 |succ k ih=>
  intro i l hi hl h1;have hia:i<n:=(by omega);have hw:=dh (x:=(i:Int)+1) (by omega) (by omega);rw [qM]at h1;have ih':=ih (i+1) (l++[b8 aN 1 0 0 i 0]) (by omega) (by simp;omega);simp only [List.append_assoc,List.singleton_append]at ih';have hb2:(l.length+1)*72≤1099511627776:=(by omega);apply ax;conv=>arg 4;whnf
  simp [aR,hn,hia,hw,hb2,Fr.get];have:=ih' h1;simpa [aR,b8,ak.row]using this
theorem AW (r:aA)(aN:Int)(n nt np:Nat)(hn:IntKind.i64.wrap (r.wide*r.deep)=n)(hn0:0<n)(hb:n≤1000000)(hnt:r.aa.length=nt)(hnp:r.ah.length=np)(hb1:nt≤1000000)(hb2:np≤1000000)(hH:0<H.length):
  aL KC (aE KC) 25 [.pure (.agg r.row), .pure (.int .i64 aN)] c H=some (.pure (.slice ((bJ n nt np aN).map ak.row)),H):=by
 refine aO ?_;rw [show aL KC (aE KC) 25 [.pure (.agg r.row), .pure (.int .i64 aN)] c H=bK KC (aE KC) 25 [.pure (.agg r.row), .pure (.int .i64 aN)] c H from tN KC rfl rfl rfl]
 refine aK KC au Tryz.func25 rfl rfl SM (by simp) hH ?_;rw [eE];simp;have L:=fun Q h=>Nl (H:=H) r aN n hn hb Q n 0 [] (by omega) (by simp;omega) h;simp [fZ,gb,aR]at L;refine L _ ?_;have hne:gC aN n 0≠[]:=by
  obtain⟨m,rfl⟩: ∃m,n=m+1:=⟨n-1,by omega⟩;rw [qM];simp
 have hlen:(gC aN n 0).length=n:=(by simp [gC]);have L2:=fun Q h=>Nk (H:=H) r aN nt np hnt hnp hb1 hb2 Q 7 2 (gC aN n 0) rfl (by omega) (by omega) hne h;simp [qN,qO,aR]at L2;simp [dG,fX,hne,Fr.ins];refine L2 _ ?_;have e:bJ n nt np aN=gC aN n 0++fE nt np aN 7 2:=rfl;have hnl: ¬H.length≤H.length-1:=(by omega);have t1:List.take ((gC aN n 0).length+(fE nt np aN 7 2).length) (List.map ak.row (gC aN n 0)++List.map ak.row (fE nt np aN 7 2))=List.map ak.row (gC aN n 0)++List.map ak.row (fE nt np aN 7 2):=List.take_of_length_le (by simp);simp [ae,e,hne,hnl,t1]
end
section
variable {c:Nat} {H:aj}
structure FN (r:aA)(s:aw):Prop where
 pl:s.ah.length=r.ah.length
 hl:s.ao.length=r.ah.length
 tl:s.aa.length=r.aa.length
 hr: ∀i (h:i<s.ao.length),s.ao[i].l<s.aa.length∧s.ao[i].r<s.aa.length∧ -1≤s.ao[i].l∧ -1≤s.ao[i].r
structure ZO (np nt w:Nat)(a:ak):Prop where
 aN:a.aN=w
 hand:a.hand=0∨a.hand=1
 bd:a.kind=2→ ∃t:Nat,a.bd=t∧t<nt
 other:a.kind=4→ ∃o:Nat,a.other=o∧o<np
theorem FO {n nt np w:Nat}{a:ak}(h:a∈bJ n nt np w):ZO np nt w a:=by
 have one: ∀hand kind:Nat,(hand=0∨hand=1)→a∈ic nt np w kind hand→ZO np nt w a:=fun hand kind hh ha=>by
  have hh':(hand:Int)=0∨(hand:Int)=1:=(by omega);unfold ic at ha;split at ha
  ·simp only [ib,List.mem_map,List.mem_range']at ha;obtain⟨x,⟨i,hi,rfl⟩,rfl⟩:=ha;exact⟨rfl,hh',fun _=>⟨_,rfl,by omega⟩,fun h=>by simp [b8]at h⟩
  ·split at ha
   ·simp only [gw,List.mem_map,List.mem_filter,List.mem_range']at ha;obtain⟨x,⟨⟨i,hi,rfl⟩,_⟩,rfl⟩:=ha;exact⟨rfl,hh',fun h=>by simp [b8]at h,fun _=>⟨_,rfl,by omega⟩⟩
   ·rename_i k2 k4;simp only [List.mem_singleton]at ha;subst ha;exact⟨rfl,hh',fun h=>by simp [b8]at h;omega,fun h=>by simp [b8]at h;omega⟩
 simp only [bJ,List.mem_append]at h;rcases h with h|h
 ·simp only [gC,List.mem_map,List.mem_range']at h;obtain⟨x,⟨i,hi,rfl⟩,rfl⟩:=h;exact⟨rfl, .inl rfl,fun h=>by simp [b8]at h,fun h=>by simp [b8]at h⟩
 ·simp only [fE,List.mem_flatMap,nR,List.mem_append]at h;obtain⟨k,_,h|h⟩:=h
  ·exact one 0 k (.inl rfl) h
  ·exact one 1 k (.inr rfl) h
theorem qg (n nt np:Nat)(aN:Int):(bJ n nt np aN).length≤n+14*(nt+np+1):=by
 have h: ∀k i,(fE nt np aN k i).length≤k*(2*(nt+np+1)):=by
  intro k
  induction k with
  |zero=>intro i;simp [fE]
  |succ k ih=>
   intro i;rw [oU,List.length_append,Nat.add_mul];have:=ye nt np aN i;have:=ih (i+1);omega
 have:=h 7 2;simp only [bJ,List.length_append,gC,List.length_map,List.length_range'];omega
theorem Bi {r:aA}{s:aw}{w:Nat}{a:ak}(hs:FN r s)(hw:w<r.ah.length)(hpl:r.ah.length≤1000000)(hwide:r.wide≠0)(ha:ZO r.ah.length r.aa.length w a)(hH:0<H.length):
  bK KC (aE KC) 84 [.pure (.agg r.row), .pure (.agg s.row), .pure (.agg a.row)] c H=some (.pure (.bool (bV r s w a)),H):=by
 obtain⟨q1,aN,kind,hand,bd,cell,other,q3,q4⟩:=a;obtain⟨h1,h2,h3,h4⟩:=ha;simp only at h1 h2 h3 h4;subst h1;have e1:=hs.pl;have e2:=hs.hl;have e3:=hs.tl;rcases h2 with rfl|rfl
 ·exact zw (by omega) (by omega) (by omega) (by omega) hwide (fun h=>hs.hr w h) e3 (fun h=>by obtain⟨t,a,b⟩:=h3 h;exact⟨t,a,by omega⟩) (fun h=>by obtain⟨t,a,b⟩:=h4 h;exact⟨t,a,by omega,by omega⟩) hH
 ·exact zy (by omega) (by omega) (by omega) (by omega) hwide (fun h=>hs.hr w h) e3 (fun h=>by obtain⟨t,a,b⟩:=h3 h;exact⟨t,a,by omega⟩) (fun h=>by obtain⟨t,a,b⟩:=h4 h;exact⟨t,a,by omega,by omega⟩) hH
theorem zz {r:aA}{s:aw}{w:Nat}{a:ak}(hs:FN r s)(hw:w<r.ah.length)(hpl:r.ah.length≤1000000)(hwide:r.wide≠0)(ha:ZO r.ah.length r.aa.length w a)(hH:0<H.length):
  aL KC (aE KC) 84 [.pure (.agg r.row), .pure (.agg s.row), .pure (.agg a.row)] c H=some (.pure (.bool (bV r s w a)),H):=eF rfl rfl rfl rfl rfl hH fun H hH=>Bi hs hw hpl hwide ha hH
noncomputable def eV:aA→aw→Nat→List ak→List ak:=nL fun r s w l=>l.flatMap fun a=>if bV r s w a=true then (if a.kind=1 then [a]else [a,a,a])else []
theorem qP (r:aA)(s:aw)(w:Nat)(l:List ak):eV r s w l=l.flatMap fun a=>if bV r s w a=true then (if a.kind=1 then [a]else [a,a,a])else []:=by rw [eV,cN]
theorem v5 (r:aA)(s:aw)(w:Nat):eV r s w []=[]:=by rw [qP];rfl
theorem tQ (r:aA)(s:aw)(w:Nat)(a:ak)(l:List ak):eV r s w (a::l)=(if bV r s w a=true then (if a.kind=1 then [a]else [a,a,a])else [])++eV r s w l:=by simp only [qP,List.flatMap_cons]
theorem Ca {r:aA}{s:aw}{w:Nat}{a:ak}{l:List ak}(h:a∈eV r s w l):a∈l∧bV r s w a=true:=by
 rw [qP,List.mem_flatMap]at h;obtain⟨x,hx,h⟩:=h;split at h
 ·rename_i hp;split at h
  ·simp at h;subst h;exact⟨hx,hp⟩
  ·simp at h;subst h;exact⟨hx,hp⟩
 ·simp at h
theorem qf (r:aA)(s:aw)(w:Nat): ∀l:List ak,(eV r s w l).length≤3*l.length
 | []=>by simp [v5]
 |a::l=>by
  have:=qf r s w l;rw [tQ,List.length_append,List.length_cons];split
  ·split<;>simp<;>omega
  ·simp;omega
theorem T3 {key cX es:Nat}{rows:List (List PV)}{fr f0:Fr}{l bytes:Nat}{r r1 r2:List PV}(hl:H.length=l)(hf:fr.get key=none)(hb:(rows.length+1+2)*bytes≤1099511627776):
  zW l cX (dG (l,key) es (rows++[r])) es bytes [r1,r2] (f0::fX key es (rows++[r]) fr::H)=some (dG (l,key) es (rows++[r,r1,r2]),f0::fX key es (rows++[r,r1,r2]) fr::H):=by
 subst hl;simp [dG,fX,hb,Fr.bQ,Fr.jj]
def nv (r:aA)(s:aw):Fr:=[(5,aR r),(6,gg s),(8,bW bH)]
theorem Df (r:aA)(s:aw)(w:Nat)(hs:FN r s)(hw:w<r.ah.length)(hpl:r.ah.length≤1000000)(hwide:r.wide≠0)(all:List ak)(hall: ∀a∈all,ZO r.ah.length r.aa.length w a)(hal:all.length≤30000000)(nm:Nm)(hnm:nm.1<H.length)(Q:GX→bN→Prop):
  ∀(k i:Nat) (l:List ak),i+k=all.length→l.length≤3*i→
  Q (.exit 0) ⟨[(0, .ay nm 0),(8, .ay (H.length,8) 0),(10,dG (H.length,35) 9 ((l++eV r s w (all.drop i)).map ak.row))],fX 35 9 ((l++eV r s w (all.drop i)).map ak.row) (nv r s)::H,64⟩→
  gS KC au 49 (lp Tryz.f49 0) [0,5,6,8,10,11,12] [0,8,10] Q
   [(0, .ay nm 0),(5, .ay (H.length,5) 0),(6, .ay (H.length,6) 0),(8, .ay (H.length,8) 0),(10,dG (H.length,35) 9 (l.map ak.row)),(11, .pure (.slice (all.map ak.row))),(12, .pure (.int .i64 i))]
   (fX 35 9 (l.map ak.row) (nv r s)::H) 64:=by
 have hle:nm.1≤H.length:=(by omega);intro k
 induction k with
 |zero=>
  intro i l hi hl h1;have e1:all.drop i=[]:=List.drop_of_length_le (by omega);rw [e1,v5,List.append_nil]at h1;have: ¬i<all.length:=(by omega);apply ax;conv=>arg 4;whnf
  simp [this,hle];exact h1
 |succ k ih=>
  intro i l hi hl h1;have hia:i<all.length:=(by omega);have hw1:=dh (x:=(i:Int)+1) (by omega) (by omega);have hev:=hall all[i] (List.getElem_mem hia);have P:=fun(c:Nat) (H:aj) (hH:0<H.length)=>zz (c:=c) (H:=H) hs hw hpl hwide hev hH;simp only [eE,aw.row,ak.row]at P;rw [List.drop_eq_getElem_cons hia,tQ,←List.append_assoc]at h1;apply ax;conv=>arg 4;whnf
  cases hp:bV r s w all[i]with
  |false=>
   simp only [hp,Bool.false_eq_true,if_false,List.append_nil]at h1;have ih':=ih (i+1) l (by omega) (by omega) h1;simp [nv,aR,gg,bW,hia,ak.row,P,hp,hw1,hle,Fr.get];simpa [nv,aR,gg,bW,ak.row]using ih'
  |true=>
   have hb:(l.length+1)*72≤1099511627776:=(by omega);have hl4:l.length+3≤90000003:=(by omega);have hb2:(l.length+1+2)*72≤1099511627776:=Nat.le_trans (Nat.mul_le_mul_right 72 (show l.length+1+2≤90000003 from hl4)) (by decide)
   have hi1:(i+1)+k=all.length:=(by omega);have hl1:(l++[all[i]]).length≤3*(i+1):=(by simp;omega);have hl3:(l++[all[i],all[i],all[i]]).length≤3*(i+1):=(by simp;omega);by_cases hk:all[i].kind=1
   ·simp only [hp,hk,if_true]at h1;have ih':=ih (i+1) (l++[all[i]]) hi1 hl1 h1;have hk':(all[i].kind==1)=true:=(by simpa using hk);simp [nv,aR,gg,bW,hia,ak.row,P,hp,hw1,hle,hb,bne,hk',Fr.get];simpa [nv,aR,gg,bW,ak.row]using ih'
   ·have hk':(all[i].kind==1)=false:=(by simpa using hk);simp only [hp,hk,if_true,if_false]at h1;have ih':=ih (i+1) (l++[all[i],all[i],all[i]]) hi1 hl3 h1;simp [nv,aR,gg,bW,hia,ak.row,P,hp,hw1,hle,hb,bne,hk',Fr.get,T3,hb2];simpa [nv,aR,gg,bW,ak.row]using ih'
noncomputable def fV:aA→aw→Nat→List ak→Int→(ak×Bool)×Int:=nL fun r s w all wd=>
 if eV r s w all=[]then ((bH,false),wd)else (((eV r s w all).getD (kS wd (eV r s w all).length).1.toNat bH,true),(kS wd (eV r s w all).length).2)
theorem uT (r:aA)(s:aw)(w:Nat)(all:List ak)(wd:Int):fV r s w all wd=
 if eV r s w all=[]then ((bH,false),wd)else (((eV r s w all).getD (kS wd (eV r s w all).length).1.toNat bH,true),(kS wd (eV r s w all).length).2):=by rw [fV,cN]
theorem IC (r:aA)(s:aw)(w n:Nat)(hs:FN r s)(hw:w<r.ah.length)(hpl:r.ah.length≤1000000)(htl:r.aa.length≤1000000)(hwide:r.wide≠0)(hn:IntKind.i64.wrap (r.wide*r.deep)=n)(hn0:0<n)(hnb:n≤1000000){nm:Nm}(hB:fS H nm):
  bK KC (aE KC) 49 [.ay nm 0, .pure (.agg r.row), .pure (.agg s.row), .pure (.int .i64 w)] c H=
   some (.pure (.tuple [.agg (fV r s w (bJ n r.aa.length r.ah.length w) (bD H nm)).1.1.row, .bool (fV r s w (bJ n r.aa.length r.ah.length w) (bD H nm)).1.2]),H.set nm (bz (fV r s w (bJ n r.aa.length r.ah.length w) (bD H nm)).2)):=by
 have hlt:=gT hB;have hset:=kH hB;have hne: ¬nm.1=H.length:=(by omega);have hle:nm.1≤H.length:=(by omega);refine aO (aK KC au Tryz.func49 rfl rfl S5 (by simp) (by omega) ?_);have E:=fun c (H:aj) (hH:0<H.length)=>AW (c:=c) (H:=H) r w n r.aa.length r.ah.length hn hn0 hnb rfl rfl htl hpl hH;have el:=qg n r.aa.length r.ah.length (w:Int);have L:=fun Q h=>Df (H:=H) r s w hs hw hpl hwide (bJ n r.aa.length r.ah.length w) (fun a ha=>FO ha) (by omega) nm hlt Q _ 0 [] (Nat.zero_add _) (by simp) h;have hd:=uT r s w (bJ n r.aa.length r.ah.length w) (bD H nm);have ml:=qf r s w (bJ n r.aa.length r.ah.length w);rw [eE]at E⊢;simp only [aw.row];simp [fZ,gb,nv,aR,gg,bW,bH]at L;simp [E];refine L _ ?_;generalize eV r s w (bJ n r.aa.length r.ah.length w)=l at*;generalize fV r s w (bJ n r.aa.length r.ah.length w) (bD H nm)=res at*;by_cases hl:l=[]
 ·subst hl;simp at hd;subst hd;simp [fZ,gb,ae,ak.row,bH,hset]
 ·rw [if_neg hl]at hd;have hl0:0<l.length:=List.length_pos_iff.2 hl;have hll:(l.length:Int)≤9223372036854775807:=(by omega);have hr:=jS (bD H nm) l.length hll;have h3: ¬(kS (bD H nm) l.length).1<0:=(by omega);have h4:(kS (bD H nm) l.length).1.toNat<l.length:=(by have:=hr;omega);have h5:(kS (bD H nm) l.length).1<(l.length:Int):=(by have:=hr;omega);have hl2:((l.length:Int)==0)=false:=beq_eq_false_iff_ne.2 (by omega);have hgd:l.getD (kS (bD H nm) l.length).1.toNat bH=l[(kS (bD H nm) l.length).1.toNat]:=(by simp [List.getD_eq_getElem?_getD,h4]);rw [hgd]at hd;subst hd;have hB': ∀fr,fS (fr::H) nm:=fun fr=>dN hB;simp [dG,fX,hl,hl2,kv,hB',hll,dq,hlt,hne,aj.dQ,h3,h4,h5,ae,ak.row,Fr.ins]
end
section
variable {c:Nat} {H:aj}
def empty:aH:=⟨-1,-1⟩
def eW (t:bc):bB:=⟨t.cell,t.state⟩
def aF (r:aA):aw:=⟨r.ah.map (·.cell),r.ah.map fun _=>empty,r.aa.map eW⟩
def T4 (r:aA)(L:Nat)(p:List Int)(h:List aH):Fr:=
 [(1,aR r),(2, .box [.aV, .aV, .aV]),(3, .box [.a8 (L,22) 1 p.length 0 p.length, .a8 (L,27) 2 h.length 0 h.length, .aV]),(22, .arr 1 (p.map aG) 0 false),(27, .arr 2 (h.map aH.row) 0 false)]
def T5 (r:aA)(L:Nat)(p:List Int)(h:List aH)(t:List bB):Fr:=
 [(1,aR r),(2, .box [.aV, .aV, .aV]),(3, .box [.a8 (L,22) 1 p.length 0 p.length, .a8 (L,27) 2 h.length 0 h.length, .a8 (L,53) 2 t.length 0 t.length]),(22, .arr 1 (p.map aG) 0 false),(27, .arr 2 (h.map aH.row) 0 false),(53, .arr 2 (t.map bB.row) 0 false)]
theorem Bj (r:aA)(hpl:r.ah.length≤1000000)(Q:GX→bN→Prop): ∀(k i:Nat) (p:List Int) (h:List aH),i+k=r.ah.length→p.length=i→h.length=i→0<i→
  Q (.exit 0) ⟨[(1, .ay (H.length,1) 0),(2, .ay (H.length,2) 0),(3, .ay (H.length,3) 0)],T4 r H.length (p++(r.ah.drop i).map (·.cell)) (h++(r.ah.drop i).map fun _=>empty)::H,56⟩→
  gS KC au 48 (lp Tryz.f48 0) [1,2,3,4] [1,2,3] Q
   [(1, .ay (H.length,1) 0),(2, .ay (H.length,2) 0),(3, .ay (H.length,3) 0),(4, .pure (.int .i64 i))] (T4 r H.length p h::H) 56:=by
 intro k
 induction k with
 |zero=>
  intro i p h hi h1 h2 h3 hq;have e1:r.ah.drop i=[]:=List.drop_of_length_le (by omega);rw [e1]at hq;have: ¬i<r.ah.length:=(by omega);apply ax;conv=>arg 4;whnf
  simp [T4,aR,this];simpa [T4,aR]using hq
 |succ k ih=>
  intro i p h hi h1 h2 h3 hq;have hia:i<r.ah.length:=(by omega);have hw:=dh (x:=(i:Int)+1) (by omega) (by omega);rw [List.drop_eq_getElem_cons hia]at hq;have hb1:(i+1)*8≤1099511627776:=(by omega);have hb2:(i+1)*16≤1099511627776:=(by omega);have ih':=ih (i+1) (p++[r.ah[i].cell]) (h++[empty]) (by omega) (by simp [h1]) (by simp [h2]) (by omega);simp only [List.append_assoc,List.singleton_append,List.map_cons]at ih' hq;apply ax;conv=>arg 4;whnf
  simp [T4,aR,hia,hw,aW.row,h1,h2,hb1,hb2];have:=ih' hq;simpa [T4,aR,aG,aH.row,empty,h1,h2,aW.row]using this
theorem Bk (r:aA)(htl:r.aa.length≤1000000)(p:List Int)(h:List aH)(Q:GX→bN→Prop): ∀(k i:Nat) (t:List bB),i+k=r.aa.length→t.length=i→0<i→
  Q (.exit 2) ⟨[(2, .ay (H.length,2) 0),(3, .ay (H.length,3) 0)],T5 r H.length p h (t++(r.aa.drop i).map eW)::H,56⟩→
  gS KC au 48 (lp Tryz.f48 1) [1,2,3,5] [2,3] Q
   [(1, .ay (H.length,1) 0),(2, .ay (H.length,2) 0),(3, .ay (H.length,3) 0),(5, .pure (.int .i64 i))] (T5 r H.length p h t::H) 56:=by
 intro k
 induction k with
 |zero=>
  intro i t hi h1 h3 hq;have e1:r.aa.drop i=[]:=List.drop_of_length_le (by omega);rw [e1]at hq;have: ¬i<r.aa.length:=(by omega);apply ax;conv=>arg 4;whnf
  simp [T5,aR,this];simpa [T5,aR]using hq
 |succ k ih=>
  intro i t hi h1 h3 hq;have hia:i<r.aa.length:=(by omega);have hw:=dh (x:=(i:Int)+1) (by omega) (by omega);rw [List.drop_eq_getElem_cons hia]at hq;have hb2:(i+1)*16≤1099511627776:=(by omega);have ih':=ih (i+1) (t++[eW r.aa[i]]) (by omega) (by simp [h1]) (by omega);simp only [List.append_assoc,List.singleton_append,List.map_cons]at ih' hq;apply ax;conv=>arg 4;whnf
  simp [T5,aR,hia,hw,bc.row,h1,hb2];have:=ih' hq;simpa [T5,aR,aG,bB.row,eW,h1,bc.row]using this
def T6 (L k1 k2 k3:Nat)(s:aw):GV:= .agg [.a8 (L,k1) 1 s.ah.length 0 s.ah.length, .a8 (L,k2) 2 s.ao.length 0 s.ao.length, .a8 (L,k3) 2 s.aa.length 0 s.aa.length]
theorem v7 {α β:Type}(f:α→β)(l:List α)(h:0<l.length):f l[0]::(l.drop 1).map f=l.map f:=by
 cases l with
 |nil=>simp at h
 |cons a t=>rfl
theorem FQ (r:aA) (hp0:r.ah≠[]) (ht0:r.aa≠[]) (hpl:r.ah.length≤1000000) (htl:r.aa.length≤1000000) (hH:0<H.length)
  (hf1:H.get (H.length-1,aq c 22)=none) (hf2:H.get (H.length-1,aq c 27)=none) (hf3:H.get (H.length-1,aq c 53)=none):
  bK KC (aE KC) 48 [.pure (.agg r.row)] c H=some (T6 (H.length-1) (aq c 22) (aq c 27) (aq c 53) (aF r),
   ((H.set (H.length-1,aq c 22) (.arr 1 ((aF r).ah.map aG) 0 false)).set (H.length-1,aq c 27) (.arr 2 ((aF r).ao.map aH.row) 0 false)).set (H.length-1,aq c 53) (.arr 2 ((aF r).aa.map bB.row) 0 false)):=by
 refine aO (aK KC au Tryz.func48 rfl rfl SZ (by simp) hH ?_);rw [eE];have lp0:0<r.ah.length:=List.length_pos_iff.2 hp0;have lt0:0<r.aa.length:=List.length_pos_iff.2 ht0;have pq:aq c 22≠aq c 27:=(by unfold aq;omega);have nX:aq c 22≠aq c 53:=(by unfold aq;omega);have mT:aq c 27≠aq c 53:=(by unfold aq;omega);have L1:=fun Q=>Bj (H:=H) r hpl Q (r.ah.length-1) 1 [r.ah[0].cell] [empty] (by omega) rfl rfl (by omega);have L2:=fun p h Q=>Bk (H:=H) r htl p h Q (r.aa.length-1) 1 [eW r.aa[0]] (by omega) rfl (by omega);have ep:r.ah[0].cell::(r.ah.drop 1).map (fun p=>p.cell)=r.ah.map (fun p=>p.cell):=v7 (fun p:aW=>p.cell) r.ah lp0;have eh:empty::((r.ah.drop 1).map fun _=>empty)=r.ah.map fun _=>empty:=v7 (fun _:aW=>empty) r.ah lp0;have et:eW r.aa[0]::(r.aa.drop 1).map eW=r.aa.map eW:=v7 eW r.aa lt0;simp only [List.singleton_append,ep,eh,et]at L1 L2;simp [T4,aR,aG,aH.row,empty]at L1;simp;apply ax;conv=>arg 4;whnf
 simp [lp0,aW.row];refine L1 _ ?_;clear L1;have L3:=L2 (r.ah.map (·.cell)) (r.ah.map fun _=>empty);simp [T5,aR,aG,aH.row,empty,bB.row,eW]at L3;simp;apply ax;conv=>arg 4;whnf
 simp [lt0,bc.row];refine L3 _ ?_;have k1:(H.length-1,aq c 27)≠((H.length-1,aq c 22):Nm):=fun e=>pq (Prod.mk.inj e).2.symm;have k2:(H.length-1,aq c 53)≠((H.length-1,aq c 22):Nm):=fun e=>nX (Prod.mk.inj e).2.symm;have k3:(H.length-1,aq c 53)≠((H.length-1,aq c 27):Nm):=fun e=>mT (Prod.mk.inj e).2.symm;have g2: ∀b,(H.set (H.length-1,aq c 22) b).get (H.length-1,aq c 27)=none:=fun b=>(aj.aJ b k1).trans hf2;have g3: ∀b b',((H.set (H.length-1,aq c 22) b).set (H.length-1,aq c 27) b').get (H.length-1,aq c 53)=none:=fun b b'=>(aj.aJ b' k3).trans ((aj.aJ b k2).trans hf3);simp [cS,refs,fT,dX,di,gK,gL,dedup,dI,cP,zX,hf1,g2,g3,B6,nY,jF,T6,aF,cZ,bm,aG,aH.row,empty,bB.row,eW]
end
section
variable {c:Nat} {H:aj}
structure mN (H:aj)(n1 n2 n3:Nm)(v1 v2 v3:Nat)(s:aw):Prop where
 pq:n1≠n2
 nX:n1≠n3
 mT:n2≠n3
 g1:H.get n1=some (.arr 1 (s.ah.map aG) v1 false)
 g2:H.get n2=some (.arr 2 (s.ao.map aH.row) v2 false)
 g3:H.get n3=some (.arr 2 (s.aa.map bB.row) v3 false)
 e1:v1≤s.ah.length
 e2:v2≤s.ao.length
 e3:v3≤s.aa.length
def lD (n1 n2 n3:Nm)(s:aw):GV:= .agg [.a8 n1 1 s.ah.length 0 s.ah.length, .a8 n2 2 s.ao.length 0 s.ao.length, .a8 n3 2 s.aa.length 0 s.aa.length]
theorem T7 {nm:Nm}{es v n:Nat}{rows:List (List PV)}{ro:Bool}(h:H.get nm=some (.arr es rows v ro))(hn:rows.length=n)(hv:v≤n):
  dC H (.a8 nm es n 0 n)=(.slice rows,H.set nm (.arr es rows v true)):=by
 subst hn;simp [h,hv]
theorem Dg {n1 n2 n3:Nm}{v1 v2 v3:Nat}{s:aw}(h:mN H n1 n2 n3 v1 v2 v3 s):(dn H (lD n1 n2 n3 s)).1= .pure (.agg s.row):=by
 have a1:(H.set n1 (.arr 1 (s.ah.map aG) v1 true)).get n2=some (.arr 2 (s.ao.map aH.row) v2 false):=(by rw [aj.aJ _ h.pq.symm];exact h.g2);have a2:((H.set n1 (.arr 1 (s.ah.map aG) v1 true)).set n2 (.arr 2 (s.ao.map aH.row) v2 true)).get n3=some (.arr 2 (s.aa.map bB.row) v3 false):=by
  rw [aj.aJ _ h.mT.symm,aj.aJ _ h.nX.symm];exact h.g3
 simp only [lD,dn,gB,dW,T7 h.g1 (by simp) h.e1,T7 a1 (by simp) h.e2,T7 a2 (by simp) h.e3,aw.row];simp
theorem Nn {n1 n2 n3:Nm}{v1 v2 v3:Nat}{s:aw}(h:mN H n1 n2 n3 v1 v2 v3 s){t st:Int}(ht:t<s.aa.length)(hst:st≠0)(hH:0<H.length):
  aL KC (aE KC) 121 [lD n1 n2 n3 s, .pure (.int .i64 t), .pure (.int .i64 st)] c H=some (.pure (.bool (eS s.aa t st)),H):=by
 refine iD KC rfl rfl (args':=[.pure (.agg s.row), .pure (.int .i64 t), .pure (.int .i64 st)]) ?_ rfl hH (fun H hH=>Er (c:=c) ht hst hH) rfl;simp only [bs,Dg h,oX];rfl
noncomputable def dm:List bB→Nat→Int→Bool→List bB:=nL fun ts t bit on=>
 if eS ts t bit=on then ts else ts.set t ⟨(ts.getD t aS).cell,if on then IntKind.i64.wrap ((ts.getD t aS).state+bit)else IntKind.i64.wrap ((ts.getD t aS).state-bit)⟩
theorem jw (ts:List bB)(t:Nat)(bit:Int)(on:Bool):dm ts t bit on=if eS ts t bit=on then ts else ts.set t ⟨(ts.getD t aS).cell,if on then IntKind.i64.wrap ((ts.getD t aS).state+bit)else IntKind.i64.wrap ((ts.getD t aS).state-bit)⟩:=by rw [dm,cN]
theorem dF (ts:List bB)(t:Nat)(bit:Int)(on:Bool):(dm ts t bit on).length=ts.length:=by
 rw [jw];split<;>simp
theorem T8 {n1 n2 n3:Nm}{v1 v2 v3:Nat}{s:aw}(h:mN H n1 n2 n3 v1 v2 v3 s){t:Nat}{bit:Int}{on:Bool}(ht:t<s.aa.length)(hst:bit≠0)(hH:0<H.length):
  aL KC (aE KC) 86 [lD n1 n2 n3 s, .pure (.int .i64 t), .pure (.int .i64 bit), .pure (.bool on)] c H=
   some (.pure (.tuple []),if eS s.aa t bit=on then H else H.set n3 (.arr 2 ((dm s.aa t bit on).map bB.row) s.aa.length false)):=by
 refine aO (ba KC au Tryz.func86 rfl rfl Tq rfl rfl rfl (by simp) hH ?_);have l1:=aj.bL h.g1;have l2:=aj.bL h.g2;have l3:=aj.bL h.g3;have d1: ¬n1.1=H.length:=(by omega);have d2: ¬n2.1=H.length:=(by omega);have d3: ¬n3.1=H.length:=(by omega);have hg:s.aa.getD t aS=s.aa[t]:=(by simp [List.getD_eq_getElem?_getD,ht]);have hd:=jw s.aa t bit on;rw [hg]at hd
 have P:=fun(c:Nat)=>Nn (c:=c) (H:=[(4, .box [.a8 n1 1 s.ah.length 0 s.ah.length, .a8 n2 2 s.ao.length 0 s.ao.length, .a8 n3 2 s.aa.length 0 s.aa.length])]::H) (n1:=n1) (n2:=n2) (n3:=n3) (v1:=v1) (v2:=v2) (v3:=v3) (s:=s)
  ⟨h.pq,h.nX,h.mT,by simp [d1,h.g1],by simp [d2,h.g2],by simp [d3,h.g3],h.e1,h.e2,h.e3⟩ (t:=t) (st:=bit) (by omega) hst (by simp)
 simp only [lD]at P⊢
 cases on with
 |true=>
  cases hv:eS s.aa t bit with
  |true=>simp [P,hv,ae]
  |false=>
   simp [hv]at hd;simp [P,hv,d3,h.g3,h.e3,ht,bB.row,ae,hd,aD]
 |false=>
  cases hv:eS s.aa t bit with
  |false=>simp [P,hv,ae]
  |true=>
   simp [hv]at hd;simp [P,hv,d3,h.g3,h.e3,ht,bB.row,ae,hd,aD]
end
section
variable {c:Nat} {H:aj}
def bj (hs:List aH)(w:Nat)(hand:Int)(v:Int):List aH:=hs.set w (if hand=0 then ⟨v,(hs.getD w bA).r⟩else ⟨(hs.getD w bA).l,v⟩)
noncomputable def cR:aw→Nat→ak→aw:=nL fun s w a=>
 if a.kind=1 then {s with ah:=s.ah.set w a.cell}
 else if a.kind=2 then {s with ao:=bj s.ao w a.hand a.bd,aa:=s.aa.set a.bd.toNat ⟨-1,(s.aa.getD a.bd.toNat aS).state⟩}
 else if a.kind=3 then {s with ao:=bj s.ao w a.hand (-1),aa:=s.aa.set (bG s w a.hand).toNat ⟨s.ah.getD w 0,(s.aa.getD (bG s w a.hand).toNat aS).state⟩}
 else if a.kind=4 then {s with ao:=bj (bj s.ao a.other.toNat (dM s.ao a.other.toNat) (bG s w a.hand)) w a.hand (-1)}
 else if a.kind=5 then {s with aa:=dm s.aa (bG s w (1-a.hand)).toNat 1 true}
 else if a.kind=6 then {s with aa:=dm (dm (dm s.aa (bG s w a.hand).toNat 2 false) (bG s w a.hand).toNat 1 false) (bG s w (1-a.hand)).toNat 2 true}
 else if a.kind=7 then {s with aa:=dm s.aa (bG s w a.hand).toNat 4 true}
 else {s with aa:=dm s.aa (bG s w a.hand).toNat 4 false}
theorem iq (s:aw)(w:Nat)(a:ak):cR s w a=
 if a.kind=1 then {s with ah:=s.ah.set w a.cell}
 else if a.kind=2 then {s with ao:=bj s.ao w a.hand a.bd,aa:=s.aa.set a.bd.toNat ⟨-1,(s.aa.getD a.bd.toNat aS).state⟩}
 else if a.kind=3 then {s with ao:=bj s.ao w a.hand (-1),aa:=s.aa.set (bG s w a.hand).toNat ⟨s.ah.getD w 0,(s.aa.getD (bG s w a.hand).toNat aS).state⟩}
 else if a.kind=4 then {s with ao:=bj (bj s.ao a.other.toNat (dM s.ao a.other.toNat) (bG s w a.hand)) w a.hand (-1)}
 else if a.kind=5 then {s with aa:=dm s.aa (bG s w (1-a.hand)).toNat 1 true}
 else if a.kind=6 then {s with aa:=dm (dm (dm s.aa (bG s w a.hand).toNat 2 false) (bG s w a.hand).toNat 1 false) (bG s w (1-a.hand)).toNat 2 true}
 else if a.kind=7 then {s with aa:=dm s.aa (bG s w a.hand).toNat 4 true}
 else {s with aa:=dm s.aa (bG s w a.hand).toNat 4 false}:=by rw [cR,cN]
structure EI (s:aw)(w:Nat)(a:ak):Prop where
 hp:w<s.ah.length
 hh:w<s.ao.length
 aN:a.aN=w
 hand:a.hand=0∨a.hand=1
 kind:1≤a.kind∧a.kind≤8
 take:a.kind=2→ ∃t:Nat,a.bd=t∧t<s.aa.length
 held:3≤a.kind→ ∃t:Nat,bG s w a.hand=t∧t<s.aa.length
 pL:a.kind=4→ ∃o:Nat,a.other=o∧o<s.ao.length∧o≠w∧(dM s.ao o=0∨dM s.ao o=1)
 xN:a.kind=5∨a.kind=6→ ∃t:Nat,bG s w (1-a.hand)=t∧t<s.aa.length
theorem aj.set_comm {n m:Nm}{x y:dH}(h:n≠m): ∀{H:aj},(H.set n x).set m y=(H.set m y).set n x
 | []=>rfl
 |fr::H=>by
  by_cases e1:n.1=H.length
  ·by_cases e2:m.1=H.length
   ·have:n.2≠m.2:=fun e=>h (Prod.ext (e1.trans e2.symm) e);simp [e1,e2,Fr.vl _ _ this.symm]
   ·simp [e1,e2]
  ·by_cases e2:m.1=H.length
   ·simp [e1,e2]
   ·simp [e1,e2,aj.length_set,aj.set_comm h (H:=H)]
structure lX (H:aj)(n1 n2 n3:Nm)(v1 v2 v3:Nat)(s:aw):Prop extends mN H n1 n2 n3 v1 v2 v3 s where
 s1:H.set n1 (.arr 1 (s.ah.map aG) v1 false)=H
 s2:H.set n2 (.arr 2 (s.ao.map aH.row) v2 false)=H
 s3:H.set n3 (.arr 2 (s.aa.map bB.row) v3 false)=H
def cv (H:aj)(n1 n2 n3:Nm)(v1 v2 v3:Nat)(s:aw):aj:=((H.set n1 (.arr 1 (s.ah.map aG) v1 false)).set n2 (.arr 2 (s.ao.map aH.row) v2 false)).set n3 (.arr 2 (s.aa.map bB.row) v3 false)
theorem iQ {fr : Fr} {n1 n2 n3 : Nm} {v1 v2 v3 : Nat} {s : aw} (h : lX H n1 n2 n3 v1 v2 v3 s) {t : Nat} {bit : Int} {on : Bool} (ht : t < s.aa.length) (hst : bit ≠ 0) (c : Nat) :
    ∃ v, v ≤ s.aa.length ∧ aL KC (aE KC) 86 [lD n1 n2 n3 s, .pure (.int .i64 t), .pure (.int .i64 bit), .pure (.bool on)] c (fr :: H) =
      some (.pure (.tuple []), fr :: H.set n3 (.arr 2 ((dm s.aa t bit on).map bB.row) v false)) ∧
      lX (H.set n3 (.arr 2 ((dm s.aa t bit on).map bB.row) v false)) n1 n2 n3 v1 v2 v { s with aa := dm s.aa t bit on } := by
  have l1 := aj.bL h.g1
  have l2 := aj.bL h.g2
  have l3 := aj.bL h.g3
  have d1 : ¬ n1.1 = H.length := by omega
  have d2 : ¬ n2.1 = H.length := by omega
  have d3 : ¬ n3.1 = H.length := by omega
  have hS : mN (fr :: H) n1 n2 n3 v1 v2 v3 s := ⟨h.pq, h.nX, h.mT, by simp [d1, h.g1], by simp [d2, h.g2], by simp [d3, h.g3], h.e1, h.e2, h.e3⟩
  have C := T8 (c := c) hS (t := t) (bit := bit) (on := on) ht hst (by simp)
  have fin : ∀ v, v ≤ s.aa.length → lX (H.set n3 (.arr 2 ((dm s.aa t bit on).map bB.row) v false)) n1 n2 n3 v1 v2 v { s with aa := dm s.aa t bit on } := fun v hv =>
    { pq := h.pq, nX := h.nX, mT := h.mT, g1 := by rw [aj.aJ _ h.nX]; exact h.g1, g2 := by rw [aj.aJ _ h.mT]; exact h.g2, g3 := aj.gV l3,
      e1 := h.e1, e2 := h.e2, e3 := by simpa [dF] using hv, s1 := by rw [aj.set_comm h.nX.symm, h.s1], s2 := by rw [aj.set_comm h.mT.symm, h.s2], s3 := aj.set_set }
  by_cases hv : eS s.aa t bit = on
  · have e : dm s.aa t bit on = s.aa := by rw [jw, if_pos hv]
    rw [if_pos hv] at C
    refine ⟨v3, h.e3, ?_, fin v3 h.e3⟩
    rw [C, e, h.s3]
  · rw [if_neg hv] at C
    refine ⟨s.aa.length, Nat.le_refl _, ?_, fin _ (Nat.le_refl _)⟩
    rw [C, aj.dQ l3]
theorem mN.up {fr:Fr}{n1 n2 n3:Nm}{v1 v2 v3:Nat}{s:aw}(h:mN H n1 n2 n3 v1 v2 v3 s):mN (fr::H) n1 n2 n3 v1 v2 v3 s:=by
 have l1:=aj.bL h.g1;have l2:=aj.bL h.g2;have l3:=aj.bL h.g3;have d1: ¬n1.1=H.length:=(by omega);have d2: ¬n2.1=H.length:=(by omega);have d3: ¬n3.1=H.length:=(by omega);exact⟨h.pq,h.nX,h.mT,by simp [d1,h.g1],by simp [d2,h.g2],by simp [d3,h.g3],h.e1,h.e2,h.e3⟩
theorem T9 {n1 n2 n3:Nm}{v1 v2 v3:Nat}{s:aw}(h:lX H n1 n2 n3 v1 v2 v3 s){w:Nat}{q1 kind bd cell other q3 q4:Int}(hb:EI s w ⟨q1,w,kind,0,bd,cell,other,q3,q4⟩)(hhl:s.ao.length≤1000000)(hH:0<H.length):
  ∃v1' v2' v3',v1'≤s.ah.length∧v2'≤s.ao.length∧v3'≤s.aa.length∧
   aL KC (aE KC) 51 [lD n1 n2 n3 s, .pure (.agg [.int .i64 q1, .int .i64 w, .int .i64 kind, .int .i64 0, .int .i64 bd, .int .i64 cell, .int .i64 other, .int .i64 q3, .int .i64 q4])] c H=
    some (.pure (.tuple []),cv H n1 n2 n3 v1' v2' v3' (cR s w ⟨q1,w,kind,0,bd,cell,other,q3,q4⟩)):=by
 have l1:=aj.bL h.g1;have l2:=aj.bL h.g2;have l3:=aj.bL h.g3;have d1: ¬n1.1=H.length:=(by omega);have d2: ¬n2.1=H.length:=(by omega);have d3: ¬n3.1=H.length:=(by omega);have hp:=hb.hp;have hh:=hb.hh;have hg:s.ao.getD w bA=s.ao[w]:=(by simp [List.getD_eq_getElem?_getD,hh]);have hgp:s.ah.getD w 0=s.ah[w]:=(by simp [List.getD_eq_getElem?_getD,hp]);have eh:bG s w 0=s.ao[w].l:=(by unfold bG;rw [hg];simp);have eo:bG s w (1-0)=s.ao[w].r:=(by unfold bG;rw [hg];simp);have wr:IntKind.i64.wrap (1-0)=1:=rfl;have hk:=hb.kind;have hd:=iq s w ⟨q1,w,kind,0,bd,cell,other,q3,q4⟩;have hheld:=hb.held;have hoth:=hb.xN;have htake:=hb.take;have hgive:=hb.pL;have G23: ∀b,(H.set n2 b).get n3=H.get n3:=fun b=>aj.aJ b h.mT.symm;have S2: ∀x,(H.set n1 x).set n2 (.arr 2 (s.ao.map aH.row) v2 false)=H.set n1 x:=fun x=>(by rw [aj.set_comm h.pq,h.s2]);have S3: ∀x,(H.set n1 x).set n3 (.arr 2 (s.aa.map bB.row) v3 false)=H.set n1 x:=fun x=>(by rw [aj.set_comm h.nX,h.s3]);have S4: ∀x,(H.set n2 x).set n3 (.arr 2 (s.aa.map bB.row) v3 false)=H.set n2 x:=fun x=>(by rw [aj.set_comm h.mT,h.s3]);have s1:=h.s1;have s2:=h.s2;have s3:=h.s3;have G22: ∀b,(H.set n2 b).get n2=some b:=fun b=>aj.gV l2;simp only [eh,eo,hgp,bj,hg]at hd hk hheld hoth htake hgive;simp only [lD];by_cases k1:kind=1
 ·subst k1;simp at hd;refine⟨s.ah.length,v2,v3,Nat.le_refl _,h.e2,h.e3,aO (ba KC au Tryz.func51 rfl rfl gI rfl rfl rfl (by simp) hH ?_)⟩;simp [d1,d2,d3,h.g1,h.g2,h.g3,h.e1,h.e2,h.e3,hp,hh,aG,aH.row,wr,aD,ae,hd,cv,S2,S3]
 by_cases k2:kind=2
 ·subst k2;obtain⟨t,rfl,ht⟩:=htake rfl;have hgt:s.aa[t]?.getD aS=s.aa[t]:=(by simp [ht]);simp [hgt]at hd;refine⟨v1,s.ao.length,s.aa.length,h.e1,Nat.le_refl _,Nat.le_refl _,aO (ba KC au Tryz.func51 rfl rfl gI rfl rfl rfl (by simp) hH ?_)⟩;simp [d1,d2,d3,h.g1,h.g2,h.g3,h.e1,h.e2,h.e3,hp,hh,ht,aH.row,bB.row,wr,aD,ae,hd,cv,G23,s1]
 have hk3:3≤kind:=(by omega);obtain⟨t,et,ht⟩:=hheld hk3;simp only [et]at hd hgive;have hgt:s.aa[t]?.getD aS=s.aa[t]:=(by simp [ht]);by_cases k3:kind=3
 ·subst k3;simp [hgt]at hd;refine⟨v1,s.ao.length,s.aa.length,h.e1,Nat.le_refl _,Nat.le_refl _,aO (ba KC au Tryz.func51 rfl rfl gI rfl rfl rfl (by simp) hH ?_)⟩;simp [d1,d2,d3,h.g1,h.g2,h.g3,h.e1,h.e2,h.e3,hp,hh,ht,et,aG,aH.row,bB.row,wr,aD,ae,hd,cv,G23,s1]
 by_cases k4:kind=4
 ·subst k4;obtain⟨o,rfl,ho,how,htk⟩:=hgive rfl;have hgo:s.ao[o]?.getD bA=s.ao[o]:=(by simp [ho]);have hsw: ∀x,(s.ao.set o x)[w]?.getD bA=s.ao[w]:=fun x=>(by rw [List.getElem?_set_ne how];simp [hh]);simp [hgo,hsw]at hd;have R:(bs ([(2, .box [.a8 n1 1 s.ah.length 0 s.ah.length, .a8 n2 2 s.ao.length 0 s.ao.length, .a8 n3 2 s.aa.length 0 s.aa.length]),(3,bW ⟨q1,w,4,0,bd,cell,o,q3,q4⟩)]::H) [lD n1 n2 n3 s, .pure (.int .i64 o)]).1.map canon=[.pure (.agg s.row), .pure (.int .i64 o)]:=by
   simp only [bs,Dg (mN.up h.tomN),oX];rfl
  have T:=fun(c:Nat)=>iD KC (f:=85) (c:=c) rfl rfl R rfl (by simp) (fun H hH=>sW (c:=c) ho hhl hH) rfl;simp only [lD,bW]at T;rcases htk with z|z
  ·rw [z]at hd T;simp at hd;refine⟨v1,s.ao.length,v3,h.e1,Nat.le_refl _,h.e3,aO (ba KC au Tryz.func51 rfl rfl gI rfl rfl rfl (by simp) hH ?_)⟩;simp [d1,d2,d3,h.g1,h.g2,h.g3,h.e1,h.e2,h.e3,hp,hh,ht,et,ho,T,aG,aH.row,bB.row,wr,aD,ae,hd,cv,G22,G23,s1,S4,how,List.getElem_set_ne]
  ·rw [z]at hd T;simp at hd;refine⟨v1,s.ao.length,v3,h.e1,Nat.le_refl _,h.e3,aO (ba KC au Tryz.func51 rfl rfl gI rfl rfl rfl (by simp) hH ?_)⟩;simp [d1,d2,d3,h.g1,h.g2,h.g3,h.e1,h.e2,h.e3,hp,hh,ht,et,ho,T,aG,aH.row,bB.row,wr,aD,ae,hd,cv,G22,G23,s1,S4,how,List.getElem_set_ne]
 by_cases k5:kind=5
 ·subst k5;obtain⟨u,eu,hu⟩:=hoth (.inl rfl);rw [eu]at hd;simp at hd;obtain⟨v,hv,C,hS⟩:=iQ (fr:=[(2, .box [.a8 n1 1 s.ah.length 0 s.ah.length, .a8 n2 2 s.ao.length 0 s.ao.length, .a8 n3 2 s.aa.length 0 s.aa.length]),(3,bW ⟨q1,w,5,0,bd,cell,other,q3,q4⟩)]) h (t:=u) (bit:=1) (on:=true) hu (by decide) 100;simp only [lD,bW]at C;refine⟨v1,v2,v,h.e1,h.e2,hv,aO (ba KC au Tryz.func51 rfl rfl gI rfl rfl rfl (by simp) hH ?_)⟩;simp [d1,d2,d3,h.g1,h.g2,h.g3,h.e1,h.e2,h.e3,hp,hh,ht,et,eu,C,aH.row,wr,ae,hd,cv,s1,s2]
 by_cases k6:kind=6
 ·subst k6;obtain⟨u,eu,hu⟩:=hoth (.inr rfl);rw [eu]at hd;simp at hd;obtain⟨v,hv,C,hS⟩:=iQ (fr:=[(2, .box [.a8 n1 1 s.ah.length 0 s.ah.length, .a8 n2 2 s.ao.length 0 s.ao.length, .a8 n3 2 s.aa.length 0 s.aa.length]),(3,bW ⟨q1,w,6,0,bd,cell,other,q3,q4⟩)]) h (t:=t) (bit:=2) (on:=false) ht (by decide) 105;obtain⟨v',hv',C',hS'⟩:=iQ (fr:=[(2, .box [.a8 n1 1 s.ah.length 0 s.ah.length, .a8 n2 2 s.ao.length 0 s.ao.length, .a8 n3 2 s.aa.length 0 s.aa.length]),(3,bW ⟨q1,w,6,0,bd,cell,other,q3,q4⟩)]) hS (t:=t) (bit:=1) (on:=false) (by rw [dF];exact ht) (by decide) 108;obtain⟨v'',hv'',C'',hS''⟩:=iQ (fr:=[(2, .box [.a8 n1 1 s.ah.length 0 s.ah.length, .a8 n2 2 s.ao.length 0 s.ao.length, .a8 n3 2 s.aa.length 0 s.aa.length]),(3,bW ⟨q1,w,6,0,bd,cell,other,q3,q4⟩)]) hS' (t:=u) (bit:=2) (on:=true) (by simp only [dF];exact hu) (by decide) 111;simp only [lD,bW,dF,aj.set_set]at C C' C'';simp only [dF]at hv'';refine⟨v1,v2,v'',h.e1,h.e2,hv'',aO (ba KC au Tryz.func51 rfl rfl gI rfl rfl rfl (by simp) hH ?_)⟩;simp [d1,d2,d3,h.g1,h.g2,h.g3,h.e1,h.e2,h.e3,hp,hh,ht,et,eu,C,C',C'',aH.row,wr,ae,hd,cv,s1,s2]
 by_cases k7:kind=7
 ·subst k7;simp at hd;obtain⟨v,hv,C,hS⟩:=iQ (fr:=[(2, .box [.a8 n1 1 s.ah.length 0 s.ah.length, .a8 n2 2 s.ao.length 0 s.ao.length, .a8 n3 2 s.aa.length 0 s.aa.length]),(3,bW ⟨q1,w,7,0,bd,cell,other,q3,q4⟩)]) h (t:=t) (bit:=4) (on:=true) ht (by decide) 116;simp only [lD,bW]at C;refine⟨v1,v2,v,h.e1,h.e2,hv,aO (ba KC au Tryz.func51 rfl rfl gI rfl rfl rfl (by simp) hH ?_)⟩;simp [d1,d2,d3,h.g1,h.g2,h.g3,h.e1,h.e2,h.e3,hp,hh,ht,et,C,aH.row,wr,ae,hd,cv,s1,s2]
 have k8:kind=8:=(by omega);subst k8;simp at hd;obtain⟨v,hv,C,hS⟩:=iQ (fr:=[(2, .box [.a8 n1 1 s.ah.length 0 s.ah.length, .a8 n2 2 s.ao.length 0 s.ao.length, .a8 n3 2 s.aa.length 0 s.aa.length]),(3,bW ⟨q1,w,8,0,bd,cell,other,q3,q4⟩)]) h (t:=t) (bit:=4) (on:=false) ht (by decide) 121;simp only [lD,bW]at C;refine⟨v1,v2,v,h.e1,h.e2,hv,aO (ba KC au Tryz.func51 rfl rfl gI rfl rfl rfl (by simp) hH ?_)⟩;simp [d1,d2,d3,h.g1,h.g2,h.g3,h.e1,h.e2,h.e3,hp,hh,ht,et,C,aH.row,wr,ae,hd,cv,s1,s2]
theorem Ua {n1 n2 n3:Nm}{v1 v2 v3:Nat}{s:aw}(h:lX H n1 n2 n3 v1 v2 v3 s){w:Nat}{q1 kind bd cell other q3 q4:Int}(hb:EI s w ⟨q1,w,kind,1,bd,cell,other,q3,q4⟩)(hhl:s.ao.length≤1000000)(hH:0<H.length):
  ∃v1' v2' v3',v1'≤s.ah.length∧v2'≤s.ao.length∧v3'≤s.aa.length∧
   aL KC (aE KC) 51 [lD n1 n2 n3 s, .pure (.agg [.int .i64 q1, .int .i64 w, .int .i64 kind, .int .i64 1, .int .i64 bd, .int .i64 cell, .int .i64 other, .int .i64 q3, .int .i64 q4])] c H=
    some (.pure (.tuple []),cv H n1 n2 n3 v1' v2' v3' (cR s w ⟨q1,w,kind,1,bd,cell,other,q3,q4⟩)):=by
 have l1:=aj.bL h.g1;have l2:=aj.bL h.g2;have l3:=aj.bL h.g3;have d1: ¬n1.1=H.length:=(by omega);have d2: ¬n2.1=H.length:=(by omega);have d3: ¬n3.1=H.length:=(by omega);have hp:=hb.hp;have hh:=hb.hh;have hg:s.ao.getD w bA=s.ao[w]:=(by simp [List.getD_eq_getElem?_getD,hh]);have hgp:s.ah.getD w 0=s.ah[w]:=(by simp [List.getD_eq_getElem?_getD,hp]);have eh:bG s w 1=s.ao[w].r:=(by unfold bG;rw [hg];simp);have eo:bG s w (1-1)=s.ao[w].l:=(by unfold bG;rw [hg];simp);have wr:IntKind.i64.wrap (1-1)=0:=rfl;have hk:=hb.kind;have hd:=iq s w ⟨q1,w,kind,1,bd,cell,other,q3,q4⟩;have hheld:=hb.held;have hoth:=hb.xN;have htake:=hb.take;have hgive:=hb.pL;have G23: ∀b,(H.set n2 b).get n3=H.get n3:=fun b=>aj.aJ b h.mT.symm;have S2: ∀x,(H.set n1 x).set n2 (.arr 2 (s.ao.map aH.row) v2 false)=H.set n1 x:=fun x=>(by rw [aj.set_comm h.pq,h.s2]);have S3: ∀x,(H.set n1 x).set n3 (.arr 2 (s.aa.map bB.row) v3 false)=H.set n1 x:=fun x=>(by rw [aj.set_comm h.nX,h.s3]);have S4: ∀x,(H.set n2 x).set n3 (.arr 2 (s.aa.map bB.row) v3 false)=H.set n2 x:=fun x=>(by rw [aj.set_comm h.mT,h.s3]);have s1:=h.s1;have s2:=h.s2;have s3:=h.s3;have G22: ∀b,(H.set n2 b).get n2=some b:=fun b=>aj.gV l2;simp only [eh,eo,hgp,bj,hg]at hd hk hheld hoth htake hgive;simp only [lD];by_cases k1:kind=1
 ·subst k1;simp at hd;refine⟨s.ah.length,v2,v3,Nat.le_refl _,h.e2,h.e3,aO (ba KC au Tryz.func51 rfl rfl gI rfl rfl rfl (by simp) hH ?_)⟩;simp [d1,d2,d3,h.g1,h.g2,h.g3,h.e1,h.e2,h.e3,hp,hh,aG,aH.row,wr,aD,ae,hd,cv,S2,S3]
 by_cases k2:kind=2
 ·subst k2;obtain⟨t,rfl,ht⟩:=htake rfl;have hgt:s.aa[t]?.getD aS=s.aa[t]:=(by simp [ht]);simp [hgt]at hd;refine⟨v1,s.ao.length,s.aa.length,h.e1,Nat.le_refl _,Nat.le_refl _,aO (ba KC au Tryz.func51 rfl rfl gI rfl rfl rfl (by simp) hH ?_)⟩;simp [d1,d2,d3,h.g1,h.g2,h.g3,h.e1,h.e2,h.e3,hp,hh,ht,aH.row,bB.row,wr,aD,ae,hd,cv,G23,s1]
 have hk3:3≤kind:=(by omega);obtain⟨t,et,ht⟩:=hheld hk3;simp only [et]at hd hgive;have hgt:s.aa[t]?.getD aS=s.aa[t]:=(by simp [ht]);by_cases k3:kind=3
 ·subst k3;simp [hgt]at hd;refine⟨v1,s.ao.length,s.aa.length,h.e1,Nat.le_refl _,Nat.le_refl _,aO (ba KC au Tryz.func51 rfl rfl gI rfl rfl rfl (by simp) hH ?_)⟩;simp [d1,d2,d3,h.g1,h.g2,h.g3,h.e1,h.e2,h.e3,hp,hh,ht,et,aG,aH.row,bB.row,wr,aD,ae,hd,cv,G23,s1]
 by_cases k4:kind=4
 ·subst k4;obtain⟨o,rfl,ho,how,htk⟩:=hgive rfl;have hgo:s.ao[o]?.getD bA=s.ao[o]:=(by simp [ho]);have hsw: ∀x,(s.ao.set o x)[w]?.getD bA=s.ao[w]:=fun x=>(by rw [List.getElem?_set_ne how];simp [hh]);simp [hgo,hsw]at hd;have R:(bs ([(2, .box [.a8 n1 1 s.ah.length 0 s.ah.length, .a8 n2 2 s.ao.length 0 s.ao.length, .a8 n3 2 s.aa.length 0 s.aa.length]),(3,bW ⟨q1,w,4,1,bd,cell,o,q3,q4⟩)]::H) [lD n1 n2 n3 s, .pure (.int .i64 o)]).1.map canon=[.pure (.agg s.row), .pure (.int .i64 o)]:=by
   simp only [bs,Dg (mN.up h.tomN),oX];rfl
  have T:=fun(c:Nat)=>iD KC (f:=85) (c:=c) rfl rfl R rfl (by simp) (fun H hH=>sW (c:=c) ho hhl hH) rfl;simp only [lD,bW]at T;rcases htk with z|z
  ·rw [z]at hd T;simp at hd;refine⟨v1,s.ao.length,v3,h.e1,Nat.le_refl _,h.e3,aO (ba KC au Tryz.func51 rfl rfl gI rfl rfl rfl (by simp) hH ?_)⟩;simp [d1,d2,d3,h.g1,h.g2,h.g3,h.e1,h.e2,h.e3,hp,hh,ht,et,ho,T,aG,aH.row,bB.row,wr,aD,ae,hd,cv,G22,G23,s1,S4,how,List.getElem_set_ne]
  ·rw [z]at hd T;simp at hd;refine⟨v1,s.ao.length,v3,h.e1,Nat.le_refl _,h.e3,aO (ba KC au Tryz.func51 rfl rfl gI rfl rfl rfl (by simp) hH ?_)⟩;simp [d1,d2,d3,h.g1,h.g2,h.g3,h.e1,h.e2,h.e3,hp,hh,ht,et,ho,T,aG,aH.row,bB.row,wr,aD,ae,hd,cv,G22,G23,s1,S4,how,List.getElem_set_ne]
 by_cases k5:kind=5
 ·subst k5;obtain⟨u,eu,hu⟩:=hoth (.inl rfl);rw [eu]at hd;simp at hd;obtain⟨v,hv,C,hS⟩:=iQ (fr:=[(2, .box [.a8 n1 1 s.ah.length 0 s.ah.length, .a8 n2 2 s.ao.length 0 s.ao.length, .a8 n3 2 s.aa.length 0 s.aa.length]),(3,bW ⟨q1,w,5,1,bd,cell,other,q3,q4⟩)]) h (t:=u) (bit:=1) (on:=true) hu (by decide) 100;simp only [lD,bW]at C;refine⟨v1,v2,v,h.e1,h.e2,hv,aO (ba KC au Tryz.func51 rfl rfl gI rfl rfl rfl (by simp) hH ?_)⟩;simp [d1,d2,d3,h.g1,h.g2,h.g3,h.e1,h.e2,h.e3,hp,hh,ht,et,eu,C,aH.row,wr,ae,hd,cv,s1,s2]
 by_cases k6:kind=6
 ·subst k6;obtain⟨u,eu,hu⟩:=hoth (.inr rfl);rw [eu]at hd;simp at hd;obtain⟨v,hv,C,hS⟩:=iQ (fr:=[(2, .box [.a8 n1 1 s.ah.length 0 s.ah.length, .a8 n2 2 s.ao.length 0 s.ao.length, .a8 n3 2 s.aa.length 0 s.aa.length]),(3,bW ⟨q1,w,6,1,bd,cell,other,q3,q4⟩)]) h (t:=t) (bit:=2) (on:=false) ht (by decide) 105;obtain⟨v',hv',C',hS'⟩:=iQ (fr:=[(2, .box [.a8 n1 1 s.ah.length 0 s.ah.length, .a8 n2 2 s.ao.length 0 s.ao.length, .a8 n3 2 s.aa.length 0 s.aa.length]),(3,bW ⟨q1,w,6,1,bd,cell,other,q3,q4⟩)]) hS (t:=t) (bit:=1) (on:=false) (by rw [dF];exact ht) (by decide) 108;obtain⟨v'',hv'',C'',hS''⟩:=iQ (fr:=[(2, .box [.a8 n1 1 s.ah.length 0 s.ah.length, .a8 n2 2 s.ao.length 0 s.ao.length, .a8 n3 2 s.aa.length 0 s.aa.length]),(3,bW ⟨q1,w,6,1,bd,cell,other,q3,q4⟩)]) hS' (t:=u) (bit:=2) (on:=true) (by simp only [dF];exact hu) (by decide) 111;simp only [lD,bW,dF,aj.set_set]at C C' C'';simp only [dF]at hv'';refine⟨v1,v2,v'',h.e1,h.e2,hv'',aO (ba KC au Tryz.func51 rfl rfl gI rfl rfl rfl (by simp) hH ?_)⟩;simp [d1,d2,d3,h.g1,h.g2,h.g3,h.e1,h.e2,h.e3,hp,hh,ht,et,eu,C,C',C'',aH.row,wr,ae,hd,cv,s1,s2]
 by_cases k7:kind=7
 ·subst k7;simp at hd;obtain⟨v,hv,C,hS⟩:=iQ (fr:=[(2, .box [.a8 n1 1 s.ah.length 0 s.ah.length, .a8 n2 2 s.ao.length 0 s.ao.length, .a8 n3 2 s.aa.length 0 s.aa.length]),(3,bW ⟨q1,w,7,1,bd,cell,other,q3,q4⟩)]) h (t:=t) (bit:=4) (on:=true) ht (by decide) 116;simp only [lD,bW]at C;refine⟨v1,v2,v,h.e1,h.e2,hv,aO (ba KC au Tryz.func51 rfl rfl gI rfl rfl rfl (by simp) hH ?_)⟩;simp [d1,d2,d3,h.g1,h.g2,h.g3,h.e1,h.e2,h.e3,hp,hh,ht,et,C,aH.row,wr,ae,hd,cv,s1,s2]
 have k8:kind=8:=(by omega);subst k8;simp at hd;obtain⟨v,hv,C,hS⟩:=iQ (fr:=[(2, .box [.a8 n1 1 s.ah.length 0 s.ah.length, .a8 n2 2 s.ao.length 0 s.ao.length, .a8 n3 2 s.aa.length 0 s.aa.length]),(3,bW ⟨q1,w,8,1,bd,cell,other,q3,q4⟩)]) h (t:=t) (bit:=4) (on:=false) ht (by decide) 121;simp only [lD,bW]at C;refine⟨v1,v2,v,h.e1,h.e2,hv,aO (ba KC au Tryz.func51 rfl rfl gI rfl rfl rfl (by simp) hH ?_)⟩;simp [d1,d2,d3,h.g1,h.g2,h.g3,h.e1,h.e2,h.e3,hp,hh,ht,et,C,aH.row,wr,ae,hd,cv,s1,s2]
theorem Oe {n1 n2 n3:Nm}{v1 v2 v3:Nat}{s:aw}(h:lX H n1 n2 n3 v1 v2 v3 s){w:Nat}{a:ak}(hb:EI s w a)(hhl:s.ao.length≤1000000)(hH:0<H.length):
  ∃v1' v2' v3',v1'≤s.ah.length∧v2'≤s.ao.length∧v3'≤s.aa.length∧
   aL KC (aE KC) 51 [lD n1 n2 n3 s, .pure (.agg a.row)] c H=some (.pure (.tuple []),cv H n1 n2 n3 v1' v2' v3' (cR s w a)):=by
 obtain⟨q1,aN,kind,hand,bd,cell,other,q3,q4⟩:=a;have e1:=hb.aN;have e2:=hb.hand;simp only at e1 e2;subst e1;rcases e2 with rfl|rfl
 ·exact T9 h hb hhl hH
 ·exact Ua h hb hhl hH
end
section
variable {c:Nat} {H:aj}
noncomputable def gv:List Int→List Int→Bool:=nL fun l m=>l.any fun x=>m.contains x
theorem j4 (l m:List Int):gv l m=l.any fun x=>m.contains x:=by rw [gv,cN]
theorem zA (l m:List Int)(hm:m.length≤1000000)(i:Nat)(hi:i<l.length)(H':aj)(f0 f1:Fr)(hH':H'=f1::f0::H)(Q:GX→bN→Prop):
  ∀k j:Nat,j+k=m.length→
  ((m.drop j).contains l[i]=false→Q (.exit 2) ⟨[(0, .pure (.slice (l.map aG))),(1, .pure (.slice (m.map aG))),(4,aP),(5, .pure (.int .i64 i))],H',28⟩)→
  ((m.drop j).contains l[i]=true→Q .ret ⟨[(0, .pure (.slice (l.map aG))),(1, .pure (.slice (m.map aG))),(4, .pure (.bool true)),(5, .pure (.int .i64 i))],H',28⟩)→
  gS KC au 122 (lp Tryz.f122 1) [0,1,5,6] [0,1,4,5] Q
   [(0, .pure (.slice (l.map aG))),(1, .pure (.slice (m.map aG))),(5, .pure (.int .i64 i)),(6, .pure (.int .i64 j))] H' 28:=by
 subst hH';intro k
 induction k with
 |zero=>
  intro j hj h1 h2;have e1:m.drop j=[]:=List.drop_of_length_le (by omega);rw [e1]at h1;have: ¬j<m.length:=(by omega);apply ax;conv=>arg 4;whnf
  simp [this];exact h1 rfl
 |succ k ih=>
  intro j hj h1 h2;have hja:j<m.length:=(by omega);have hw:=dh (x:=(j:Int)+1) (by omega) (by omega);have ih':=ih (j+1) (by omega);rw [List.drop_eq_getElem_cons hja,List.contains_cons]at h1 h2;apply ax;conv=>arg 4;whnf
  cases he:l[i]==m[j]with
  |true=>
   rw [he]at h2;simp [hi,hja,aG,he];exact h2 rfl
  |false=>
   rw [he]at h1 h2;rw [Bool.false_or]at h1 h2;simp [hi,hja,aG,he,hw];exact ih' h1 h2
theorem Bl (l m:List Int)(hl:l.length≤1000000)(hm:m.length≤1000000)(f0:Fr)(Q:GX→bN→Prop):
  ∀k i:Nat,i+k=l.length→
  (((l.drop i).any fun x=>m.contains x)=false→Q (.exit 0) ⟨[(4,aP)],f0::H,28⟩)→
  (((l.drop i).any fun x=>m.contains x)=true→Q .ret ⟨[(4, .pure (.bool true))],f0::H,28⟩)→
  gS KC au 122 (lp Tryz.f122 0) [0,1,5] [4] Q
   [(0, .pure (.slice (l.map aG))),(1, .pure (.slice (m.map aG))),(5, .pure (.int .i64 i))] (f0::H) 28:=by
 intro k
 induction k with
 |zero=>
  intro i hi h1 h2;have e1:l.drop i=[]:=List.drop_of_length_le (by omega);rw [e1]at h1;have: ¬i<l.length:=(by omega);apply ax;conv=>arg 4;whnf
  simp [this];exact h1 rfl
 |succ k ih=>
  intro i hi h1 h2;have hia:i<l.length:=(by omega);have hw:=dh (x:=(i:Int)+1) (by omega) (by omega);have ih':=ih (i+1) (by omega);rw [List.drop_eq_getElem_cons hia,List.any_cons]at h1 h2;apply ax;conv=>arg 4;whnf
  have L:=fun f1 Q=>zA l m hm i hia (f1::f0::H) f0 f1 rfl Q m.length 0 (by omega);simp only [List.drop_zero]at L;simp [hia];refine L _ _ (fun z=> ?_) (fun z=> ?_)
  ·rw [z,Bool.false_or]at h1 h2;simp [hw];exact ih' h1 h2
  ·rw [z,Bool.true_or]at h2;simp;exact h2 rfl
theorem FR {l m:List Int}(hl:l.length≤1000000)(hm:m.length≤1000000)(hH:0<H.length):
  aL KC (aE KC) 122 [.pure (.slice (l.map aG)), .pure (.slice (m.map aG))] c H=some (.pure (.bool (gv l m)),H):=by
 refine eF rfl rfl rfl rfl rfl hH fun H hH=> ?_;refine aO (aK KC au Tryz.func122 rfl rfl LW (by simp) hH ?_);have hd:=j4 l m;have L:=fun f0 Q=>Bl (H:=H) l m hl hm f0 Q l.length 0 (by omega);simp only [List.drop_zero]at L;simp;refine L _ _ (fun z=> ?_) (fun z=> ?_)
 ·rw [z]at hd;simp [ae,hd]
 ·rw [z]at hd;simp [ae,hd]
structure Touch where
 ah:List Int
 aa:List Int
 cells:List Int
def Touch.row (t:Touch):List PV:=[.slice (t.ah.map aG), .slice (t.aa.map aG), .slice (t.cells.map aG)]
noncomputable def cd:aw→Nat→ak→Touch:=nL fun s w a=>
 if a.kind=1 then ⟨[a.aN],[],[s.ah.getD w 0,a.cell]⟩
 else if a.kind=2 then ⟨[a.aN],[a.bd],[]⟩
 else if a.kind=4 then ⟨[a.aN,a.other],[bG s w a.hand],[]⟩
 else if a.kind=5∨a.kind=6 then ⟨[a.aN],[bG s w a.hand,bG s w (1-a.hand)],[]⟩
 else ⟨[a.aN],[bG s w a.hand],[]⟩
theorem dL (s:aw)(w:Nat)(a:ak):cd s w a=
 if a.kind=1 then ⟨[a.aN],[],[s.ah.getD w 0,a.cell]⟩
 else if a.kind=2 then ⟨[a.aN],[a.bd],[]⟩
 else if a.kind=4 then ⟨[a.aN,a.other],[bG s w a.hand],[]⟩
 else if a.kind=5∨a.kind=6 then ⟨[a.aN],[bG s w a.hand,bG s w (1-a.hand)],[]⟩
 else ⟨[a.aN],[bG s w a.hand],[]⟩:=by rw [cd,cN]
theorem v8 (s:aw)(w:Nat)(a:ak):(cd s w a).ah.length≤2∧(cd s w a).aa.length≤2∧(cd s w a).cells.length≤2:=by
 rw [dL]
 repeat' split
 all_goals simp
theorem FU {s:aw}{w:Nat}{q1 kind bd cell other q3 q4:Int}(hp:w<s.ah.length)(hh:w<s.ao.length)(hH:0<H.length):
  aL KC (aE KC) 88 [.pure (.agg s.row), .pure (.agg [.int .i64 q1, .int .i64 w, .int .i64 kind, .int .i64 0, .int .i64 bd, .int .i64 cell, .int .i64 other, .int .i64 q3, .int .i64 q4])] c H=
    some (.pure (.agg (cd s w ⟨q1,w,kind,0,bd,cell,other,q3,q4⟩).row),H):=by
 refine aO (bf KC au Tryz.func88 rfl rfl Hz rfl rfl rfl (by simp) hH ?_);have hg:s.ao.getD w bA=s.ao[w]:=(by simp [List.getD_eq_getElem?_getD,hh]);have hgp:s.ah.getD w 0=s.ah[w]:=(by simp [List.getD_eq_getElem?_getD,hp]);have eh:bG s w 0=s.ao[w].l:=(by unfold bG;rw [hg];simp);have eo:bG s w (1-0)=s.ao[w].r:=(by unfold bG;rw [hg];simp);have wr:IntKind.i64.wrap (1-0)=1:=rfl;have hnl: ¬H.length≤H.length-1:=(by omega);have hd:=dL s w ⟨q1,w,kind,0,bd,cell,other,q3,q4⟩;simp only [eh,eo,hgp]at hd;simp only [aw.row];by_cases k1:kind=1
 ·subst k1;simp at hd;simp [hp,hh,aG,aH.row,wr,ae,hd,Touch.row,hnl]
 by_cases k2:kind=2
 ·subst k2;simp at hd;simp [hp,hh,aG,aH.row,wr,ae,hd,Touch.row,hnl]
 by_cases k4:kind=4
 ·subst k4;simp at hd;simp [hp,hh,aG,aH.row,wr,ae,hd,Touch.row,hnl]
 by_cases k5:kind=5
 ·subst k5;simp at hd;simp [hp,hh,aG,aH.row,wr,ae,hd,Touch.row,hnl]
 by_cases k6:kind=6
 ·subst k6;simp at hd;simp [hp,hh,aG,aH.row,wr,ae,hd,Touch.row,hnl]
 have k1':(kind==1)=false:=(by simpa using k1);have k2':(kind==2)=false:=(by simpa using k2);have k4':(kind==4)=false:=(by simpa using k4);have k5':(kind==5)=false:=(by simpa using k5);have k6':(kind==6)=false:=(by simpa using k6);simp [k1,k2,k4,k5,k6]at hd;simp [hp,hh,aG,aH.row,wr,k1',k2',k4',k5',k6',ae,hd,Touch.row,hnl]
theorem FV {s:aw}{w:Nat}{q1 kind bd cell other q3 q4:Int}(hp:w<s.ah.length)(hh:w<s.ao.length)(hH:0<H.length):
  aL KC (aE KC) 88 [.pure (.agg s.row), .pure (.agg [.int .i64 q1, .int .i64 w, .int .i64 kind, .int .i64 1, .int .i64 bd, .int .i64 cell, .int .i64 other, .int .i64 q3, .int .i64 q4])] c H=
    some (.pure (.agg (cd s w ⟨q1,w,kind,1,bd,cell,other,q3,q4⟩).row),H):=by
 refine aO (bf KC au Tryz.func88 rfl rfl Hz rfl rfl rfl (by simp) hH ?_);have hg:s.ao.getD w bA=s.ao[w]:=(by simp [List.getD_eq_getElem?_getD,hh]);have hgp:s.ah.getD w 0=s.ah[w]:=(by simp [List.getD_eq_getElem?_getD,hp]);have eh:bG s w 1=s.ao[w].r:=(by unfold bG;rw [hg];simp);have eo:bG s w (1-1)=s.ao[w].l:=(by unfold bG;rw [hg];simp);have wr:IntKind.i64.wrap (1-1)=0:=rfl;have hnl: ¬H.length≤H.length-1:=(by omega);have hd:=dL s w ⟨q1,w,kind,1,bd,cell,other,q3,q4⟩;simp only [eh,eo,hgp]at hd;simp only [aw.row];by_cases k1:kind=1
 ·subst k1;simp at hd;simp [hp,hh,aG,aH.row,wr,ae,hd,Touch.row,hnl]
 by_cases k2:kind=2
 ·subst k2;simp at hd;simp [hp,hh,aG,aH.row,wr,ae,hd,Touch.row,hnl]
 by_cases k4:kind=4
 ·subst k4;simp at hd;simp [hp,hh,aG,aH.row,wr,ae,hd,Touch.row,hnl]
 by_cases k5:kind=5
 ·subst k5;simp at hd;simp [hp,hh,aG,aH.row,wr,ae,hd,Touch.row,hnl]
 by_cases k6:kind=6
 ·subst k6;simp at hd;simp [hp,hh,aG,aH.row,wr,ae,hd,Touch.row,hnl]
 have k1':(kind==1)=false:=(by simpa using k1);have k2':(kind==2)=false:=(by simpa using k2);have k4':(kind==4)=false:=(by simpa using k4);have k5':(kind==5)=false:=(by simpa using k5);have k6':(kind==6)=false:=(by simpa using k6);simp [k1,k2,k4,k5,k6]at hd;simp [hp,hh,aG,aH.row,wr,k1',k2',k4',k5',k6',ae,hd,Touch.row,hnl]
theorem Bm {s:aw}{w:Nat}{a:ak}(hp:w<s.ah.length)(hh:w<s.ao.length)(hw:a.aN=w)(ha:a.hand=0∨a.hand=1)(hH:0<H.length):
  aL KC (aE KC) 88 [.pure (.agg s.row), .pure (.agg a.row)] c H=some (.pure (.agg (cd s w a).row),H):=by
 obtain⟨q1,aN,kind,hand,bd,cell,other,q3,q4⟩:=a;simp only at hw ha;subst hw;rcases ha with rfl|rfl
 ·exact FU hp hh hH
 ·exact FV hp hh hH
noncomputable def yf:Touch→Touch→Bool:=nL fun a b=>gv a.ah b.ah||(gv a.aa b.aa||gv a.cells b.cells)
theorem yg (a b:Touch):yf a b=(gv a.ah b.ah||(gv a.aa b.aa||gv a.cells b.cells)):=by rw [yf,cN]
theorem Np {a b:Touch}(ha:a.ah.length≤2∧a.aa.length≤2∧a.cells.length≤2)(hb:b.ah.length≤2∧b.aa.length≤2∧b.cells.length≤2)(hH:0<H.length):
  aL KC (aE KC) 87 [.pure (.agg a.row), .pure (.agg b.row)] c H=some (.pure (.bool (yf a b)),H):=by
 refine eF rfl rfl rfl rfl rfl hH fun H hH=> ?_;refine aO (aK KC au Tryz.func87 rfl rfl Tr (by simp) hH ?_);have hd:=yg a b;have C:=fun(l m:List Int) (hl:l.length≤2) (hm:m.length≤2) (c:Nat) (H:aj) (hH:0<H.length)=>FR (c:=c) (H:=H) (l:=l) (m:=m) (by omega) (by omega) hH;simp only [Touch.row]
 cases z1:gv a.ah b.ah with
 |true=>
  simp [z1]at hd;simp [C,ha,hb,z1,ae,hd]
 |false=>
  cases z2:gv a.aa b.aa with
  |true=>
   simp [z1,z2]at hd;simp [C,ha,hb,z1,z2,ae,hd]
  |false=>
   simp [z1,z2]at hd;simp [C,ha,hb,z1,z2,ae,hd]
noncomputable def qe:aw→Nat→ak→Nat→ak→Bool:=nL fun s w a v b=> !yf (cd s w a) (cd s v b)
theorem v9 (s:aw)(w:Nat)(a:ak)(v:Nat)(b:ak):qe s w a v b= !yf (cd s w a) (cd s v b):=by rw [qe,cN]
theorem ID {s:aw} {w v:Nat} {a b:ak} (hp:w<s.ah.length) (hh:w<s.ao.length) (hw:a.aN=w) (ha:a.hand=0∨a.hand=1)
  (hp2:v<s.ah.length) (hh2:v<s.ao.length) (hw2:b.aN=v) (hb:b.hand=0∨b.hand=1) (hH:0<H.length):
  bK KC (aE KC) 53 [.pure (.agg s.row), .pure (.agg a.row), .pure (.agg b.row)] c H=some (.pure (.bool (qe s w a v b)),H):=by
 refine aO (aK KC au Tryz.func53 rfl rfl S8 (by simp) hH ?_);have hd:=v9 s w a v b;have T1:=fun c (H:aj) (hH:0<H.length)=>Bm (c:=c) (H:=H) hp hh hw ha hH;have T2:=fun c (H:aj) (hH:0<H.length)=>Bm (c:=c) (H:=H) hp2 hh2 hw2 hb hH;have B:=fun c (H:aj) (hH:0<H.length)=>Np (c:=c) (H:=H) (v8 s w a) (v8 s v b) hH;simp only [aw.row,ak.row,Touch.row]at T1 T2 B⊢;simp [T1,T2,B,ae,hd]
end
section
variable {c:Nat} {H:aj}
@[simp] theorem ZP (x:Int):(aG x).length=1:=rfl
@[simp] theorem ZQ (x:aH):x.row.length=2:=rfl
@[simp] theorem ZR (x:bB):x.row.length=2:=rfl
theorem Ub {n1 n2 n3:Nm} {v1 v2 v3:Nat} {s:aw} (h:mN H n1 n2 n3 v1 v2 v3 s) (p0:s.ah≠[]) (h0:s.ao≠[]) (t0:s.aa≠[]) (pl:s.ah.length≤1000000) (hl:s.ao.length≤1000000) (tl:s.aa.length≤1000000) (hH:0<H.length)
  (hf1:H.get (H.length-1,aq c 6)=none) (hf2:H.get (H.length-1,aq c 10)=none) (hf3:H.get (H.length-1,aq c 14)=none):
  aL KC (aE KC) 50 [lD n1 n2 n3 s] c H=some (lD (H.length-1,aq c 6) (H.length-1,aq c 10) (H.length-1,aq c 14) s,
   cv H (H.length-1,aq c 6) (H.length-1,aq c 10) (H.length-1,aq c 14) 0 0 0 s):=by
 refine aO (ba KC au Tryz.func50 rfl rfl S6 rfl rfl rfl (by simp) hH ?_);have l1:=aj.bL h.g1;have l2:=aj.bL h.g2;have l3:=aj.bL h.g3;have d1: ¬n1.1=H.length:=(by omega);have d2: ¬n2.1=H.length:=(by omega);have d3: ¬n3.1=H.length:=(by omega);have b1:s.ah.length*8≤1099511627776:=(by omega);have b2:s.ao.length*16≤1099511627776:=(by omega);have b3:s.aa.length*16≤1099511627776:=(by omega);have pq:aq c 6≠aq c 10:=(by unfold aq;omega);have nX:aq c 6≠aq c 14:=(by unfold aq;omega);have mT:aq c 10≠aq c 14:=(by unfold aq;omega);have k1:(H.length-1,aq c 10)≠((H.length-1,aq c 6):Nm):=fun e=>pq (Prod.mk.inj e).2.symm;have k2:(H.length-1,aq c 14)≠((H.length-1,aq c 6):Nm):=fun e=>nX (Prod.mk.inj e).2.symm;have k3:(H.length-1,aq c 14)≠((H.length-1,aq c 10):Nm):=fun e=>mT (Prod.mk.inj e).2.symm;have g2: ∀b,(H.set (H.length-1,aq c 6) b).get (H.length-1,aq c 10)=none:=fun b=>(aj.aJ b k1).trans hf2;have g3: ∀b b',((H.set (H.length-1,aq c 6) b).set (H.length-1,aq c 10) b').get (H.length-1,aq c 14)=none:=fun b b'=>(aj.aJ b' k3).trans ((aj.aJ b k2).trans hf3);have tp:List.take s.ah.length (s.ah.map aG)=s.ah.map aG:=List.take_of_length_le (by simp);have th:List.take s.ao.length (s.ao.map aH.row)=s.ao.map aH.row:=List.take_of_length_le (by simp);have tt:List.take s.aa.length (s.aa.map bB.row)=s.aa.map bB.row:=List.take_of_length_le (by simp);have hn: ¬H.length+1≤H.length:=(by omega);simp only [lD];simp [tp,th,tt,hn,d1,d2,d3,h.g1,h.g2,h.g3,h.e1,h.e2,h.e3,p0,h0,t0,b1,b2,b3];simp [cS,refs,fT,dX,di,gK,gL,dedup,dI,cP,zX,hf1,g2,g3,B6,nY,jF,cv]
end
section
variable {c:Nat} {H:aj}
def r8 (l:List Int)(i j:Nat):List Int:=((l++[(i:Int)]).set i ((l++[(i:Int)]).getD j 0)).set j i
theorem FW (l:List Int)(i j:Nat):(r8 l i j).length=l.length+1:=by simp [r8]
noncomputable def iU:Nat→Nat→List Int→Int→List Int×Int
 |0,_,l,wd=>(l,wd)
 |k+1,i,l,wd=>iU k (i+1) (r8 l i (kS wd (i+1:Nat)).1.toNat) (kS wd (i+1:Nat)).2
theorem set_perm (l:List Int)(j:Nat)(hj:j<l.length)(x:Int):(l.set j x++[l[j]]).Perm (l++[x]):=by
 have e:l=l.take j++l[j]::l.drop (j+1):=(by rw [←List.drop_eq_getElem_cons hj,List.take_append_drop]);have e2:l.set j x=l.take j++x::l.drop (j+1):=List.set_eq_take_append_cons_drop .. |>.trans (by simp [hj]);rw [e2];conv=>rhs;rw [e]
 simp only [List.append_assoc];refine List.Perm.append_left _ ?_;simp only [List.cons_append];refine(List.Perm.cons x List.perm_append_comm).trans ?_;simp only [List.singleton_append];refine(List.Perm.swap ..).trans ?_;refine List.Perm.cons _ ?_;exact(List.perm_append_comm (l₁:=[x]) (l₂:=l.drop (j+1)))
theorem Dh (l:List Int)(i j:Nat)(hl:l.length=i)(hj:j≤i):(r8 l i j).Perm (l++[(i:Int)]):=by
 subst hl;unfold r8;by_cases e:j=l.length
 ·subst e;simp
 ·have hj':j<l.length:=(by omega);have h1:(l++[(l.length:Int)]).getD j 0=l[j]:=(by simp [List.getD_eq_getElem?_getD,List.getElem?_append_left hj',hj']);rw [h1];have h2:(l++[(l.length:Int)]).set l.length l[j]=l++[l[j]]:=(by simp);rw [h2];have h3:(l++[l[j]]).set j (l.length:Int)=l.set j l.length++[l[j]]:=(by rw [List.set_append_left _ _ hj']);rw [h3];exact set_perm l j hj' _
theorem tU: ∀(k i:Nat) (l:List Int) (wd:Int),l.Perm ((List.range i).map Int.ofNat)→i+k≤1000000→(iU k i l wd).1.Perm ((List.range (i+k)).map Int.ofNat)
 |0,i,l,wd,h,_=>by simpa [iU]using h
 |k+1,i,l,wd,h,hk=>by
  have hr:=jS wd ((i+1:Nat):Int) (by omega);have hl:l.length=i:=(by simpa using h.length_eq);have e:i+(k+1)=i+1+k:=(by omega);rw [iU,e];refine tU k (i+1) _ _ ((Dh l i _ hl (by omega)).trans ?_) (by omega);rw [List.range_succ,List.map_append];exact h.append_right _
def Di (l:List Int):Fr:=[(20, .arr 1 (l.map aG) l.length false)]
theorem Dj {nm:Nm}(hlt:nm.1<H.length)(n:Nat)(hn:n≤1000000)(Q:GX→bN→Prop): ∀(k i:Nat) (l:List Int) (wd:Int),i+k=n→l.length=i→0<i→
  Q (.exit 0) ⟨[(5, .a8 (H.length,20) 1 (iU k i l wd).1.length 0 (iU k i l wd).1.length)],Di (iU k i l wd).1::H.set nm (bz (iU k i l wd).2),36⟩→
  gS KC au 83 (lp Tryz.f83 0) [0,1,5,6] [5] Q
   [(0, .ay nm 0),(1, .pure (.int .i64 n)),(5, .a8 (H.length,20) 1 l.length 0 l.length),(6, .pure (.int .i64 i))] (Di l::H.set nm (bz wd)) 36:=by
 have hB: ∀w f0 f1,fS (f0::f1::H.set nm (bz w)) nm:=fun w f0 f1=>dN (dN (kZ hlt));have hne: ¬nm.1=H.length:=(by omega);have hne2: ¬nm.1=H.length+1:=(by omega);have hle:nm.1≤H.length:=(by omega);intro k
 induction k with
 |zero=>
  intro i l wd hi hl h0 hq;have: ¬i<n:=(by omega);apply ax;conv=>arg 4;whnf
  simp [Di,this,aj.length_set];simpa [Di,iU]using hq
 |succ k ih=>
  intro i l wd hi hl h0 hq;have hia:i<n:=(by omega);have hw:=dh (x:=(i:Int)+1) (by omega) (by omega);have hr:=jS wd ((i+1:Nat):Int) (by omega);obtain⟨j,ej⟩: ∃j:Nat,(kS wd ((i+1:Nat):Int)).1=j:=⟨(kS wd ((i+1:Nat):Int)).1.toNat,by omega⟩;have ih':=ih (i+1) (r8 l i j) (kS wd ((i+1:Nat):Int)).2 (by omega) (by rw [FW,hl]) (by omega);rw [iU,ej,Int.toNat_natCast]at hq;have ih'':=ih' hq;have hji:j<l.length+1:=(by omega);have ec:((i+1:Nat):Int)=(i:Int)+1:=(by omega);rw [ec]at ej ih'';have hb:(l.length+1)*8≤1099511627776:=(by omega);have hnb:(i:Int)+1≤9223372036854775807:=(by omega);have hW: ∀w f0 f1,bD (f0::f1::H.set nm (bz w)) nm=w:=fun w f0 f1=>(by rw [dq (by simp [aj.length_set];omega),dq (by simpa [aj.length_set]using hlt),kY hlt]);subst hl;obtain⟨m,em⟩: ∃m,m=l++[(l.length:Int)]:=⟨_,rfl⟩;have hm:m.length=l.length+1:=(by simp [em]);have ra:List.map aG l++[[PV.int .i64 l.length]]=List.map aG m:=(by simp [em,aG]);have hjm:j<m.length:=(by omega);have him:l.length<m.length:=(by omega);have hjI:(j:Int)<(l.length:Int)+1:=(by omega);have hiI:(l.length:Int)<(l.length:Int)+1:=(by omega);have gi:m[l.length]=(l.length:Int):=(by simp [em]);have sw:r8 l l.length j=(m.set l.length m[j]).set j l.length:=by
   unfold r8;rw [←em];simp [List.getD_eq_getElem?_getD,hjm]
  rw [sw]at ih'';have hgj:((List.map aG m).set l.length [PV.int .i64 m[j]])[j]'(by simpa using hjm)=[PV.int .i64 m[j]]:=by rw [List.getElem_set];split<;>simp [aG]
  apply ax;conv=>arg 4;whnf
  simp [Di,hia,hw,aj.length_set,kv,hB,hW,hnb,hlt,hne,hne2,aj.dQ,ej,hb,hji,hjI,hiI,hle,ra,hm,aG,aD,gi,hgj];simpa [Di,aG,hm]using ih''
noncomputable def sY:Nat→Int→List Int×Int:=nL fun n wd=>iU n 0 [] wd
theorem wa (n:Nat)(wd:Int):sY n wd=iU n 0 [] wd:=by rw [sY,cN]
theorem Bn {n:Nat}(wd:Int)(hn:n≤1000000):(sY n wd).1.Perm ((List.range n).map Int.ofNat):=by
 rw [wa];simpa using tU n 0 [] wd (by simp) (by omega)
theorem IE {nm:Nm}(hB:fS H nm){n:Nat}(h0:0<n)(hn:n≤1000000):
  aL KC (aE KC) 83 [.ay nm 0, .pure (.int .i64 n)] c H=some (.pure (.slice ((sY n (bD H nm)).1.map aG)),H.set nm (bz (sY n (bD H nm)).2)):=by
 have hlt:=gT hB;have hset:=kH hB;have hne: ¬nm.1=H.length:=(by omega);have hne2: ¬nm.1=H.length+1:=(by omega);have hle:nm.1≤H.length:=(by omega);have hB2: ∀f0 f1,fS (f0::f1::H) nm:=fun f0 f1=>dN (dN hB);have hW: ∀f0 f1,bD (f0::f1::H) nm=bD H nm:=fun f0 f1=>(by rw [dq (by simp;omega),dq hlt]);have hnl: ¬H.length≤H.length-1:=(by omega);refine aO (bf KC au Tryz.func83 rfl rfl Tn rfl rfl rfl (by simp) (by omega) ?_);obtain⟨k,rfl⟩: ∃k,n=k+1:=⟨n-1,by omega⟩;have hr:=jS (bD H nm) 1 (by omega);have ej:(kS (bD H nm) 1).1=0:=(by omega);have L:=fun Q=>Dj (H:=H) hlt (k+1) hn Q k 1 [0] (kS (bD H nm) 1).2 (by omega) rfl (by omega);have hd:=wa (k+1) (bD H nm);have e1:iU (k+1) 0 [] (bD H nm)=iU k 1 [0] (kS (bD H nm) 1).2:=by
  rw [iU];simp [ej,r8]
 rw [e1]at hd;have hk:(0:Int)<(k:Int)+1:=(by omega);simp [Di]at L;simp;apply ax;conv=>arg 4;whnf
 simp [hk,aj.length_set,kv,hB2,hW,hlt,hne,hne2,aj.dQ,ej,hle,aG,aD];simp [aG]at L;refine L _ ?_;have tk: ∀l:List Int,List.take l.length (List.map aG l)=List.map aG l:=fun l=>List.take_of_length_le (by simp);simp [ae,hd,aj.length_set,hnl,tk]
end
section
variable {c:Nat} {H:aj}
theorem EF {nm:Nm}(hlt:nm.1<H.length)(w:Int)(f0 f1:Fr):fS (f0::f1::H.set nm (bz w)) nm:=dN (dN (kZ hlt))
theorem X8 {nm:Nm}(hlt:nm.1<H.length)(w:Int)(f1:Fr):fS (f1::H.set nm (bz w)) nm:=dN (kZ hlt)
theorem xl {nm:Nm}(hlt:nm.1<H.length)(w:Int)(f0 f1:Fr):bD (f0::f1::H.set nm (bz w)) nm=w:=by
 rw [dq (by simp [aj.length_set];omega),dq (by simpa [aj.length_set]using hlt),kY hlt]
theorem Oh {nm:Nm}(hlt:nm.1<H.length)(w:Int)(f1:Fr):bD (f1::H.set nm (bz w)) nm=w:=by
 rw [dq (by simpa [aj.length_set]using hlt),kY hlt]
def jz:dH:= .box [.pure (.int .i64 0), .pure (.int .i64 0), .aV, .aV, .aV, .aV, .aV]
def Uc (w d:Int)(L:Nat)(p:List aW):Fr:=
 [(4,jz),(5, .box [.pure (.int .i64 w), .pure (.int .i64 d), .a8 (L,46) 2 p.length 0 p.length, .aV, .aV, .aV, .aV]),(46, .arr 2 (p.map aW.row) 0 false)]
theorem Dk {nm:Nm}(hlt:nm.1<H.length)(w d:Int)(cells:List Int)(hcl:cells.length≤1000000)(Q:GX→bN→Prop): ∀(k:Nat) (p:List aW) (wd:Int),p.length+k≤cells.length→0<p.length→p.map aW.cell=cells.take p.length→(∀x∈p,1≤x.role∧x.role≤3)→
  (∀(p':List aW) (wd':Int),p'.length=p.length+k→p'.map aW.cell=cells.take p'.length→(∀x∈p',1≤x.role∧x.role≤3)→
   Q (.exit 0) ⟨[(0, .ay nm 0),(4, .ay (H.length,4) 0),(5, .ay (H.length,5) 0)],Uc w d H.length p'::H.set nm (bz wd'),99⟩)→
  gS KC au 47 (lp Tryz.f47 0) [0,4,5,6,7] [0,4,5] Q
   [(0, .ay nm 0),(4, .ay (H.length,4) 0),(5, .ay (H.length,5) 0),(6, .pure (.slice (cells.map aG))),(7, .pure (.int .i64 k))] (Uc w d H.length p::H.set nm (bz wd)) 99:=by
 have hne: ¬nm.1=H.length:=(by omega);have hne2: ¬nm.1=H.length+1:=(by omega);have hle:nm.1≤H.length:=(by omega);have hB:=fun w f0 f1=>EF hlt w f0 f1;have hW:=fun w f0 f1=>xl hlt w f0 f1;intro k
 induction k with
 |zero=>
  intro p wd hi h0 hpc hpr hq;have hq':=hq p wd (by omega) hpc hpr;apply ax;conv=>arg 4;whnf
  simp [Uc,aj.length_set,hle];simpa [Uc]using hq'
 |succ k ih=>
  intro p wd hi h0 hpc hpr hq;have hw:=dh (x:=((k:Int)+1)-1) (by omega) (by omega);have hk:(0:Int)<(k:Int)+1:=(by omega);have hia:p.length<cells.length:=(by omega);have hr:=vo wd 1 3 (by omega) (by omega) (by omega);have hb:(p.length+1)*16≤1099511627776:=(by omega);have es:(k:Int)+1-1=k:=(by omega);rw [es]at hw
  have ih':=ih (p++[⟨(um wd 1 3).1,cells[p.length]⟩]) (um wd 1 3).2 (by simp;omega) (by simp) (by
   simp only [List.map_append,List.map_cons,List.map_nil,hpc,List.length_append,List.length_singleton];exact List.take_append_getElem hia) (by
   intro x hx;rcases List.mem_append.1 hx with hx|hx
   ·exact hpr x hx
   ·simp at hx;subst hx;exact hr) (fun p' wd' h1 h2 h3=>hq p' wd' (by rw [h1];simp;omega) h2 h3)
  apply ax;conv=>arg 4;whnf
  simp [Uc,hk,es,hw,aj.length_set,sA,hB,hW,hlt,hne,hne2,aj.dQ,hle,aG,hia,hb];simpa [Uc,aW.row]using ih'
end
section
variable {c:Nat} {H:aj}
theorem po (w n:Int)(h:n≤9223372036854775807)(h1:1≤n): ∃(i:Nat) (w':Int),kS w n=((i:Int),w')∧(i:Int)<n:=by
 have:=jS w n h;refine⟨(kS w n).1.toNat,(kS w n).2, ?_, ?_⟩
 ·rw [Int.toNat_of_nonneg this.1]
 ·omega
theorem my (w:Int)(hi:Int)(h:hi≤1000000)(h1:1≤hi): ∃(i:Nat) (w':Int),um w 1 hi=((i:Int),w')∧1≤i∧(i:Int)≤hi:=by
 have:=vo w 1 hi (by omega) (by omega) (by omega);refine⟨(um w 1 hi).1.toNat,(um w 1 hi).2, ?_, ?_, ?_⟩
 ·rw [Int.toNat_of_nonneg (by omega)]
 ·omega
 ·omega
def Nq (w d:Int)(L:Nat)(p:List aW)(ts:List bc):Fr:=
 [(4,jz),(5, .box [.pure (.int .i64 w), .pure (.int .i64 d), .a8 (L,46) 2 p.length 0 p.length,dG (L,83) 5 (ts.map bc.row), .aV, .aV, .aV]),(46, .arr 2 (p.map aW.row) 0 false)]
def ThB (w d:Int)(t:bc):Prop:=0≤t.cell∧t.cell<w*d∧0≤t.state∧t.state<16∧t.home=0∧t.want=0
theorem Dl {nm:Nm}(hlt:nm.1<H.length)(w d:Int)(hwd:IntKind.i64.wrap (w*d)=w*d)(hwd1:0<w*d)(hwd2:w*d≤1000000)(p:List aW)(hp:p≠[])(hpl:p.length≤1000000)(hpc: ∀x∈p,0≤x.cell∧x.cell<w*d)(Q:GX→bN→Prop): ∀(k:Nat) (ts:List bc) (wd:Int),ts.length+k≤1000000→(∀t∈ts,ThB w d t)→
  (∀(ts':List bc) (wd':Int),ts'.length=ts.length+k→(∀t∈ts',ThB w d t)→
   Q (.exit 2) ⟨[(0, .ay nm 0),(4, .ay (H.length,4) 0),(5, .ay (H.length,5) 0)],fX 83 5 (ts'.map bc.row) (Nq w d H.length p ts')::H.set nm (bz wd'),99⟩)→
  gS KC au 47 (lp Tryz.f47 1) [0,4,5,8] [0,4,5] Q
   [(0, .ay nm 0),(4, .ay (H.length,4) 0),(5, .ay (H.length,5) 0),(8, .pure (.int .i64 k))] (fX 83 5 (ts.map bc.row) (Nq w d H.length p ts)::H.set nm (bz wd)) 99:=by
 have hne: ¬nm.1=H.length:=(by omega);have hne2: ¬nm.1=H.length+1:=(by omega);have hle:nm.1≤H.length:=(by omega);have hB:=fun w f0 f1=>EF hlt w f0 f1;have hW:=fun w f0 f1=>xl hlt w f0 f1;have lp0:0<p.length:=List.length_pos_iff.2 hp;have hplI:(p.length:Int)≤9223372036854775807:=(by omega);have hwdI:w*d≤9223372036854775807:=(by omega);intro k
 induction k with
 |zero=>
  intro ts wd hi hts hq;have hq':=hq ts wd (by omega) hts;apply ax;conv=>arg 4;whnf
  simp [Nq,aj.length_set,hle];simpa [Nq]using hq'
 |succ k ih=>
  intro ts wd hi hts hq;have hw:=dh (x:=((k:Int)+1)-1) (by omega) (by omega);have hk:(0:Int)<(k:Int)+1:=(by omega);have hb:(ts.length+1)*40≤1099511627776:=(by omega);have es:(k:Int)+1-1=k:=(by omega);rw [es]at hw;obtain⟨i,w1,e1,hi1I⟩:=po wd p.length hplI (by omega);have hi1:i<p.length:=(by omega);obtain⟨st,w2,e2,hst⟩:=po w1 16 (by omega) (by omega);obtain⟨cl,w3,e3⟩: ∃(cl:Bool) (w3:Int),zZ w2 3=(cl,w3):=⟨_,_,rfl⟩;obtain⟨mv,w4,e4⟩: ∃(mv:Bool) (w4:Int),zZ w3 5=(mv,w4):=⟨_,_,rfl⟩;have hin: ¬(i:Int)<0:=by omega
  have ih':=fun(t:bc) (w':Int) (ht:ThB w d t)=>ih (ts++[t]) w' (by simp;omega) (by
   intro x hx;rcases List.mem_append.1 hx with hx|hx
   ·exact hts x hx
   ·simp at hx;subst hx;exact ht) (fun p' wd' h1 h2=>hq p' wd' (by rw [h1];simp;omega) h2)
  have hcell:=hpc p[i] (List.getElem_mem hi1);apply ax;conv=>arg 4;whnf
  cases mv with
  |false=>
   have ih2:=ih' ⟨p[i].cell,st,0,0,cl⟩ w4 ⟨hcell.1,hcell.2,Int.natCast_nonneg st,hst,rfl,rfl⟩;simp [Nq,bc.row]at ih2;simp [Nq,hk,es,hw,aj.length_set,kv,qd,hB,hW,hplI,hlt,hne,hne2,aj.dQ,hle,aG,hb,e1,e2,e3,e4,hi1,hi1I,hin,aW.row];exact ih2
  |true=>
   obtain⟨cc,w5,e5,hcc⟩:=po w4 (w*d) hwdI (by omega);have ih2:=ih' ⟨cc,st,0,0,cl⟩ w5 ⟨Int.natCast_nonneg cc,hcc,Int.natCast_nonneg st,hst,rfl,rfl⟩;simp [Nq,bc.row]at ih2;simp [Nq,hk,es,hw,aj.length_set,kv,qd,hB,hW,hplI,hlt,hne,hne2,aj.dQ,hle,aG,hb,e1,e2,e3,e4,e5,hwd,hwdI,hi1,hi1I,hin,aW.row];exact ih2
def Nr (w d:Int)(L:Nat)(p:List aW)(ts:List bc)(ls:List Int):Fr:=
 [(4,jz),(5, .box [.pure (.int .i64 w), .pure (.int .i64 d), .a8 (L,46) 2 p.length 0 p.length, .a8 (L,83) 5 ts.length 0 ts.length, .aV,dG (L,96) 1 (ls.map aG), .aV]),(46, .arr 2 (p.map aW.row) 0 false),(83, .arr 5 (ts.map bc.row) 0 false)]
theorem Dm {nm:Nm}(hlt:nm.1<H.length)(w d:Int)(p:List aW)(ts:List bc)(Q:GX→bN→Prop): ∀(k i:Nat) (ls:List Int) (wd:Int),i+k=4→1≤i→ls.length<i→ls.Pairwise (· < ·)→(∀x∈ls,1≤x∧x<i)→
  (∀(ls':List Int) (wd':Int),ls'.length≤3→ls'.Pairwise (· < ·)→(∀x∈ls',1≤x∧x<4)→
   Q (.exit 4) ⟨[(4, .ay (H.length,4) 0),(5, .ay (H.length,5) 0)],fX 96 1 (ls'.map aG) (Nr w d H.length p ts ls')::H.set nm (bz wd'),99⟩)→
  gS KC au 47 (lp Tryz.f47 2) [0,4,5,10] [4,5] Q
   [(0, .ay nm 0),(4, .ay (H.length,4) 0),(5, .ay (H.length,5) 0),(10, .pure (.int .i64 i))] (fX 96 1 (ls.map aG) (Nr w d H.length p ts ls)::H.set nm (bz wd)) 99:=by
 have hne: ¬nm.1=H.length:=(by omega);have hne2: ¬nm.1=H.length+1:=(by omega);have hle:nm.1≤H.length:=(by omega);have hB:=fun w f0 f1=>EF hlt w f0 f1;have hW:=fun w f0 f1=>xl hlt w f0 f1;intro k
 induction k with
 |zero=>
  intro i ls wd hi h1 hl hps hb hq;have hq':=hq ls wd (by omega) hps (fun x hx=>⟨(hb x hx).1,by have:=(hb x hx).2;omega⟩);have: ¬(i:Int)≤3:=(by omega);apply ax;conv=>arg 4;whnf
  simp [Nr,aj.length_set,this];simpa [Nr]using hq'
 |succ k ih=>
  intro i ls wd hi h1 hl hps hb hq;have hw:=dh (x:=(i:Int)+1) (by omega) (by omega);have hk:(i:Int)≤3:=(by omega);have hbb:(ls.length+1)*8≤1099511627776:=(by omega);obtain⟨on,w1,e1⟩: ∃(on:Bool) (w1:Int),zZ wd 3=(on,w1):=⟨_,_,rfl⟩;apply ax;conv=>arg 4;whnf
  cases on with
  |true=>
   have ih2:=ih (i+1) ls w1 (by omega) (by omega) (by omega) hps (fun x hx=>⟨(hb x hx).1,by have:=(hb x hx).2;omega⟩) hq;simp [Nr]at ih2;simp [Nr,hk,hw,aj.length_set,qd,hB,hW,hlt,hne,hne2,aj.dQ,hle,e1];exact ih2
  |false=>
   have ih2:=ih (i+1) (ls++[(i:Int)]) w1 (by omega) (by omega) (by simp;omega) (List.pairwise_append.2 ⟨hps,by simp,fun a ha b hb'=>by simp at hb';subst hb';exact(hb a ha).2⟩)
    (fun x hx=>by
     rcases List.mem_append.1 hx with hx|hx
     ·exact⟨(hb x hx).1,by have:=(hb x hx).2;omega⟩
     ·simp at hx;subst hx;constructor<;>omega) hq
   simp [Nr,aG]at ih2;simp [Nr,hk,hw,aj.length_set,qd,hB,hW,hlt,hne,hne2,aj.dQ,hle,e1,aG,hbb];exact ih2
structure uU (r:aA):Prop where
 w1:1≤r.wide
 w3:r.wide≤3
 d1:1≤r.deep
 d3:r.deep≤3
 p0:r.ah≠[]
 p3:r.ah.length≤3
 pn:(r.ah.map aW.cell).Nodup
 pc: ∀x∈r.ah,(1≤x.role∧x.role≤3)∧0≤x.cell∧x.cell<r.wide*r.deep
 t0:r.aa≠[]
 t4:r.aa.length≤4
 tc: ∀t∈r.aa,ThB r.wide r.deep t
 seen:r.seen=[]
 lp:r.br.Pairwise (· < ·)
 lr: ∀x∈r.br,1≤x∧x<4
 ll:r.br.length≤3
 ai:r.ai=[]
def uW (n2 n3 n5:Nm)(r:aA):GV:= .agg [.pure (.int .i64 r.wide), .pure (.int .i64 r.deep), .a8 n2 2 r.ah.length 0 r.ah.length, .a8 n3 5 r.aa.length 0 r.aa.length, .aV,dG n5 1 (r.br.map aG), .aV]
def uV (H:aj)(nm:Nm)(es:Nat)(rows:List (List PV)):aj:=if rows=[]then H else H.set nm (.arr es rows 0 false)
theorem EN {nm : Nm} (hB0 : fS H nm) {sd : Nat} (hsd : 1 ≤ sd ∧ sd ≤ 3)
    (hf1 : H.get (H.length - 1, aq c 46) = none) (hf2 : H.get (H.length - 1, aq c 83) = none) (hf3 : H.get (H.length - 1, aq c 96) = none) (hnk : ∀ k, nm ≠ (H.length - 1, aq c k)) :
    ∃ r wd, uU r ∧ aL KC (aE KC) 47 [.ay nm 0, .pure (.int .i64 sd)] c H = some (uW (H.length - 1, aq c 46) (H.length - 1, aq c 83) (H.length - 1, aq c 96) r,
      uV (((H.set nm (bz wd)).set (H.length - 1, aq c 46) (.arr 2 (r.ah.map aW.row) 0 false)).set (H.length - 1, aq c 83) (.arr 5 (r.aa.map bc.row) 0 false)) (H.length - 1, aq c 96) 1 (r.br.map aG)) := by
  have hlt := gT hB0
  have hset := kH hB0
  have hne : ¬ nm.1 = H.length := by omega
  have hne2 : ¬ nm.1 = H.length + 1 := by omega
  have hle : nm.1 ≤ H.length := by omega
  suffices hs : mh (aL KC (aE KC) 47 [.ay nm 0, .pure (.int .i64 sd)] c H) (fun x => ∃ r wd, uU r ∧ x = (uW (H.length - 1, aq c 46) (H.length - 1, aq c 83) (H.length - 1, aq c 96) r,
      uV (((H.set nm (bz wd)).set (H.length - 1, aq c 46) (.arr 2 (r.ah.map aW.row) 0 false)).set (H.length - 1, aq c 83) (.arr 5 (r.aa.map bc.row) 0 false)) (H.length - 1, aq c 96) 1 (r.br.map aG))) by
    obtain ⟨x, hx, r, wd, h1, h2⟩ := hs
    exact ⟨r, wd, h1, by rw [hx, h2]⟩
  refine bf KC au Tryz.func47 rfl rfl SY rfl rfl rfl (by simp) (by omega) ?_
  obtain ⟨w0, hw0⟩ : ∃ w0, bD H nm = w0 := ⟨_, rfl⟩
  rw [hw0] at hset
  have hB' : ∀ f, fS (f :: H) nm := fun f => dN hB0
  have hW' : ∀ f, bD (f :: H) nm = w0 := fun f => (dq hlt).trans hw0
  have hB1 := fun w f => X8 hlt w f
  have hW1 := fun w f => Oh hlt w f
  have hB2 := fun w f0 f1 => EF hlt w f0 f1
  have hW2 := fun w f0 f1 => xl hlt w f0 f1
  obtain ⟨wi, w1, e1, hwi1, hwi3⟩ := my w0 sd (by omega) (by omega)
  obtain ⟨de, w2, e2, hde1, hde3⟩ := my w1 sd (by omega) (by omega)
  obtain ⟨N, hN⟩ : ∃ N, N = wi * de := ⟨_, rfl⟩
  have hN9 : N ≤ 3 * 3 := by rw [hN]; exact Nat.mul_le_mul (by omega) (by omega)
  have hN0 : 0 < N := by rw [hN]; exact Nat.mul_pos hwi1 hde1
  have hNI : (wi : Int) * (de : Int) = (N : Int) := by rw [hN]; simp
  have hwN : IntKind.i64.wrap ((wi : Int) * (de : Int)) = (N : Int) := by rw [hNI]; exact dh (by omega) (by omega)
  obtain ⟨cells, w3, e3⟩ : ∃ cells w3, sY N w2 = (cells, w3) := ⟨_, _, rfl⟩
  have hpm : cells.Perm ((List.range N).map Int.ofNat) := by have := Bn (n := N) w2 (by omega); rwa [e3] at this
  have hcl : cells.length = N := by simpa using hpm.length_eq
  have hcn : cells.Nodup := hpm.nodup_iff.2 (List.Pairwise.map Int.ofNat (fun a b h e => h (Int.ofNat.inj e)) List.nodup_range)
  have hcr : ∀ x ∈ cells, 0 ≤ x ∧ x < N := fun x hx => by
    have := hpm.mem_iff.1 hx
    simp only [List.mem_map, List.mem_range] at this
    obtain ⟨a, h1, h2⟩ := this
    subst h2; constructor
    · exact Int.natCast_nonneg a
    · exact Int.ofNat_lt.2 h1
  obtain ⟨mn, hmn⟩ : ∃ mn : Nat, mn = min 3 N := ⟨_, rfl⟩
  have hmI : (if (N : Int) < 3 then (N : Int) else 3) = (mn : Int) := by split <;> omega
  obtain ⟨np, w4, e4, hnp1, hnp2⟩ := my w3 mn (by omega) (by omega)
  obtain ⟨m, rfl⟩ : ∃ m, np = m + 1 := ⟨np - 1, by omega⟩
  obtain ⟨ro, w5, e5, hro1, hro3⟩ := my w4 3 (by omega) (by omega)
  have c0 : 0 < cells.length := by omega
  have hNm : N ≤ 1000000 := by omega
  have gc : cells[0]? = some cells[0] := List.getElem?_eq_getElem c0
  simp
  simp [aj.length_set, sA, IE, hB', hW', hB1, hW1, hB2, hW2, hlt, hne, hne2, aj.dQ, hle, e1, e2, hwN, hN0, hNm, e3, hcl, hmI, e4]
  have hes : ((m : Int) + 1) - 1 = m := by omega
  have hwm := dh (x := (m : Int)) (by omega) (by omega)
  have hm0 : (0 : Int) < (m : Int) + 1 := by omega
  have hN1 : (0 : Int) < (N : Int) := by omega
  have L1 := fun Q => Dk (H := H) hlt wi de cells (by omega) Q m [⟨ro, cells[0]⟩] w5 (by simp; omega) (by simp) (by simp [List.take_one, List.head?_eq_getElem?, c0]) (by simp; omega)
  simp [Uc, jz, aW.row] at L1
  apply ax
  conv => arg 4; whnf
  simp [hm0, hes, hwm, aj.length_set, sA, hB2, hW2, hlt, hne, hne2, aj.dQ, hle, e5, hN1, hcl, aG, gc]
  refine L1 _ fun p wd1 hp1 hp2 hp3 => ?_
  clear L1
  have hp0 : p ≠ [] := by intro h; subst h; simp at hp1; omega
  have hpl : p.length ≤ 3 := by omega
  have hpc : ∀ x ∈ p, 0 ≤ x.cell ∧ x.cell < (wi : Int) * de := fun x hx => by
    have h1 : x.cell ∈ p.map aW.cell := List.mem_map_of_mem hx
    rw [hp2] at h1
    have := hcr _ (List.mem_of_mem_take h1)
    rw [hNI]; exact this
  obtain ⟨nt, w6, e6, hnt1, hnt4⟩ := my wd1 4 (by omega) (by omega)
  have L2 := fun Q => Dl (H := H) hlt wi de (by rw [hwN, hNI]) (by rw [hNI]; omega) (by rw [hNI]; omega) p hp0 (by omega) hpc Q nt [] w6 (by simp; omega) (by simp)
  simp [Nq, jz, fZ, gb] at L2
  simp [aj.length_set, sA, hB1, hW1, hlt, hne, hne2, aj.dQ, hle, e6]
  refine L2 _ fun ts wd2 ht1 ht2 => ?_
  clear L2
  have ht0 : ts ≠ [] := by intro h; subst h; simp at ht1; omega
  have L3 := fun Q => Dm (H := H) hlt wi de p ts Q 3 1 [] wd2 (by omega) (by omega) (by simp) .nil (by simp)
  simp [Nr, jz, fZ, gb] at L3
  simp [dG, fX, ht0]
  refine L3 _ fun ls wd3 hl1 hl2 hl3 => ?_
  clear L3
  have hRB : uU ⟨wi, de, p, ts, [], ls, []⟩ :=
    { w1 := by show (1 : Int) ≤ wi; omega, w3 := by show (wi : Int) ≤ 3; omega, d1 := by show (1 : Int) ≤ de; omega, d3 := by show (de : Int) ≤ 3; omega, p0 := hp0, p3 := hpl, pn := by
        show (p.map aW.cell).Nodup
        rw [hp2]; exact hcn.sublist (List.take_sublist ..), pc := fun x hx => ⟨hp3 x hx, hpc x hx⟩, t0 := ht0, t4 := by show ts.length ≤ 4; omega, tc := ht2, seen := rfl, lp := hl2, lr := hl3, ll := hl1, ai := rfl }
  have pq : aq c 46 ≠ aq c 83 := by unfold aq; omega
  have nX : aq c 46 ≠ aq c 96 := by unfold aq; omega
  have mT : aq c 83 ≠ aq c 96 := by unfold aq; omega
  have k1 : (H.length - 1, aq c 83) ≠ ((H.length - 1, aq c 46) : Nm) := fun e => pq (Prod.mk.inj e).2.symm
  have k2 : (H.length - 1, aq c 96) ≠ ((H.length - 1, aq c 46) : Nm) := fun e => nX (Prod.mk.inj e).2.symm
  have k3 : (H.length - 1, aq c 96) ≠ ((H.length - 1, aq c 83) : Nm) := fun e => mT (Prod.mk.inj e).2.symm
  have g1 : (H.set nm (bz wd3)).get (H.length - 1, aq c 46) = none := (aj.aJ _ (hnk _).symm).trans hf1
  have g2 : ∀ b, ((H.set nm (bz wd3)).set (H.length - 1, aq c 46) b).get (H.length - 1, aq c 83) = none := fun b => (aj.aJ b k1).trans ((aj.aJ _ (hnk _).symm).trans hf2)
  have g3 : ∀ b b', (((H.set nm (bz wd3)).set (H.length - 1, aq c 46) b).set (H.length - 1, aq c 83) b').get (H.length - 1, aq c 96) = none := fun b b' => (aj.aJ b' k3).trans ((aj.aJ b k2).trans ((aj.aJ _ (hnk _).symm).trans hf3))
  simp
  suffices hs : ∀ x, gG KC 47 c (GV.agg
        [GV.pure (PV.int IntKind.i64 ↑wi), GV.pure (PV.int IntKind.i64 ↑de),
          GV.a8 (List.length H, 46) 2 p.length 0 p.length, GV.a8 (List.length H, 83) 5 ts.length 0 ts.length, GV.aV,
          dG (List.length H, 96) 1 (List.map aG ls), GV.aV])
      (fX 96 1 (List.map aG ls)
          [(4, x), (5, x),
            (46, dH.arr 2 (List.map aW.row p) 0 false), (83, dH.arr 5 (List.map bc.row ts) 0 false)] ::
        H.set nm (bz wd3)) = some (uW (List.length H - 1, aq c 46) (List.length H - 1, aq c 83) (List.length H - 1, aq c 96) ⟨wi, de, p, ts, [], ls, []⟩,
              uV
                (((H.set nm (bz wd3)).set (List.length H - 1, aq c 46)
                      (dH.arr 2 (List.map aW.row p) 0 false)).set
                  (List.length H - 1, aq c 83) (dH.arr 5 (List.map bc.row ts) 0 false))
                (List.length H - 1, aq c 96) 1 (List.map aG ls)) by
    rw [hs]
    rw [jf]
    exact ⟨_, hRB, _, rfl⟩
  intro x
  by_cases hls : ls = []
  · subst hls
    simp [fZ, gb, cS, refs, fT, dX, di, gK, gL, dedup, dI, cP, zX, g1, g2, g3, B6, nY, jF, uW, uV, aj.length_set, aW.row, bc.row]
  · simp [dG, fX, hls, cS, refs, fT, dX, di, gK, gL, dedup, dI, cP, zX, g1, g2, g3, B6, nY, jF, uW, uV, aj.length_set, aW.row, bc.row]
end
end Go.Gh
