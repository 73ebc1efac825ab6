/- Texts joined: the evaluator over ghost values, its soundness, the walks. Spaces struck and names made short by a program, for the size. -/
import Derived.Test.YtkcmcjohoockcaaGreatGc5g
namespace Go.Gh
open Go.Proofs
set_option linter.unusedVariables false
set_option linter.unusedSimpArgs false
set_option linter.unnecessarySimpa false
set_option maxRecDepth 100000
set_option maxHeartbeats 8000000
section
variable {c:Nat} {H:aj}
noncomputable def gI:List Int→List Int→Bool:=mI fun l m=>l.any fun x=>m.contains x
theorem pj (l m:List Int):gI l m=l.any fun x=>m.contains x:=by rw [gI,cO]
theorem Ab (l m:List Int)(hm:m.length≤1000000)(i:Nat)(hi:i<l.length)(H':aj)(f0 f1:Fr)(hH':H'=f1::f0::H)(Q:GX→bN→Prop):
  ∀k j:Nat,j+k=m.length→
  ((m.drop j).contains l[i]=false→Q (.exit 2) ⟨[(0, .pure (.slice (l.map aE))),(1, .pure (.slice (m.map aE))),(4,aN),(5, .pure (.int .i64 i))],H',28⟩)→
  ((m.drop j).contains l[i]=true→Q .ret ⟨[(0, .pure (.slice (l.map aE))),(1, .pure (.slice (m.map aE))),(4, .pure (.bool true)),(5, .pure (.int .i64 i))],H',28⟩)→
  fM KC au 122 (lp Tryz.f122 1) [0,1,5,6] [0,1,4,5] Q
   [(0, .pure (.slice (l.map aE))),(1, .pure (.slice (m.map aE))),(5, .pure (.int .i64 i)),(6, .pure (.int .i64 j))] H' 28:=by
 subst hH';intro k
 induction k with
 |zero=>
  intro j hj h1 h2;have e1:m.drop j=[]:=List.drop_of_length_le (by omega);rw [e1]at h1;have: ¬j<m.length:=(by omega);apply ax;conv=>arg 4;whnf
  simp [this];exact h1 rfl
 |succ k ih=>
  intro j hj h1 h2;have hja:j<m.length:=(by omega);have hw:=cU (x:=(j:Int)+1) (by omega) (by omega);have ih':=ih (j+1) (by omega);rw [List.drop_eq_getElem_cons hja,List.contains_cons]at h1 h2;apply ax;conv=>arg 4;whnf
  cases he:l[i]==m[j]with
  |true=>
   rw [he]at h2;simp [hi,hja,aE,he];exact h2 rfl
  |false=>
   rw [he]at h1 h2;rw [Bool.false_or]at h1 h2;simp [hi,hja,aE,he,hw];exact ih' h1 h2
theorem BN (l m:List Int)(hl:l.length≤1000000)(hm:m.length≤1000000)(f0:Fr)(Q:GX→bN→Prop):
  ∀k i:Nat,i+k=l.length→
  (((l.drop i).any fun x=>m.contains x)=false→Q (.exit 0) ⟨[(4,aN)],f0::H,28⟩)→
  (((l.drop i).any fun x=>m.contains x)=true→Q .ret ⟨[(4, .pure (.bool true))],f0::H,28⟩)→
  fM KC au 122 (lp Tryz.f122 0) [0,1,5] [4] Q
   [(0, .pure (.slice (l.map aE))),(1, .pure (.slice (m.map aE))),(5, .pure (.int .i64 i))] (f0::H) 28:=by
 intro k
 induction k with
 |zero=>
  intro i hi h1 h2;have e1:l.drop i=[]:=List.drop_of_length_le (by omega);rw [e1]at h1;have: ¬i<l.length:=(by omega);apply ax;conv=>arg 4;whnf
  simp [this];exact h1 rfl
 |succ k ih=>
  intro i hi h1 h2;have hia:i<l.length:=(by omega);have hw:=cU (x:=(i:Int)+1) (by omega) (by omega);have ih':=ih (i+1) (by omega);rw [List.drop_eq_getElem_cons hia,List.any_cons]at h1 h2;apply ax;conv=>arg 4;whnf
  have L:=fun f1 Q=>Ab l m hm i hia (f1::f0::H) f0 f1 rfl Q m.length 0 (by omega);simp only [List.drop_zero]at L;simp [hia];refine L _ _ (fun z=> ?_) (fun z=> ?_)
  ·rw [z,Bool.false_or]at h1 h2;simp [hw];exact ih' h1 h2
  ·rw [z,Bool.true_or]at h2;simp;exact h2 rfl
theorem yH {l m:List Int}(hl:l.length≤1000000)(hm:m.length≤1000000)(hH:0<H.length):
  aL KC (aG KC) 122 [.pure (.slice (l.map aE)), .pure (.slice (m.map aE))] c H=some (.pure (.bool (gI l m)),H):=by
 refine dp rfl rfl rfl rfl rfl hH fun H hH=> ?_;refine aM (aH KC au Tryz.func122 rfl rfl N6 (by simp) hH ?_);have hd:=pj l m;have L:=fun f0 Q=>BN (H:=H) l m hl hm f0 Q l.length 0 (by omega);simp only [List.drop_zero]at L;simp;refine L _ _ (fun z=> ?_) (fun z=> ?_)
 ·rw [z]at hd;simp [ae,hd]
 ·rw [z]at hd;simp [ae,hd]
structure Touch where
 ah:List Int
 aa:List Int
 cells:List Int
def Touch.row (t:Touch):List PV:=[.slice (t.ah.map aE), .slice (t.aa.map aE), .slice (t.cells.map aE)]
noncomputable def bX:az→Nat→ak→Touch:=mI fun s w a=>
 if a.kind=1 then ⟨[a.aQ],[],[s.ah.getD w 0,a.cell]⟩
 else if a.kind=2 then ⟨[a.aQ],[a.bh],[]⟩
 else if a.kind=4 then ⟨[a.aQ,a.other],[bK s w a.hand],[]⟩
 else if a.kind=5∨a.kind=6 then ⟨[a.aQ],[bK s w a.hand,bK s w (1-a.hand)],[]⟩
 else ⟨[a.aQ],[bK s w a.hand],[]⟩
theorem eV (s:az)(w:Nat)(a:ak):bX s w a=
 if a.kind=1 then ⟨[a.aQ],[],[s.ah.getD w 0,a.cell]⟩
 else if a.kind=2 then ⟨[a.aQ],[a.bh],[]⟩
 else if a.kind=4 then ⟨[a.aQ,a.other],[bK s w a.hand],[]⟩
 else if a.kind=5∨a.kind=6 then ⟨[a.aQ],[bK s w a.hand,bK s w (1-a.hand)],[]⟩
 else ⟨[a.aQ],[bK s w a.hand],[]⟩:=by rw [bX,cO]
theorem jY (s:az)(w:Nat)(a:ak):(bX s w a).ah.length≤2∧(bX s w a).aa.length≤2∧(bX s w a).cells.length≤2:=by
 rw [eV]
 repeat' split
 all_goals simp
theorem G7 {s:az}{w:Nat}{q1 kind bh cell other q3 q4:Int}(hp:w<s.ah.length)(hh:w<s.aq.length)(hH:0<H.length):
  aL KC (aG KC) 88 [.pure (.agg s.row), .pure (.agg [.int .i64 q1, .int .i64 w, .int .i64 kind, .int .i64 0, .int .i64 bh, .int .i64 cell, .int .i64 other, .int .i64 q3, .int .i64 q4])] c H=
    some (.pure (.agg (bX s w ⟨q1,w,kind,0,bh,cell,other,q3,q4⟩).row),H):=by
 refine aM (aW KC au Tryz.func88 rfl rfl I9 rfl rfl rfl (by simp) hH ?_);have hg:s.aq.getD w bH=s.aq[w]:=(by simp [List.getD_eq_getElem?_getD,hh]);have hgp:s.ah.getD w 0=s.ah[w]:=(by simp [List.getD_eq_getElem?_getD,hp]);have eh:bK s w 0=s.aq[w].l:=(by unfold bK;rw [hg];simp);have eo:bK s w (1-0)=s.aq[w].r:=(by unfold bK;rw [hg];simp);have wr:IntKind.i64.wrap (1-0)=1:=rfl;have hnl: ¬H.length≤H.length-1:=(by omega);have hd:=eV s w ⟨q1,w,kind,0,bh,cell,other,q3,q4⟩;simp only [eh,eo,hgp]at hd;simp only [az.row];by_cases k1:kind=1
 ·subst k1;simp at hd;simp [hp,hh,aE,aF.row,wr,ae,hd,Touch.row,hnl]
 by_cases k2:kind=2
 ·subst k2;simp at hd;simp [hp,hh,aE,aF.row,wr,ae,hd,Touch.row,hnl]
 by_cases k4:kind=4
 ·subst k4;simp at hd;simp [hp,hh,aE,aF.row,wr,ae,hd,Touch.row,hnl]
 by_cases k5:kind=5
 ·subst k5;simp at hd;simp [hp,hh,aE,aF.row,wr,ae,hd,Touch.row,hnl]
 by_cases k6:kind=6
 ·subst k6;simp at hd;simp [hp,hh,aE,aF.row,wr,ae,hd,Touch.row,hnl]
 have k1':(kind==1)=false:=(by simpa using k1);have k2':(kind==2)=false:=(by simpa using k2);have k4':(kind==4)=false:=(by simpa using k4);have k5':(kind==5)=false:=(by simpa using k5);have k6':(kind==6)=false:=(by simpa using k6);simp [k1,k2,k4,k5,k6]at hd;simp [hp,hh,aE,aF.row,wr,k1',k2',k4',k5',k6',ae,hd,Touch.row,hnl]
theorem Ha {s:az}{w:Nat}{q1 kind bh cell other q3 q4:Int}(hp:w<s.ah.length)(hh:w<s.aq.length)(hH:0<H.length):
  aL KC (aG KC) 88 [.pure (.agg s.row), .pure (.agg [.int .i64 q1, .int .i64 w, .int .i64 kind, .int .i64 1, .int .i64 bh, .int .i64 cell, .int .i64 other, .int .i64 q3, .int .i64 q4])] c H=
    some (.pure (.agg (bX s w ⟨q1,w,kind,1,bh,cell,other,q3,q4⟩).row),H):=by
 refine aM (aW KC au Tryz.func88 rfl rfl I9 rfl rfl rfl (by simp) hH ?_);have hg:s.aq.getD w bH=s.aq[w]:=(by simp [List.getD_eq_getElem?_getD,hh]);have hgp:s.ah.getD w 0=s.ah[w]:=(by simp [List.getD_eq_getElem?_getD,hp]);have eh:bK s w 1=s.aq[w].r:=(by unfold bK;rw [hg];simp);have eo:bK s w (1-1)=s.aq[w].l:=(by unfold bK;rw [hg];simp);have wr:IntKind.i64.wrap (1-1)=0:=rfl;have hnl: ¬H.length≤H.length-1:=(by omega);have hd:=eV s w ⟨q1,w,kind,1,bh,cell,other,q3,q4⟩;simp only [eh,eo,hgp]at hd;simp only [az.row];by_cases k1:kind=1
 ·subst k1;simp at hd;simp [hp,hh,aE,aF.row,wr,ae,hd,Touch.row,hnl]
 by_cases k2:kind=2
 ·subst k2;simp at hd;simp [hp,hh,aE,aF.row,wr,ae,hd,Touch.row,hnl]
 by_cases k4:kind=4
 ·subst k4;simp at hd;simp [hp,hh,aE,aF.row,wr,ae,hd,Touch.row,hnl]
 by_cases k5:kind=5
 ·subst k5;simp at hd;simp [hp,hh,aE,aF.row,wr,ae,hd,Touch.row,hnl]
 by_cases k6:kind=6
 ·subst k6;simp at hd;simp [hp,hh,aE,aF.row,wr,ae,hd,Touch.row,hnl]
 have k1':(kind==1)=false:=(by simpa using k1);have k2':(kind==2)=false:=(by simpa using k2);have k4':(kind==4)=false:=(by simpa using k4);have k5':(kind==5)=false:=(by simpa using k5);have k6':(kind==6)=false:=(by simpa using k6);simp [k1,k2,k4,k5,k6]at hd;simp [hp,hh,aE,aF.row,wr,k1',k2',k4',k5',k6',ae,hd,Touch.row,hnl]
theorem su {s:az}{w:Nat}{a:ak}(hp:w<s.ah.length)(hh:w<s.aq.length)(hw:a.aQ=w)(ha:a.hand=0∨a.hand=1)(hH:0<H.length):
  aL KC (aG KC) 88 [.pure (.agg s.row), .pure (.agg a.row)] c H=some (.pure (.agg (bX s w a).row),H):=by
 obtain⟨q1,aQ,kind,hand,bh,cell,other,q3,q4⟩:=a;simp only at hw ha;subst hw;rcases ha with rfl|rfl
 ·exact G7 hp hh hH
 ·exact Ha hp hh hH
noncomputable def qK:Touch→Touch→Bool:=mI fun a b=>gI a.ah b.ah||(gI a.aa b.aa||gI a.cells b.cells)
theorem yI (a b:Touch):qK a b=(gI a.ah b.ah||(gI a.aa b.aa||gI a.cells b.cells)):=by rw [qK,cO]
theorem FA {a b:Touch}(ha:a.ah.length≤2∧a.aa.length≤2∧a.cells.length≤2)(hb:b.ah.length≤2∧b.aa.length≤2∧b.cells.length≤2)(hH:0<H.length):
  aL KC (aG KC) 87 [.pure (.agg a.row), .pure (.agg b.row)] c H=some (.pure (.bool (qK a b)),H):=by
 refine dp rfl rfl rfl rfl rfl hH fun H hH=> ?_;refine aM (aH KC au Tryz.func87 rfl rfl WL (by simp) hH ?_);have hd:=yI a b;have C:=fun(l m:List Int) (hl:l.length≤2) (hm:m.length≤2) (c:Nat) (H:aj) (hH:0<H.length)=>yH (c:=c) (H:=H) (l:=l) (m:=m) (by omega) (by omega) hH;simp only [Touch.row]
 cases z1:gI a.ah b.ah with
 |true=>
  simp [z1]at hd;simp [C,ha,hb,z1,ae,hd]
 |false=>
  cases z2:gI a.aa b.aa with
  |true=>
   simp [z1,z2]at hd;simp [C,ha,hb,z1,z2,ae,hd]
  |false=>
   simp [z1,z2]at hd;simp [C,ha,hb,z1,z2,ae,hd]
noncomputable def rj:az→Nat→ak→Nat→ak→Bool:=mI fun s w a v b=> !qK (bX s w a) (bX s v b)
theorem wx (s:az)(w:Nat)(a:ak)(v:Nat)(b:ak):rj s w a v b= !qK (bX s w a) (bX s v b):=by rw [rj,cO]
theorem JR {s:az} {w v:Nat} {a b:ak} (hp:w<s.ah.length) (hh:w<s.aq.length) (hw:a.aQ=w) (ha:a.hand=0∨a.hand=1)
  (hp2:v<s.ah.length) (hh2:v<s.aq.length) (hw2:b.aQ=v) (hb:b.hand=0∨b.hand=1) (hH:0<H.length):
  bF KC (aG KC) 53 [.pure (.agg s.row), .pure (.agg a.row), .pure (.agg b.row)] c H=some (.pure (.bool (rj s w a v b)),H):=by
 refine aM (aH KC au Tryz.func53 rfl rfl Wh (by simp) hH ?_);have hd:=wx s w a v b;have T1:=fun c (H:aj) (hH:0<H.length)=>su (c:=c) (H:=H) hp hh hw ha hH;have T2:=fun c (H:aj) (hH:0<H.length)=>su (c:=c) (H:=H) hp2 hh2 hw2 hb hH;have B:=fun c (H:aj) (hH:0<H.length)=>FA (c:=c) (H:=H) (jY s w a) (jY s v b) hH;simp only [az.row,ak.row,Touch.row]at T1 T2 B⊢;simp [T1,T2,B,ae,hd]
end
section
variable {c:Nat} {H:aj}
@[simp] theorem adR (x:Int):(aE x).length=1:=rfl
@[simp] theorem adS (x:aF):x.row.length=2:=rfl
@[simp] theorem adT (x:bm):x.row.length=2:=rfl
theorem X2 {n1 n2 n3:Nm} {v1 v2 v3:Nat} {s:az} (h:mP H n1 n2 n3 v1 v2 v3 s) (p0:s.ah≠[]) (h0:s.aq≠[]) (t0:s.aa≠[]) (pl:s.ah.length≤1000000) (hl:s.aq.length≤1000000) (tl:s.aa.length≤1000000) (hH:0<H.length)
  (hf1:H.get (H.length-1,ao c 6)=none) (hf2:H.get (H.length-1,ao c 10)=none) (hf3:H.get (H.length-1,ao c 14)=none):
  aL KC (aG KC) 50 [kK n1 n2 n3 s] c H=some (kK (H.length-1,ao c 6) (H.length-1,ao c 10) (H.length-1,ao c 14) s,
   cn H (H.length-1,ao c 6) (H.length-1,ao c 10) (H.length-1,ao c 14) 0 0 0 s):=by
 refine aM (br KC au Tryz.func50 rfl rfl I4 rfl rfl rfl (by simp) hH ?_);have l1:=aj.bP h.g1;have l2:=aj.bP h.g2;have l3:=aj.bP h.g3;have d1: ¬n1.1=H.length:=(by omega);have d2: ¬n2.1=H.length:=(by omega);have d3: ¬n3.1=H.length:=(by omega);have b1:s.ah.length*8≤1099511627776:=(by omega);have b2:s.aq.length*16≤1099511627776:=(by omega);have b3:s.aa.length*16≤1099511627776:=(by omega);have jP:ao c 6≠ao c 10:=(by unfold ao;omega);have kL:ao c 6≠ao c 14:=(by unfold ao;omega);have jZ:ao c 10≠ao c 14:=(by unfold ao;omega);have k1:(H.length-1,ao c 10)≠((H.length-1,ao c 6):Nm):=fun e=>jP (Prod.mk.inj e).2.symm;have k2:(H.length-1,ao c 14)≠((H.length-1,ao c 6):Nm):=fun e=>kL (Prod.mk.inj e).2.symm;have k3:(H.length-1,ao c 14)≠((H.length-1,ao c 10):Nm):=fun e=>jZ (Prod.mk.inj e).2.symm;have g2: ∀b,(H.set (H.length-1,ao c 6) b).get (H.length-1,ao c 10)=none:=fun b=>(aj.aK b k1).trans hf2;have g3: ∀b b',((H.set (H.length-1,ao c 6) b).set (H.length-1,ao c 10) b').get (H.length-1,ao c 14)=none:=fun b b'=>(aj.aK b' k3).trans ((aj.aK b k2).trans hf3);have tp:List.take s.ah.length (s.ah.map aE)=s.ah.map aE:=List.take_of_length_le (by simp);have th:List.take s.aq.length (s.aq.map aF.row)=s.aq.map aF.row:=List.take_of_length_le (by simp);have tt:List.take s.aa.length (s.aa.map bm.row)=s.aa.map bm.row:=List.take_of_length_le (by simp);have hn: ¬H.length+1≤H.length:=(by omega);simp only [kK];simp [tp,th,tt,hn,d1,d2,d3,h.g1,h.g2,h.g3,h.e1,h.e2,h.e3,p0,h0,t0,b1,b2,b3];simp [bS,refs,dM,dn,cr,dC,dD,dedup,cL,cd,tD,hf1,g2,g3,vn,jW,im,cn]
end
section
variable {c:Nat} {H:aj}
def sv (l:List Int)(i j:Nat):List Int:=((l++[(i:Int)]).set i ((l++[(i:Int)]).getD j 0)).set j i
theorem Hb (l:List Int)(i j:Nat):(sv l i j).length=l.length+1:=by simp [sv]
noncomputable def jh:Nat→Nat→List Int→Int→List Int×Int
 |0,_,l,wd=>(l,wd)
 |k+1,i,l,wd=>jh k (i+1) (sv l i (lT wd (i+1:Nat)).1.toNat) (lT wd (i+1:Nat)).2
theorem set_perm (l:List Int)(j:Nat)(hj:j<l.length)(x:Int):(l.set j x++[l[j]]).Perm (l++[x]):=by
 have e:l=l.take j++l[j]::l.drop (j+1):=(by rw [←List.drop_eq_getElem_cons hj,List.take_append_drop]);have e2:l.set j x=l.take j++x::l.drop (j+1):=List.set_eq_take_append_cons_drop .. |>.trans (by simp [hj]);rw [e2];conv=>rhs;rw [e]
 simp only [List.append_assoc];refine List.Perm.append_left _ ?_;simp only [List.cons_append];refine(List.Perm.cons x List.perm_append_comm).trans ?_;simp only [List.singleton_append];refine(List.Perm.swap ..).trans ?_;refine List.Perm.cons _ ?_;exact(List.perm_append_comm (l₁:=[x]) (l₂:=l.drop (j+1)))
theorem DG (l:List Int)(i j:Nat)(hl:l.length=i)(hj:j≤i):(sv l i j).Perm (l++[(i:Int)]):=by
 subst hl;unfold sv;by_cases e:j=l.length
 ·subst e;simp
 ·have hj':j<l.length:=(by omega);have h1:(l++[(l.length:Int)]).getD j 0=l[j]:=(by simp [List.getD_eq_getElem?_getD,List.getElem?_append_left hj',hj']);rw [h1];have h2:(l++[(l.length:Int)]).set l.length l[j]=l++[l[j]]:=(by simp);rw [h2];have h3:(l++[l[j]]).set j (l.length:Int)=l.set j l.length++[l[j]]:=(by rw [List.set_append_left _ _ hj']);rw [h3];exact set_perm l j hj' _
theorem uG: ∀(k i:Nat) (l:List Int) (wd:Int),l.Perm ((List.range i).map Int.ofNat)→i+k≤1000000→(jh k i l wd).1.Perm ((List.range (i+k)).map Int.ofNat)
 |0,i,l,wd,h,_=>by simpa [jh]using h
 |k+1,i,l,wd,h,hk=>by
  have hr:=kO wd ((i+1:Nat):Int) (by omega);have hl:l.length=i:=(by simpa using h.length_eq);have e:i+(k+1)=i+1+k:=(by omega);rw [jh,e];refine uG k (i+1) _ _ ((DG l i _ hl (by omega)).trans ?_) (by omega);rw [List.range_succ,List.map_append];exact h.append_right _
def DH (l:List Int):Fr:=[(20, .arr 1 (l.map aE) l.length false)]
theorem DI {nm:Nm}(hlt:nm.1<H.length)(n:Nat)(hn:n≤1000000)(Q:GX→bN→Prop): ∀(k i:Nat) (l:List Int) (wd:Int),i+k=n→l.length=i→0<i→
  Q (.exit 0) ⟨[(5, .aZ (H.length,20) 1 (jh k i l wd).1.length 0 (jh k i l wd).1.length)],DH (jh k i l wd).1::H.set nm (bG (jh k i l wd).2),36⟩→
  fM KC au 83 (lp Tryz.f83 0) [0,1,5,6] [5] Q
   [(0, .aA nm 0),(1, .pure (.int .i64 n)),(5, .aZ (H.length,20) 1 l.length 0 l.length),(6, .pure (.int .i64 i))] (DH l::H.set nm (bG wd)) 36:=by
 have hB: ∀w f0 f1,fZ (f0::f1::H.set nm (bG w)) nm:=fun w f0 f1=>eE (eE (ly hlt));have hne: ¬nm.1=H.length:=(by omega);have hne2: ¬nm.1=H.length+1:=(by omega);have hle:nm.1≤H.length:=(by omega);intro k
 induction k with
 |zero=>
  intro i l wd hi hl h0 hq;have: ¬i<n:=(by omega);apply ax;conv=>arg 4;whnf
  simp [DH,this,aj.length_set];simpa [DH,jh]using hq
 |succ k ih=>
  intro i l wd hi hl h0 hq;have hia:i<n:=(by omega);have hw:=cU (x:=(i:Int)+1) (by omega) (by omega);have hr:=kO wd ((i+1:Nat):Int) (by omega);obtain⟨j,ej⟩: ∃j:Nat,(lT wd ((i+1:Nat):Int)).1=j:=⟨(lT wd ((i+1:Nat):Int)).1.toNat,by omega⟩;have ih':=ih (i+1) (sv l i j) (lT wd ((i+1:Nat):Int)).2 (by omega) (by rw [Hb,hl]) (by omega);rw [jh,ej,Int.toNat_natCast]at hq;have ih'':=ih' hq;have hji:j<l.length+1:=(by omega);have ec:((i+1:Nat):Int)=(i:Int)+1:=(by omega);rw [ec]at ej ih'';have hb:(l.length+1)*8≤1099511627776:=(by omega);have hnb:(i:Int)+1≤9223372036854775807:=(by omega);have hW: ∀w f0 f1,bJ (f0::f1::H.set nm (bG w)) nm=w:=fun w f0 f1=>(by rw [dK (by simp [aj.length_set];omega),dK (by simpa [aj.length_set]using hlt),lx hlt]);subst hl;obtain⟨m,em⟩: ∃m,m=l++[(l.length:Int)]:=⟨_,rfl⟩;have hm:m.length=l.length+1:=(by simp [em]);have ra:List.map aE l++[[PV.int .i64 l.length]]=List.map aE m:=(by simp [em,aE]);have hjm:j<m.length:=(by omega);have him:l.length<m.length:=(by omega);have hjI:(j:Int)<(l.length:Int)+1:=(by omega);have hiI:(l.length:Int)<(l.length:Int)+1:=(by omega);have gi:m[l.length]=(l.length:Int):=(by simp [em]);have sw:sv l l.length j=(m.set l.length m[j]).set j l.length:=by
   unfold sv;rw [←em];simp [List.getD_eq_getElem?_getD,hjm]
  rw [sw]at ih'';have hgj:((List.map aE m).set l.length [PV.int .i64 m[j]])[j]'(by simpa using hjm)=[PV.int .i64 m[j]]:=by rw [List.getElem_set];split<;>simp [aE]
  apply ax;conv=>arg 4;whnf
  simp [DH,hia,hw,aj.length_set,kJ,hB,hW,hnb,hlt,hne,hne2,aj.dR,ej,hb,hji,hjI,hiI,hle,ra,hm,aE,aI,gi,hgj];simpa [DH,aE,hm]using ih''
noncomputable def tR:Nat→Int→List Int×Int:=mI fun n wd=>jh n 0 [] wd
theorem wy (n:Nat)(wd:Int):tR n wd=jh n 0 [] wd:=by rw [tR,cO]
theorem BO {n:Nat}(wd:Int)(hn:n≤1000000):(tR n wd).1.Perm ((List.range n).map Int.ofNat):=by
 rw [wy];simpa using uG n 0 [] wd (by simp) (by omega)
theorem JS {nm:Nm}(hB:fZ H nm){n:Nat}(h0:0<n)(hn:n≤1000000):
  aL KC (aG KC) 83 [.aA nm 0, .pure (.int .i64 n)] c H=some (.pure (.slice ((tR n (bJ H nm)).1.map aE)),H.set nm (bG (tR n (bJ H nm)).2)):=by
 have hlt:=gP hB;have hset:=jU hB;have hne: ¬nm.1=H.length:=(by omega);have hne2: ¬nm.1=H.length+1:=(by omega);have hle:nm.1≤H.length:=(by omega);have hB2: ∀f0 f1,fZ (f0::f1::H) nm:=fun f0 f1=>eE (eE hB);have hW: ∀f0 f1,bJ (f0::f1::H) nm=bJ H nm:=fun f0 f1=>(by rw [dK (by simp;omega),dK hlt]);have hnl: ¬H.length≤H.length-1:=(by omega);refine aM (aW KC au Tryz.func83 rfl rfl WI rfl rfl rfl (by simp) (by omega) ?_);obtain⟨k,rfl⟩: ∃k,n=k+1:=⟨n-1,by omega⟩;have hr:=kO (bJ H nm) 1 (by omega);have ej:(lT (bJ H nm) 1).1=0:=(by omega);have L:=fun Q=>DI (H:=H) hlt (k+1) hn Q k 1 [0] (lT (bJ H nm) 1).2 (by omega) rfl (by omega);have hd:=wy (k+1) (bJ H nm);have e1:jh (k+1) 0 [] (bJ H nm)=jh k 1 [0] (lT (bJ H nm) 1).2:=by
  rw [jh];simp [ej,sv]
 rw [e1]at hd;have hk:(0:Int)<(k:Int)+1:=(by omega);simp [DH]at L;simp;apply ax;conv=>arg 4;whnf
 simp [hk,aj.length_set,kJ,hB2,hW,hlt,hne,hne2,aj.dR,ej,hle,aE,aI];simp [aE]at L;refine L _ ?_;have tk: ∀l:List Int,List.take l.length (List.map aE l)=List.map aE l:=fun l=>List.take_of_length_le (by simp);simp [ae,hd,aj.length_set,hnl,tk]
end
section
variable {c:Nat} {H:aj}
theorem DJ {nm:Nm}(hlt:nm.1<H.length)(w:Int)(f0 f1:Fr):fZ (f0::f1::H.set nm (bG w)) nm:=eE (eE (ly hlt))
theorem adU {nm:Nm}(hlt:nm.1<H.length)(w:Int)(f1:Fr):fZ (f1::H.set nm (bG w)) nm:=eE (ly hlt)
theorem wz {nm:Nm}(hlt:nm.1<H.length)(w:Int)(f0 f1:Fr):bJ (f0::f1::H.set nm (bG w)) nm=w:=by
 rw [dK (by simp [aj.length_set];omega),dK (by simpa [aj.length_set]using hlt),lx hlt]
theorem TX {nm:Nm}(hlt:nm.1<H.length)(w:Int)(f1:Fr):bJ (f1::H.set nm (bG w)) nm=w:=by
 rw [dK (by simpa [aj.length_set]using hlt),lx hlt]
def lG:dF:= .box [.pure (.int .i64 0), .pure (.int .i64 0), .aR, .aR, .aR, .aR, .aR]
def X3 (w d:Int)(L:Nat)(p:List aS):Fr:=
 [(4,lG),(5, .box [.pure (.int .i64 w), .pure (.int .i64 d), .aZ (L,46) 2 p.length 0 p.length, .aR, .aR, .aR, .aR]),(46, .arr 2 (p.map aS.row) 0 false)]
theorem DK {nm:Nm}(hlt:nm.1<H.length)(w d:Int)(cells:List Int)(hcl:cells.length≤1000000)(Q:GX→bN→Prop): ∀(k:Nat) (p:List aS) (wd:Int),p.length+k≤cells.length→0<p.length→p.map aS.cell=cells.take p.length→(∀x∈p,1≤x.role∧x.role≤3)→
  (∀(p':List aS) (wd':Int),p'.length=p.length+k→p'.map aS.cell=cells.take p'.length→(∀x∈p',1≤x.role∧x.role≤3)→
   Q (.exit 0) ⟨[(0, .aA nm 0),(4, .aA (H.length,4) 0),(5, .aA (H.length,5) 0)],X3 w d H.length p'::H.set nm (bG wd'),99⟩)→
  fM KC au 47 (lp Tryz.f47 0) [0,4,5,6,7] [0,4,5] Q
   [(0, .aA nm 0),(4, .aA (H.length,4) 0),(5, .aA (H.length,5) 0),(6, .pure (.slice (cells.map aE))),(7, .pure (.int .i64 k))] (X3 w d H.length p::H.set nm (bG wd)) 99:=by
 have hne: ¬nm.1=H.length:=(by omega);have hne2: ¬nm.1=H.length+1:=(by omega);have hle:nm.1≤H.length:=(by omega);have hB:=fun w f0 f1=>DJ hlt w f0 f1;have hW:=fun w f0 f1=>wz hlt w f0 f1;intro k
 induction k with
 |zero=>
  intro p wd hi h0 hpc hpr hq;have hq':=hq p wd (by omega) hpc hpr;apply ax;conv=>arg 4;whnf
  simp [X3,aj.length_set,hle];simpa [X3]using hq'
 |succ k ih=>
  intro p wd hi h0 hpc hpr hq;have hw:=cU (x:=((k:Int)+1)-1) (by omega) (by omega);have hk:(0:Int)<(k:Int)+1:=(by omega);have hia:p.length<cells.length:=(by omega);have hr:=Bk wd 1 3 (by omega) (by omega) (by omega);have hb:(p.length+1)*16≤1099511627776:=(by omega);have es:(k:Int)+1-1=k:=(by omega);rw [es]at hw
  have ih':=ih (p++[⟨(vU wd 1 3).1,cells[p.length]⟩]) (vU wd 1 3).2 (by simp;omega) (by simp) (by
   simp only [List.map_append,List.map_cons,List.map_nil,hpc,List.length_append,List.length_singleton];exact List.take_append_getElem hia) (by
   intro x hx;rcases List.mem_append.1 hx with hx|hx
   ·exact hpr x hx
   ·simp at hx;subst hx;exact hr) (fun p' wd' h1 h2 h3=>hq p' wd' (by rw [h1];simp;omega) h2 h3)
  apply ax;conv=>arg 4;whnf
  simp [X3,hk,es,hw,aj.length_set,tB,hB,hW,hlt,hne,hne2,aj.dR,hle,aE,hia,hb];simpa [X3,aS.row]using ih'
end
section
variable {c:Nat} {H:aj}
theorem qh (w n:Int)(h:n≤9223372036854775807)(h1:1≤n): ∃(i:Nat) (w':Int),lT w n=((i:Int),w')∧(i:Int)<n:=by
 have:=kO w n h;refine⟨(lT w n).1.toNat,(lT w n).2, ?_, ?_⟩
 ·rw [Int.toNat_of_nonneg this.1]
 ·omega
theorem mQ (w:Int)(hi:Int)(h:hi≤1000000)(h1:1≤hi): ∃(i:Nat) (w':Int),vU w 1 hi=((i:Int),w')∧1≤i∧(i:Int)≤hi:=by
 have:=Bk w 1 hi (by omega) (by omega) (by omega);refine⟨(vU w 1 hi).1.toNat,(vU w 1 hi).2, ?_, ?_, ?_⟩
 ·rw [Int.toNat_of_nonneg (by omega)]
 ·omega
 ·omega
def Pr (w d:Int)(L:Nat)(p:List aS)(ts:List aY):Fr:=
 [(4,lG),(5, .box [.pure (.int .i64 w), .pure (.int .i64 d), .aZ (L,46) 2 p.length 0 p.length,cH (L,83) 5 (ts.map aY.row), .aR, .aR, .aR]),(46, .arr 2 (p.map aS.row) 0 false)]
def ThB (w d:Int)(t:aY):Prop:=0≤t.cell∧t.cell<w*d∧0≤t.state∧t.state<16∧t.home=0∧t.want=0
theorem DL {nm:Nm}(hlt:nm.1<H.length)(w d:Int)(hwd:IntKind.i64.wrap (w*d)=w*d)(hwd1:0<w*d)(hwd2:w*d≤1000000)(p:List aS)(hp:p≠[])(hpl:p.length≤1000000)(hpc: ∀x∈p,0≤x.cell∧x.cell<w*d)(Q:GX→bN→Prop): ∀(k:Nat) (ts:List aY) (wd:Int),ts.length+k≤1000000→(∀t∈ts,ThB w d t)→
  (∀(ts':List aY) (wd':Int),ts'.length=ts.length+k→(∀t∈ts',ThB w d t)→
   Q (.exit 2) ⟨[(0, .aA nm 0),(4, .aA (H.length,4) 0),(5, .aA (H.length,5) 0)],eG 83 5 (ts'.map aY.row) (Pr w d H.length p ts')::H.set nm (bG wd'),99⟩)→
  fM KC au 47 (lp Tryz.f47 1) [0,4,5,8] [0,4,5] Q
   [(0, .aA nm 0),(4, .aA (H.length,4) 0),(5, .aA (H.length,5) 0),(8, .pure (.int .i64 k))] (eG 83 5 (ts.map aY.row) (Pr w d H.length p ts)::H.set nm (bG wd)) 99:=by
 have hne: ¬nm.1=H.length:=(by omega);have hne2: ¬nm.1=H.length+1:=(by omega);have hle:nm.1≤H.length:=(by omega);have hB:=fun w f0 f1=>DJ hlt w f0 f1;have hW:=fun w f0 f1=>wz hlt w f0 f1;have lp0:0<p.length:=List.length_pos_iff.2 hp;have hplI:(p.length:Int)≤9223372036854775807:=(by omega);have hwdI:w*d≤9223372036854775807:=(by omega);intro k
 induction k with
 |zero=>
  intro ts wd hi hts hq;have hq':=hq ts wd (by omega) hts;apply ax;conv=>arg 4;whnf
  simp [Pr,aj.length_set,hle];simpa [Pr]using hq'
 |succ k ih=>
  intro ts wd hi hts hq;have hw:=cU (x:=((k:Int)+1)-1) (by omega) (by omega);have hk:(0:Int)<(k:Int)+1:=(by omega);have hb:(ts.length+1)*40≤1099511627776:=(by omega);have es:(k:Int)+1-1=k:=(by omega);rw [es]at hw;obtain⟨i,w1,e1,hi1I⟩:=qh wd p.length hplI (by omega);have hi1:i<p.length:=(by omega);obtain⟨st,w2,e2,hst⟩:=qh w1 16 (by omega) (by omega);obtain⟨cl,w3,e3⟩: ∃(cl:Bool) (w3:Int),zG w2 3=(cl,w3):=⟨_,_,rfl⟩;obtain⟨mv,w4,e4⟩: ∃(mv:Bool) (w4:Int),zG w3 5=(mv,w4):=⟨_,_,rfl⟩;have hin: ¬(i:Int)<0:=by omega
  have ih':=fun(t:aY) (w':Int) (ht:ThB w d t)=>ih (ts++[t]) w' (by simp;omega) (by
   intro x hx;rcases List.mem_append.1 hx with hx|hx
   ·exact hts x hx
   ·simp at hx;subst hx;exact ht) (fun p' wd' h1 h2=>hq p' wd' (by rw [h1];simp;omega) h2)
  have hcell:=hpc p[i] (List.getElem_mem hi1);apply ax;conv=>arg 4;whnf
  cases mv with
  |false=>
   have ih2:=ih' ⟨p[i].cell,st,0,0,cl⟩ w4 ⟨hcell.1,hcell.2,Int.natCast_nonneg st,hst,rfl,rfl⟩;simp [Pr,aY.row]at ih2;simp [Pr,hk,es,hw,aj.length_set,kJ,nA,hB,hW,hplI,hlt,hne,hne2,aj.dR,hle,aE,hb,e1,e2,e3,e4,hi1,hi1I,hin,aS.row];exact ih2
  |true=>
   obtain⟨cc,w5,e5,hcc⟩:=qh w4 (w*d) hwdI (by omega);have ih2:=ih' ⟨cc,st,0,0,cl⟩ w5 ⟨Int.natCast_nonneg cc,hcc,Int.natCast_nonneg st,hst,rfl,rfl⟩;simp [Pr,aY.row]at ih2;simp [Pr,hk,es,hw,aj.length_set,kJ,nA,hB,hW,hplI,hlt,hne,hne2,aj.dR,hle,aE,hb,e1,e2,e3,e4,e5,hwd,hwdI,hi1,hi1I,hin,aS.row];exact ih2
def Ps (w d:Int)(L:Nat)(p:List aS)(ts:List aY)(ls:List Int):Fr:=
 [(4,lG),(5, .box [.pure (.int .i64 w), .pure (.int .i64 d), .aZ (L,46) 2 p.length 0 p.length, .aZ (L,83) 5 ts.length 0 ts.length, .aR,cH (L,96) 1 (ls.map aE), .aR]),(46, .arr 2 (p.map aS.row) 0 false),(83, .arr 5 (ts.map aY.row) 0 false)]
theorem DM {nm:Nm}(hlt:nm.1<H.length)(w d:Int)(p:List aS)(ts:List aY)(Q:GX→bN→Prop): ∀(k i:Nat) (ls:List Int) (wd:Int),i+k=4→1≤i→ls.length<i→ls.Pairwise (· < ·)→(∀x∈ls,1≤x∧x<i)→
  (∀(ls':List Int) (wd':Int),ls'.length≤3→ls'.Pairwise (· < ·)→(∀x∈ls',1≤x∧x<4)→
   Q (.exit 4) ⟨[(4, .aA (H.length,4) 0),(5, .aA (H.length,5) 0)],eG 96 1 (ls'.map aE) (Ps w d H.length p ts ls')::H.set nm (bG wd'),99⟩)→
  fM KC au 47 (lp Tryz.f47 2) [0,4,5,10] [4,5] Q
   [(0, .aA nm 0),(4, .aA (H.length,4) 0),(5, .aA (H.length,5) 0),(10, .pure (.int .i64 i))] (eG 96 1 (ls.map aE) (Ps w d H.length p ts ls)::H.set nm (bG wd)) 99:=by
 have hne: ¬nm.1=H.length:=(by omega);have hne2: ¬nm.1=H.length+1:=(by omega);have hle:nm.1≤H.length:=(by omega);have hB:=fun w f0 f1=>DJ hlt w f0 f1;have hW:=fun w f0 f1=>wz hlt w f0 f1;intro k
 induction k with
 |zero=>
  intro i ls wd hi h1 hl hps hb hq;have hq':=hq ls wd (by omega) hps (fun x hx=>⟨(hb x hx).1,by have:=(hb x hx).2;omega⟩);have: ¬(i:Int)≤3:=(by omega);apply ax;conv=>arg 4;whnf
  simp [Ps,aj.length_set,this];simpa [Ps]using hq'
 |succ k ih=>
  intro i ls wd hi h1 hl hps hb hq;have hw:=cU (x:=(i:Int)+1) (by omega) (by omega);have hk:(i:Int)≤3:=(by omega);have hbb:(ls.length+1)*8≤1099511627776:=(by omega);obtain⟨on,w1,e1⟩: ∃(on:Bool) (w1:Int),zG wd 3=(on,w1):=⟨_,_,rfl⟩;apply ax;conv=>arg 4;whnf
  cases on with
  |true=>
   have ih2:=ih (i+1) ls w1 (by omega) (by omega) (by omega) hps (fun x hx=>⟨(hb x hx).1,by have:=(hb x hx).2;omega⟩) hq;simp [Ps]at ih2;simp [Ps,hk,hw,aj.length_set,nA,hB,hW,hlt,hne,hne2,aj.dR,hle,e1];exact ih2
  |false=>
   have ih2:=ih (i+1) (ls++[(i:Int)]) w1 (by omega) (by omega) (by simp;omega) (List.pairwise_append.2 ⟨hps,by simp,fun a ha b hb'=>by simp at hb';subst hb';exact(hb a ha).2⟩)
    (fun x hx=>by
     rcases List.mem_append.1 hx with hx|hx
     ·exact⟨(hb x hx).1,by have:=(hb x hx).2;omega⟩
     ·simp at hx;subst hx;constructor<;>omega) hq
   simp [Ps,aE]at ih2;simp [Ps,hk,hw,aj.length_set,nA,hB,hW,hlt,hne,hne2,aj.dR,hle,e1,aE,hbb];exact ih2
structure wB (r:aC):Prop where
 w1:1≤r.wide
 w3:r.wide≤3
 d1:1≤r.deep
 d3:r.deep≤3
 p0:r.ah≠[]
 p3:r.ah.length≤3
 pn:(r.ah.map aS.cell).Nodup
 pc: ∀x∈r.ah,(1≤x.role∧x.role≤3)∧0≤x.cell∧x.cell<r.wide*r.deep
 t0:r.aa≠[]
 t4:r.aa.length≤4
 tc: ∀t∈r.aa,ThB r.wide r.deep t
 seen:r.seen=[]
 lp:r.aP.Pairwise (· < ·)
 lr: ∀x∈r.aP,1≤x∧x<4
 ll:r.aP.length≤3
 ai:r.ai=[]
def wC (n2 n3 n5:Nm)(r:aC):GV:= .agg [.pure (.int .i64 r.wide), .pure (.int .i64 r.deep), .aZ n2 2 r.ah.length 0 r.ah.length, .aZ n3 5 r.aa.length 0 r.aa.length, .aR,cH n5 1 (r.aP.map aE), .aR]
def gT (H:aj)(nm:Nm)(es:Nat)(rows:List (List PV)):aj:=if rows=[]then H else H.set nm (.arr es rows 0 false)
theorem Hc {nm : Nm} (hB0 : fZ H nm) {sd : Nat} (hsd : 1 ≤ sd ∧ sd ≤ 3)
    (hf1 : H.get (H.length - 1, ao c 46) = none) (hf2 : H.get (H.length - 1, ao c 83) = none) (hf3 : H.get (H.length - 1, ao c 96) = none) (hnk : ∀ k, nm ≠ (H.length - 1, ao c k)) :
    ∃ r wd, wB r ∧ aL KC (aG KC) 47 [.aA nm 0, .pure (.int .i64 sd)] c H = some (wC (H.length - 1, ao c 46) (H.length - 1, ao c 83) (H.length - 1, ao c 96) r,
      gT (((H.set nm (bG wd)).set (H.length - 1, ao c 46) (.arr 2 (r.ah.map aS.row) 0 false)).set (H.length - 1, ao c 83) (.arr 5 (r.aa.map aY.row) 0 false)) (H.length - 1, ao c 96) 1 (r.aP.map aE)) := by
  have hlt := gP hB0
  have hset := jU hB0
  have hne : ¬ nm.1 = H.length := by omega
  have hne2 : ¬ nm.1 = H.length + 1 := by omega
  have hle : nm.1 ≤ H.length := by omega
  suffices hs : kW (aL KC (aG KC) 47 [.aA nm 0, .pure (.int .i64 sd)] c H) (fun x => ∃ r wd, wB r ∧ x = (wC (H.length - 1, ao c 46) (H.length - 1, ao c 83) (H.length - 1, ao c 96) r,
      gT (((H.set nm (bG wd)).set (H.length - 1, ao c 46) (.arr 2 (r.ah.map aS.row) 0 false)).set (H.length - 1, ao c 83) (.arr 5 (r.aa.map aY.row) 0 false)) (H.length - 1, ao c 96) 1 (r.aP.map aE))) by
    obtain ⟨x, hx, r, wd, h1, h2⟩ := hs
    exact ⟨r, wd, h1, by rw [hx, h2]⟩
  refine aW KC au Tryz.func47 rfl rfl We rfl rfl rfl (by simp) (by omega) ?_
  obtain ⟨w0, hw0⟩ : ∃ w0, bJ H nm = w0 := ⟨_, rfl⟩
  rw [hw0] at hset
  have hB' : ∀ f, fZ (f :: H) nm := fun f => eE hB0
  have hW' : ∀ f, bJ (f :: H) nm = w0 := fun f => (dK hlt).trans hw0
  have hB1 := fun w f => adU hlt w f
  have hW1 := fun w f => TX hlt w f
  have hB2 := fun w f0 f1 => DJ hlt w f0 f1
  have hW2 := fun w f0 f1 => wz hlt w f0 f1
  obtain ⟨wi, w1, e1, hwi1, hwi3⟩ := mQ w0 sd (by omega) (by omega)
  obtain ⟨de, w2, e2, hde1, hde3⟩ := mQ w1 sd (by omega) (by omega)
  obtain ⟨N, hN⟩ : ∃ N, N = wi * de := ⟨_, rfl⟩
  have hN9 : N ≤ 3 * 3 := by rw [hN]; exact Nat.mul_le_mul (by omega) (by omega)
  have hN0 : 0 < N := by rw [hN]; exact Nat.mul_pos hwi1 hde1
  have hNI : (wi : Int) * (de : Int) = (N : Int) := by rw [hN]; simp
  have hwN : IntKind.i64.wrap ((wi : Int) * (de : Int)) = (N : Int) := by rw [hNI]; exact cU (by omega) (by omega)
  obtain ⟨cells, w3, e3⟩ : ∃ cells w3, tR N w2 = (cells, w3) := ⟨_, _, rfl⟩
  have hpm : cells.Perm ((List.range N).map Int.ofNat) := by have := BO (n := N) w2 (by omega); rwa [e3] at this
  have hcl : cells.length = N := by simpa using hpm.length_eq
  have hcn : cells.Nodup := hpm.nodup_iff.2 (List.Pairwise.map Int.ofNat (fun a b h e => h (Int.ofNat.inj e)) List.nodup_range)
  have hcr : ∀ x ∈ cells, 0 ≤ x ∧ x < N := fun x hx => by
    have := hpm.mem_iff.1 hx
    simp only [List.mem_map, List.mem_range] at this
    obtain ⟨a, h1, h2⟩ := this
    subst h2; constructor
    · exact Int.natCast_nonneg a
    · exact Int.ofNat_lt.2 h1
  obtain ⟨mn, hmn⟩ : ∃ mn : Nat, mn = min 3 N := ⟨_, rfl⟩
  have hmI : (if (N : Int) < 3 then (N : Int) else 3) = (mn : Int) := by split <;> omega
  obtain ⟨np, w4, e4, hnp1, hnp2⟩ := mQ w3 mn (by omega) (by omega)
  obtain ⟨m, rfl⟩ : ∃ m, np = m + 1 := ⟨np - 1, by omega⟩
  obtain ⟨ro, w5, e5, hro1, hro3⟩ := mQ w4 3 (by omega) (by omega)
  have c0 : 0 < cells.length := by omega
  have hNm : N ≤ 1000000 := by omega
  have gc : cells[0]? = some cells[0] := List.getElem?_eq_getElem c0
  simp
  simp [aj.length_set, tB, JS, hB', hW', hB1, hW1, hB2, hW2, hlt, hne, hne2, aj.dR, hle, e1, e2, hwN, hN0, hNm, e3, hcl, hmI, e4]
  have hes : ((m : Int) + 1) - 1 = m := by omega
  have hwm := cU (x := (m : Int)) (by omega) (by omega)
  have hm0 : (0 : Int) < (m : Int) + 1 := by omega
  have hN1 : (0 : Int) < (N : Int) := by omega
  have L1 := fun Q => DK (H := H) hlt wi de cells (by omega) Q m [⟨ro, cells[0]⟩] w5 (by simp; omega) (by simp) (by simp [List.take_one, List.head?_eq_getElem?, c0]) (by simp; omega)
  simp [X3, lG, aS.row] at L1
  apply ax
  conv => arg 4; whnf
  simp [hm0, hes, hwm, aj.length_set, tB, hB2, hW2, hlt, hne, hne2, aj.dR, hle, e5, hN1, hcl, aE, gc]
  refine L1 _ fun p wd1 hp1 hp2 hp3 => ?_
  clear L1
  have hp0 : p ≠ [] := by intro h; subst h; simp at hp1; omega
  have hpl : p.length ≤ 3 := by omega
  have hpc : ∀ x ∈ p, 0 ≤ x.cell ∧ x.cell < (wi : Int) * de := fun x hx => by
    have h1 : x.cell ∈ p.map aS.cell := List.mem_map_of_mem hx
    rw [hp2] at h1
    have := hcr _ (List.mem_of_mem_take h1)
    rw [hNI]; exact this
  obtain ⟨nt, w6, e6, hnt1, hnt4⟩ := mQ wd1 4 (by omega) (by omega)
  have L2 := fun Q => DL (H := H) hlt wi de (by rw [hwN, hNI]) (by rw [hNI]; omega) (by rw [hNI]; omega) p hp0 (by omega) hpc Q nt [] w6 (by simp; omega) (by simp)
  simp [Pr, lG, ff, ja] at L2
  simp [aj.length_set, tB, hB1, hW1, hlt, hne, hne2, aj.dR, hle, e6]
  refine L2 _ fun ts wd2 ht1 ht2 => ?_
  clear L2
  have ht0 : ts ≠ [] := by intro h; subst h; simp at ht1; omega
  have L3 := fun Q => DM (H := H) hlt wi de p ts Q 3 1 [] wd2 (by omega) (by omega) (by simp) .nil (by simp)
  simp [Ps, lG, ff, ja] at L3
  simp [cH, eG, ht0]
  refine L3 _ fun ls wd3 hl1 hl2 hl3 => ?_
  clear L3
  have hRB : wB ⟨wi, de, p, ts, [], ls, []⟩ :=
    { w1 := by show (1 : Int) ≤ wi; omega, w3 := by show (wi : Int) ≤ 3; omega, d1 := by show (1 : Int) ≤ de; omega, d3 := by show (de : Int) ≤ 3; omega, p0 := hp0, p3 := hpl, pn := by
        show (p.map aS.cell).Nodup
        rw [hp2]; exact hcn.sublist (List.take_sublist ..), pc := fun x hx => ⟨hp3 x hx, hpc x hx⟩, t0 := ht0, t4 := by show ts.length ≤ 4; omega, tc := ht2, seen := rfl, lp := hl2, lr := hl3, ll := hl1, ai := rfl }
  have jP : ao c 46 ≠ ao c 83 := by unfold ao; omega
  have kL : ao c 46 ≠ ao c 96 := by unfold ao; omega
  have jZ : ao c 83 ≠ ao c 96 := by unfold ao; omega
  have k1 : (H.length - 1, ao c 83) ≠ ((H.length - 1, ao c 46) : Nm) := fun e => jP (Prod.mk.inj e).2.symm
  have k2 : (H.length - 1, ao c 96) ≠ ((H.length - 1, ao c 46) : Nm) := fun e => kL (Prod.mk.inj e).2.symm
  have k3 : (H.length - 1, ao c 96) ≠ ((H.length - 1, ao c 83) : Nm) := fun e => jZ (Prod.mk.inj e).2.symm
  have g1 : (H.set nm (bG wd3)).get (H.length - 1, ao c 46) = none := (aj.aK _ (hnk _).symm).trans hf1
  have g2 : ∀ b, ((H.set nm (bG wd3)).set (H.length - 1, ao c 46) b).get (H.length - 1, ao c 83) = none := fun b => (aj.aK b k1).trans ((aj.aK _ (hnk _).symm).trans hf2)
  have g3 : ∀ b b', (((H.set nm (bG wd3)).set (H.length - 1, ao c 46) b).set (H.length - 1, ao c 83) b').get (H.length - 1, ao c 96) = none := fun b b' => (aj.aK b' k3).trans ((aj.aK b k2).trans ((aj.aK _ (hnk _).symm).trans hf3))
  simp
  suffices hs : ∀ x, gn KC 47 c (GV.agg
        [GV.pure (PV.int IntKind.i64 ↑wi), GV.pure (PV.int IntKind.i64 ↑de),
          GV.aZ (List.length H, 46) 2 p.length 0 p.length, GV.aZ (List.length H, 83) 5 ts.length 0 ts.length, GV.aR,
          cH (List.length H, 96) 1 (List.map aE ls), GV.aR])
      (eG 96 1 (List.map aE ls)
          [(4, x), (5, x),
            (46, dF.arr 2 (List.map aS.row p) 0 false), (83, dF.arr 5 (List.map aY.row ts) 0 false)] ::
        H.set nm (bG wd3)) = some (wC (List.length H - 1, ao c 46) (List.length H - 1, ao c 83) (List.length H - 1, ao c 96) ⟨wi, de, p, ts, [], ls, []⟩,
              gT
                (((H.set nm (bG wd3)).set (List.length H - 1, ao c 46)
                      (dF.arr 2 (List.map aS.row p) 0 false)).set
                  (List.length H - 1, ao c 83) (dF.arr 5 (List.map aY.row ts) 0 false))
                (List.length H - 1, ao c 96) 1 (List.map aE ls)) by
    rw [hs]
    rw [gS]
    exact ⟨_, hRB, _, rfl⟩
  intro x
  by_cases hls : ls = []
  · subst hls
    simp [ff, ja, bS, refs, dM, dn, cr, dC, dD, dedup, cL, cd, tD, g1, g2, g3, vn, jW, im, wC, gT, aj.length_set, aS.row, aY.row]
  · simp [cH, eG, hls, bS, refs, dM, dn, cr, dC, dD, dedup, cL, cd, tD, g1, g2, g3, vn, jW, im, wC, gT, aj.length_set, aS.row, aY.row]
end
section
variable {c:Nat} {H:aj}
def FC (H:aj):GV→PV→Prop
 | .pure p,q=>p=q
 | .aR,q=>q= .slice []
 | .aZ nm es top lo len,q=> ∃rows v ro,H.get nm=some (.arr es rows v ro)∧v≤top∧rows.length=top∧lo=0∧len=top∧q= .slice rows
 |_,_=>False
def C9 (H:aj):List GV→List PV→Prop
 | [],[]=>True
 |g::l,q::m=>FC H g q∧C9 H l m
 |_,_=>False
def mC (H:aj):GV→PV→Prop
 | .agg l, .agg m=>C9 H l m
 | .pure p,q=>p=q
 |_,_=>False
@[simp] theorem mR {p q:PV}:FC H (.pure p) q=(p=q):= .trans rfl rfl
@[simp] theorem adV {q:PV}:FC H .aR q=(q= .slice []):= .trans rfl rfl
@[simp] theorem qi:C9 H [] []=True:= .trans rfl rfl
@[simp] theorem mT {g:GV}{q:PV}{l:List GV}{m:List PV}:C9 H (g::l) (q::m)=(FC H g q∧C9 H l m):= .trans rfl rfl
@[simp] theorem qj {l:List GV}{m:List PV}:mC H (.agg l) (.agg m)=C9 H l m:= .trans rfl rfl
def jr (H1 H2:aj):Prop:= ∀nm es rows v ro,H1.get nm=some (.arr es rows v ro)→ ∃ro',H2.get nm=some (.arr es rows v ro')
theorem jr.refl (H:aj):jr H H:=fun _ _ _ _ ro h=>⟨ro,h⟩
theorem jr.trans {A B C:aj}(h1:jr A B)(h2:jr B C):jr A C:=fun nm es rows v ro h=>by
 obtain⟨r1,a⟩:=h1 nm es rows v ro h;exact h2 nm es rows v r1 a
theorem FD {H1 H2:aj}(h:jr H1 H2): ∀{g:GV} {q:PV},FC H1 g q→FC H2 g q:=by
 intro g q hg
 cases g with
 |aZ nm es top lo len=>
  obtain⟨rows,v,ro,a,b,d⟩:=hg;obtain⟨ro',e⟩:=h _ _ _ _ _ a;exact⟨rows,v,ro',e,b,d⟩
 |pure p=>exact hg
 |aR=>exact hg
 |_=>exact hg.elim
theorem sx {H1 H2:aj}(h:jr H1 H2): ∀{l:List GV} {m:List PV},C9 H1 l m→C9 H2 l m
 | [],[],_=>trivial
 |g::l,q::m,hl=>⟨FD h hl.1,sx h hl.2⟩
 | [],_::_,hl=>hl.elim
 |_::_,[],hl=>hl.elim
theorem nO {H1 H2:aj}(h:jr H1 H2){g:GV}{q:PV}(hg:mC H1 g q):mC H2 g q:=by
 cases g with
 |agg l=>
  cases q with
  |agg m=>exact sx h hg
  |_=>exact hg.elim
 |pure p=>exact hg
 |_=>cases q<;>exact hg.elim
theorem rm {g:GV}{q:PV}(h:FC H g q):cJ (dH H g).1= .pure q∧jr H (dH H g).2:=by
 cases g with
 |aZ nm es top lo len=>
  obtain⟨rows,v,ro,h1,h2,h3,rfl,rfl,rfl⟩:=h;subst h3;have e:dI H (.aZ nm es rows.length 0 rows.length)=(.slice rows,H.set nm (.arr es rows v true)):=(by simp [h1,h2]);simp only [dH,e];refine⟨rfl,fun nm' es' rows' v' ro' hg=> ?_⟩;by_cases hn:nm'=nm
  ·subst hn;rw [h1]at hg;cases hg;exact⟨true,aj.eF _ (aj.bP h1)⟩
  ·exact⟨ro',(aj.aK _ hn).trans hg⟩
 |pure p=>cases h;exact⟨rfl,jr.refl _⟩
 |aR=>cases h;exact⟨rfl,jr.refl _⟩
 |_=>exact h.elim
theorem uH: ∀{l:List GV} {m:List PV} {H:aj},C9 H l m→(fO H l).1.map cJ=m.map .pure∧jr H (fO H l).2
 | [],[],H,_=>⟨rfl,jr.refl _⟩
 |g::l,q::m,H,h=>by
  obtain⟨a,b⟩:=rm h.1;obtain⟨d,e⟩:=uH (sx b h.2);simp only [fO,List.map_cons,a,d];exact⟨trivial,b.trans e⟩
 | [],_::_,_,hl=>hl.elim
 |_::_,[],_,hl=>hl.elim
theorem nP: ∀{l:List GV} {ps:List PV},bC l=some ps→l=ps.map .pure
 | [],ps,h=>by cases h;rfl
 |g::l,ps,h=>by
  cases g with
  |pure p=>
   rw [zN]at h
   cases hl:bC l with
   |none=>rw [hl]at h;cases h
   |some qs=>rw [hl]at h;cases h;rw [nP hl];rfl
  |_=>simp [bC]at h
theorem pk {l:List GV}{m:List PV}(h:l.map cJ=m.map .pure):canon (dm l)= .pure (.agg m):=by
 rw [tJ]
 cases hl:bC l with
 |some ps=>
  have e:=nP hl;subst e;have:ps=m:=by
   have h':ps.map GV.pure=m.map .pure:=(by simpa [cJ,Function.comp_def]using h);exact(List.map_inj_right (fun a b e=>by cases e;rfl)).1 h'
  rw [this];rfl
 |none=>
  show canon (.agg l)=_
  rw [GM,h];simp
theorem nQ {g:GV}{q:PV}(h:mC H g q):canon (dr H g).1= .pure q∧jr H (dr H g).2:=by
 cases g with
 |agg l=>
  cases q with
  |agg m=>
   obtain⟨a,b⟩:=uH (H:=H) (l:=l) (m:=m) h;exact⟨pk a,b⟩
  |_=>exact h.elim
 |pure p=>cases h;exact⟨rfl,jr.refl _⟩
 |_=>cases q<;>exact h.elim
theorem Pt {g:GV}{q:PV}(h:mC H g q):(bu H [g]).1.map canon=[.pure q]:=by
 simp only [bu,List.map_cons,List.map_nil,(nQ h).1]
theorem iH {g:GV}{r:List GV}:(bu H (g::r)).1.map canon=canon (dr H g).1::(bu (dr H g).2 r).1.map canon:=rfl
theorem adW {a b d:GV}{p q r:PV}(h1:mC H a p)(h2:mC H b q)(h3:mC H d r):(bu H [a,b,d]).1.map canon=[.pure p, .pure q, .pure r]:=by
 obtain⟨x1,y1⟩:=nQ h1;obtain⟨x2,y2⟩:=nQ (nO y1 h2);obtain⟨x3,y3⟩:=nQ (nO y2 (nO y1 h3));rw [iH,x1,iH,x2,iH,x3];rfl
theorem adX {nm:Nm}{b d e:GV}{q r p:PV}(h2:mC H b q)(h3:mC H d r)(h4:mC H e p):(bu H [.aA nm 0,b,d,e]).1.map canon=[.aA nm 0, .pure q, .pure r, .pure p]:=by
 rw [iH,BA,adW h2 h3 h4];rfl
theorem Hd {rg sg:GV}(r:aC)(s:az)(w n:Nat)(hR:mC H rg (.agg r.row))(hS:mC H sg (.agg s.row))(hs:He r s)(hw:w<r.ah.length)(hpl:r.ah.length≤1000000)(htl:r.aa.length≤1000000)(hwide:r.wide≠0)(hn:IntKind.i64.wrap (r.wide*r.deep)=n)(hn0:0<n)(hnb:n≤1000000){nm:Nm}(hB:fZ H nm):
  aL KC (aG KC) 49 [.aA nm 0,rg,sg, .pure (.int .i64 w)] c H=
   some (.pure (.tuple [.agg (gJ r s w (bQ n r.aa.length r.ah.length w) (bJ H nm)).1.1.row, .bool (gJ r s w (bQ n r.aa.length r.ah.length w) (bJ H nm)).1.2]),H.set nm (bG (gJ r s w (bQ n r.aa.length r.ah.length w) (bJ H nm)).2)):=by
 have hlt:=gP hB;rw [qa KC rfl rfl,adX hR hS (show mC H (.pure (.int .i64 w)) (.int .i64 w)from rfl)]
 have hget:=yn hB;have hE:fZ ((gw H).set nm (bG (bJ H nm))) nm:=ly (by rw [cW];exact hlt);have hWE:bJ ((gw H).set nm (bG (bJ H nm))) nm=bJ H nm:=lx (by rw [cW];exact hlt);have M:=JT (c:=c) (H:=(gw H).set nm (bG (bJ H nm))) r s w n hs hw hpl htl hwide hn hn0 hnb hE;rw [hWE]at M;generalize gJ r s w (bQ n r.aa.length r.ah.length w) (bJ H nm)=res at M⊢;have hgs:((gw H).set nm (bG res.2)).get nm=some (bG res.2):=aj.gf (by rw [cW];exact hlt);have hfl: ∀w,po [.pure (.int .u64 w)]=true:=fun w=>rfl;unfold iG;simp only [my,hget,bG];simp only [bG]at M hgs;simp [po,BP,iO,M,hgs,kP,uz,rq,oW,oB,kE,refs,dM,dn,dedup,kQ,aj.length_set,ak.row]
theorem Pu (L k1 k2 k3:Nat)(s:az):X4 L k1 k2 k3 s=kK (L,k1) (L,k2) (L,k3) s:=rfl
theorem tS {rg:GV} (r:aC) (hR:mC H rg (.agg r.row)) (hp0:r.ah≠[]) (ht0:r.aa≠[]) (hpl:r.ah.length≤1000000) (htl:r.aa.length≤1000000) (hH:0<H.length)
  (hf1:H.get (H.length-1,ao c 22)=none) (hf2:H.get (H.length-1,ao c 27)=none) (hf3:H.get (H.length-1,ao c 53)=none):
  aL KC (aG KC) 48 [rg] c H=some (kK (H.length-1,ao c 22) (H.length-1,ao c 27) (H.length-1,ao c 53) (ay r),
   cn H (H.length-1,ao c 22) (H.length-1,ao c 27) (H.length-1,ao c 53) 0 0 0 (ay r)):=by
 rw [qa KC rfl rfl,Pt hR];have F:=Hg (c:=c) (H:=gw H) r hp0 ht0 hpl htl (by rw [cW];exact hH) (j0 _ _) (j0 _ _) (j0 _ _);simp only [cW]at F;have hL:H.length-1<(gw H).length:=(by rw [cW];omega);have hL':H.length-1<H.length:=(by omega);have jP:ao c 22≠ao c 27:=(by unfold ao;omega);have kL:ao c 22≠ao c 53:=(by unfold ao;omega);have jZ:ao c 27≠ao c 53:=(by unfold ao;omega);have k1:(H.length-1,ao c 27)≠((H.length-1,ao c 22):Nm):=fun e=>jP (Prod.mk.inj e).2.symm;have k2:(H.length-1,ao c 53)≠((H.length-1,ao c 22):Nm):=fun e=>kL (Prod.mk.inj e).2.symm;have k3:(H.length-1,ao c 53)≠((H.length-1,ao c 27):Nm):=fun e=>jZ (Prod.mk.inj e).2.symm;generalize hE:((((gw H).set (H.length-1,ao c 22) (.arr 1 ((ay r).ah.map aE) 0 false)).set (H.length-1,ao c 27) (.arr 2 ((ay r).aq.map aF.row) 0 false)).set (H.length-1,ao c 53) (.arr 2 ((ay r).aa.map bm.row) 0 false))=E at F;have q1:E.get (H.length-1,ao c 22)=some (.arr 1 ((ay r).ah.map aE) 0 false):=(by rw [←hE,aj.aK _ k2.symm,aj.aK _ k1.symm];exact aj.gf hL);have q2:E.get (H.length-1,ao c 27)=some (.arr 2 ((ay r).aq.map aF.row) 0 false):=(by rw [←hE,aj.aK _ k3.symm];exact aj.gf (by rw [aj.length_set];exact hL));have q3:E.get (H.length-1,ao c 53)=some (.arr 2 ((ay r).aa.map bm.row) 0 false):=(by rw [←hE];exact aj.gf (by rw [aj.length_set,aj.length_set];exact hL));have g2: ∀b,(H.set (H.length-1,ao c 22) b).get (H.length-1,ao c 27)=none:=fun b=>(aj.aK b k1).trans hf2;have g3: ∀b b',((H.set (H.length-1,ao c 22) b).set (H.length-1,ao c 27) b').get (H.length-1,ao c 53)=none:=fun b b'=>(aj.aK b' k3).trans ((aj.aK b k2).trans hf3);have fr1: ∀l:List Int,eY (l.map aE)=true:=fun l=>by induction l with|nil=>rfl|cons a l ih=>simp [eY,kE,iO,aE,ih]
 have fr2: ∀l:List aF,eY (l.map aF.row)=true:=fun l=>by induction l with|nil=>rfl|cons a l ih=>simp [eY,kE,iO,aF.row,ih]
 have fr3: ∀l:List bm,eY (l.map bm.row)=true:=fun l=>by induction l with|nil=>rfl|cons a l ih=>simp [eY,kE,iO,bm.row,ih]
 unfold iG;simp [my,F,Pu,kK,kP,uz,rq,yJ,oW,oB,refs,dM,dn,dedup,kQ,jP,kL,jZ,jP.symm,kL.symm,jZ.symm,q1,q2,q3,hf1,g2,g3,fr1,fr2,fr3,cn]
theorem Hh {sg ag bg:GV} {s:az} {w v:Nat} {a b:ak} (hS:mC H sg (.agg s.row)) (hA:mC H ag (.agg a.row)) (hB:mC H bg (.agg b.row)) (hp:w<s.ah.length) (hh:w<s.aq.length) (hw:a.aQ=w) (ha:a.hand=0∨a.hand=1)
  (hp2:v<s.ah.length) (hh2:v<s.aq.length) (hw2:b.aQ=v) (hb:b.hand=0∨b.hand=1) (hH:0<H.length):
  aL KC (aG KC) 53 [sg,ag,bg] c H=some (.pure (.bool (rj s w a v b)),H):=
 gQ KC rfl rfl (adW hS hA hB) rfl hH (fun H hH=>JR (c:=c) hp hh hw ha hp2 hh2 hw2 hb hH) rfl
end
section
variable {c:Nat} {H:aj}
theorem JU (l:List Int)(hn:l.length≤1000000)(Q:GX→bN→Prop)(hH:0<H.length): ∀k i:Nat,i+k=l.length→
  Q (.exit 0) ⟨[(4,aN)],H,26⟩→
  fM KC au 68 (lp Tryz.f68 0) [0,1,5] [4] Q [(0, .pure (.slice (l.map aE))),(1, .pure (.slice (l.map aE))),(5, .pure (.int .i64 i))] H 26:=by
 intro k
 induction k with
 |zero=>
  intro i hi h1;apply ax;conv=>arg 4;whnf
  have: ¬i<l.length:=(by omega);simp [this,hH];exact h1
 |succ k ih=>
  intro i hi h1;have hia:i<l.length:=(by omega);have hw:=cU (x:=(i:Int)+1) (by omega) (by omega);have ih':=ih (i+1) (by omega) h1;apply ax;conv=>arg 4;whnf
  simp [hia,hH,aE,hw];simpa [aE]using ih'
theorem JV (l:List Int)(hn:l.length≤1000000)(hH:0<H.length):
  aL KC (aG KC) 68 [.pure (.slice (l.map aE)), .pure (.slice (l.map aE))] c H=some (.pure (.bool true),H):=by
 refine dp rfl rfl rfl rfl rfl hH fun H hH=> ?_;refine aM (aH KC au Tryz.func68 rfl rfl Ws (by simp) hH ?_);simp;refine JU (H:=[]::H) l hn _ (by simp) l.length 0 (by omega) ?_;simp [ae]
theorem BQ (l:List ak)(hn:l.length≤1000000)(Q:GX→bN→Prop)(hH:0<H.length): ∀k i:Nat,i+k=l.length→
  Q (.exit 0) ⟨[(4,aN)],H,26⟩→
  fM KC au 31 (lp Tryz.f31 0) [0,1,5] [4] Q [(0, .pure (.slice (l.map ak.row))),(1, .pure (.slice (l.map ak.row))),(5, .pure (.int .i64 i))] H 26:=by
 intro k
 induction k with
 |zero=>
  intro i hi h1;apply ax;conv=>arg 4;whnf
  have: ¬i<l.length:=(by omega);simp [this,hH];exact h1
 |succ k ih=>
  intro i hi h1;have hia:i<l.length:=(by omega);have hw:=cU (x:=(i:Int)+1) (by omega) (by omega);have ih':=ih (i+1) (by omega) h1;apply ax;conv=>arg 4;whnf
  simp [hia,hH,ak.row,hw];simpa [ak.row]using ih'
theorem yK (l:List ak)(hn:l.length≤1000000)(hH:0<H.length):
  aL KC (aG KC) 31 [.pure (.slice (l.map ak.row)), .pure (.slice (l.map ak.row))] c H=some (.pure (.bool true),H):=by
 refine dp rfl rfl rfl rfl rfl hH fun H hH=> ?_;refine aM (aH KC au Tryz.func31 rfl rfl V8 (by simp) hH ?_);simp;refine BQ (H:=[]::H) l hn _ (by simp) l.length 0 (by omega) ?_;simp [ae]
theorem yb (r:aC)(hn:r.ah.length≤1000000)(Q:GX→bN→Prop): ∀k i:Nat,i+k=r.ah.length→
  Q (.exit 0) ⟨[(2, .aA (H.length,2) 0),(3, .aA (H.length,3) 0),(4,aN)],[(2,aD r),(3,aD r)]::H,97⟩→
  fM KC au 23 (lp Tryz.f23 0) [2,3,5] [2,3,4] Q [(2, .aA (H.length,2) 0),(3, .aA (H.length,3) 0),(5, .pure (.int .i64 i))] ([(2,aD r),(3,aD r)]::H) 97:=by
 intro k
 induction k with
 |zero=>
  intro i hi h1;apply ax;conv=>arg 4;whnf
  have: ¬i<r.ah.length:=(by omega);simp [this,aD];simpa [aD]using h1
 |succ k ih=>
  intro i hi h1;have hia:i<r.ah.length:=(by omega);have hw:=cU (x:=(i:Int)+1) (by omega) (by omega);have ih':=ih (i+1) (by omega) h1;apply ax;conv=>arg 4;whnf
  simp [hia,aS.row,hw,aD];simpa [aS.row,aD]using ih'
theorem yc (r:aC)(hn:r.aa.length≤1000000)(Q:GX→bN→Prop): ∀k i:Nat,i+k=r.aa.length→
  Q (.exit 2) ⟨[(4,aN)],[(2,aD r),(3,aD r)]::H,97⟩→
  fM KC au 23 (lp Tryz.f23 1) [2,3,6] [4] Q [(2, .aA (H.length,2) 0),(3, .aA (H.length,3) 0),(6, .pure (.int .i64 i))] ([(2,aD r),(3,aD r)]::H) 97:=by
 intro k
 induction k with
 |zero=>
  intro i hi h1;apply ax;conv=>arg 4;whnf
  have: ¬i<r.aa.length:=(by omega);simp [this,aD];simpa [aD]using h1
 |succ k ih=>
  intro i hi h1;have hia:i<r.aa.length:=(by omega);have hw:=cU (x:=(i:Int)+1) (by omega) (by omega);have ih':=ih (i+1) (by omega) h1;apply ax;conv=>arg 4;whnf
  simp [hia,aY.row,hw,aD];simpa [aY.row,aD]using ih'
structure eL (r:aC):Prop where
 p:r.ah.length≤1000000
 t:r.aa.length≤1000000
 s:r.seen.length≤1000000
 l:r.aP.length≤1000000
 a:r.ai.length≤1000000
theorem BR (r:aC)(h:eL r)(hH:0<H.length):
  bF KC (aG KC) 23 [.pure (.agg r.row), .pure (.agg r.row)] c H=some (.pure (.bool true),H):=by
 refine aM (aH KC au Tryz.func23 rfl rfl V0 (by simp) hH ?_);rw [cI];have E1:=fun c (H:aj) (hH:0<H.length)=>JV (c:=c) (H:=H) r.seen h.s hH;have E2:=fun c (H:aj) (hH:0<H.length)=>JV (c:=c) (H:=H) r.aP h.l hH;have E3:=fun c (H:aj) (hH:0<H.length)=>yK (c:=c) (H:=H) r.ai h.a hH;simp [E1,E2,E3];have L1:=fun Q h1=>yb (H:=H) r h.p Q r.ah.length 0 (by omega) h1;simp [aD]at L1;refine L1 _ ?_;simp;have L2:=fun Q h1=>yc (H:=H) r h.t Q r.aa.length 0 (by omega) h1;simp [aD]at L2;refine L2 _ ?_;simp [ae]
theorem Pv {a b:GV}{p q:PV}(h1:mC H a p)(h2:mC H b q):(bu H [a,b]).1.map canon=[.pure p, .pure q]:=by
 obtain⟨x1,y1⟩:=nQ h1;obtain⟨x2,y2⟩:=nQ (nO y1 h2);rw [iH,x1,iH,x2];rfl
theorem DN {g1 g2:GV}(r:aC)(h:eL r)(r1:mC H g1 (.agg r.row))(r2:mC H g2 (.agg r.row))(hH:0<H.length):
  aL KC (aG KC) 23 [g1,g2] c H=some (.pure (.bool true),H):=
 gQ KC rfl rfl (Pv r1 r2) rfl hH (fun H hH=>BR (c:=c) r h hH) rfl
noncomputable def Hi:aC→Bool:=mI fun r=>decide (9<r.ah.length)||(decide (12<r.aa.length)||(decide (40<r.seen.length)||(decide (9<r.aP.length)||decide (50<r.ai.length))))
theorem BS (r:aC):Hi r=(decide (9<r.ah.length)||(decide (12<r.aa.length)||(decide (40<r.seen.length)||(decide (9<r.aP.length)||decide (50<r.ai.length))))):=by rw [Hi,cO]
theorem wD {r:aC}(h:Hi r=false):r.ah.length≤9∧r.aa.length≤12∧r.seen.length≤40∧r.aP.length≤9∧r.ai.length≤50:=by
 rw [BS]at h;simp at h;omega
theorem X5 (r:aC)(hH:0<H.length):aL KC (aG KC) 9 [.pure (.agg r.row)] c H=some (.pure (.bool (Hi r)),H):=by
 refine dp rfl rfl rfl rfl rfl hH fun H hH=> ?_;refine aM (aH KC au Tryz.func9 rfl rfl acX (by simp) hH ?_);have hd:=BS r;rw [cI];by_cases h1:9<r.ah.length
 ·have h1':(9:Int)<r.ah.length:=(by omega);simp [h1]at hd;simp [h1',ae,hd]
 have h1': ¬(9:Int)<r.ah.length:=(by omega);by_cases h2:12<r.aa.length
 ·have h2':(12:Int)<r.aa.length:=(by omega);simp [h1,h2]at hd;simp [h1',h2',ae,hd]
 have h2': ¬(12:Int)<r.aa.length:=(by omega);by_cases h3:40<r.seen.length
 ·have h3':(40:Int)<r.seen.length:=(by omega);simp [h1,h2,h3]at hd;simp [h1',h2',h3',ae,hd]
 have h3': ¬(40:Int)<r.seen.length:=(by omega);by_cases h4:9<r.aP.length
 ·have h4':(9:Int)<r.aP.length:=(by omega);simp [h1,h2,h3,h4]at hd;simp [h1',h2',h3',h4',ae,hd]
 have h4': ¬(9:Int)<r.aP.length:=(by omega);by_cases h5:50<r.ai.length
 ·have h5':(50:Int)<r.ai.length:=(by omega);simp [h1,h2,h3,h4,h5]at hd;simp [h1',h2',h3',h4',h5',ae,hd]
 ·have h5': ¬(50:Int)<r.ai.length:=(by omega);simp [h1,h2,h3,h4,h5]at hd;simp [h1',h2',h3',h4',h5',ae,hd]
end
section
def aX (hs:List aF)(w:Nat)(hand:Int):Int:=if hand=0 then (hs.getD w bH).l else (hs.getD w bH).r
theorem cE (s:az)(w:Nat)(hand:Int):bK s w hand=aX s.aq w hand:=rfl
def Ac (h:aF)(t:Int):Nat:=(if h.l=t then 1 else 0)+(if h.r=t then 1 else 0)
def kF:List aF→Int→Nat
 | [],_=>0
 |h::l,t=>Ac h t+kF l t
theorem BT: ∀(l:List aF) (w:Nat) (h:aF) (t:Int),w<l.length→kF (l.set w h) t+Ac (l.getD w bH) t=kF l t+Ac h t
 | [],w,h,t,hw=>by simp at hw
 |x::l,0,h,t,hw=>by simp [kF];omega
 |x::l,w+1,h,t,hw=>by
  have:=BT l w h t (by simpa using hw);simp only [List.set_cons_succ,kF,List.getD_cons_succ]at this⊢;omega
theorem sy (l:List aF)(w:Nat)(hand v t:Int)(hw:w<l.length):kF (bA l w hand v) t+(if aX l w hand=t then 1 else 0)=kF l t+(if v=t then 1 else 0):=by
 unfold bA;have:=BT l w (if hand=0 then ⟨v,(l.getD w bH).r⟩else ⟨(l.getD w bH).l,v⟩) t hw;unfold aX;by_cases h:hand=0
 ·simp only [h,if_true,Ac]at this⊢;omega
 ·simp only [h,if_false,Ac]at this⊢;omega
theorem BU: ∀(l:List aF) (w:Nat) (t:Int),w<l.length→Ac (l.getD w bH) t≤kF l t
 | [],w,t,hw=>by simp at hw
 |x::l,0,t,hw=>by simp [kF]
 |x::l,w+1,t,hw=>by
  have:=BU l w t (by simpa using hw);simp only [kF,List.getD_cons_succ]at this⊢;omega
theorem Pw (l:List aF)(w:Nat)(hand t:Int)(hw:w<l.length)(h:aX l w hand=t):1≤kF l t:=by
 have:=BU l w t hw;unfold aX at h;unfold Ac at this;split at h
 ·rw [if_pos h]at this;omega
 ·rw [if_pos h]at this;omega
theorem kb (l:List aF)(w:Nat)(hand v:Int):(bA l w hand v).length=l.length:=by simp [bA]
theorem fh {l:List aF}{w:Nat}{hand v:Int}(p:Nat)(hw:w<l.length):(bA l w hand v).getD p bH=if p=w then (if hand=0 then ⟨v,(l.getD w bH).r⟩else ⟨(l.getD w bH).l,v⟩)else l.getD p bH:=by
 unfold bA;by_cases h:p=w
 ·subst h;simp [List.getD_eq_getElem?_getD,hw]
 ·have h': ¬w=p:=fun e=>h e.symm;simp [List.getD_eq_getElem?_getD,List.getElem?_set,h,h']
theorem DP {l:List aF}{w:Nat}{hand v:Int}(p:Nat)(hd:Int)(hw:w<l.length)(h0:hand=0∨hand=1)(h1:hd=0∨hd=1):aX (bA l w hand v) p hd=if p=w∧hd=hand then v else aX l p hd:=by
 unfold aX;rw [fh p hw];by_cases h:p=w
 ·subst h;rcases h0 with rfl|rfl<;>rcases h1 with rfl|rfl<;>simp
 ·simp [h]
theorem bf {α:Type}{l:List α}{i:Nat}{d:α}(h:i<l.length):l.getD i d=l[i]:=by simp [List.getD_eq_getElem?_getD,h]
theorem wE {α:Type}(l:List α)(i:Nat)(d:α):l.set i (l.getD i d)=l:=by
 by_cases h:i<l.length
 ·rw [bf h];simp
 ·exact List.set_eq_of_length_le (by omega)
theorem X6: ∀q:Fin 16,∀b∈[(1:Int),2,4],(if ((IntKind.i64.wrap (((q.1:Nat):Int).tdiv b)).tmod 2==1)then 0≤IntKind.i64.wrap (((q.1:Nat):Int)-b)∧IntKind.i64.wrap (((q.1:Nat):Int)-b)<16 else 0≤IntKind.i64.wrap (((q.1:Nat):Int)+b)∧IntKind.i64.wrap (((q.1:Nat):Int)+b)<16):=by decide
theorem JW {ts:List bm}{t:Nat}{bit:Int}{on:Bool}(ht:t<ts.length)(hs:0≤(ts.getD t aV).state∧(ts.getD t aV).state<16)(hb:bit=1∨bit=2∨bit=4):
  ∃st,0≤st∧st<16∧dJ ts t bit on=ts.set t ⟨(ts.getD t aV).cell,st⟩:=by
 rw [jC];by_cases h:fk ts t bit=on
 ·rw [if_pos h];refine⟨_,hs.1,hs.2, ?_⟩;exact(wE ts t aV).symm
 ·rw [if_neg h];have hm:bit∈[(1:Int),2,4]:=(by simp;exact hb);have h0:decide ((0:Int)≤t)=true:=(by simp);rw [iX,h0,Bool.true_and]at h;simp only [Int.toNat_natCast]at h;obtain⟨q,hq⟩:=Int.eq_ofNat_of_zero_le hs.1;have hq16:q<16:=(by omega);have B:=X6 ⟨q,hq16⟩ bit hm;simp only [←hq]at B;cases on
  ·have h':((IntKind.i64.wrap ((ts.getD t aV).state.tdiv bit)).tmod 2==1)=true:=(by simpa using h);rw [if_pos h']at B;exact⟨_,B.1,B.2,by simp⟩
  ·have h': ¬((IntKind.i64.wrap ((ts.getD t aV).state.tdiv bit)).tmod 2==1)=true:=(by simpa using h);rw [if_neg h']at B;exact⟨_,B.1,B.2,by simp⟩
structure gz (r:aC)(s:az):Prop extends He r s where
 pr: ∀x∈s.ah,0≤x∧x<r.wide*r.deep
 pn:s.ah.Nodup
 th: ∀t:Nat,t<s.aa.length→(kF s.aq t=1∧(s.aa.getD t aV).cell= -1)∨(kF s.aq t=0∧0≤(s.aa.getD t aV).cell∧(s.aa.getD t aV).cell<r.wide*r.deep)
 st: ∀t:Nat,t<s.aa.length→0≤(s.aa.getD t aV).state∧(s.aa.getD t aV).state<16
structure AB (r:aC)(w:Nat)(a:ak):Prop where
 aQ:a.aQ=w
 wl:w<r.ah.length
 hand:a.hand=0∨a.hand=1
 kind:1≤a.kind∧a.kind≤8
 take:a.kind=2→ ∃t:Nat,a.bh=t∧t<r.aa.length
 sA:a.kind=4→ ∃o:Nat,a.other=o∧o<r.ah.length∧o≠w
 step:a.kind=1→0≤a.cell∧a.cell<r.wide*r.deep
 form:mU a=true
theorem iz {r:aC}{s:az}(h:He r s){w:Nat}{hand:Int}(hw:w<r.ah.length):aX s.aq w hand<s.aa.length∧ -1≤aX s.aq w hand:=by
 have hl:w<s.aq.length:=(by rw [h.hl];exact hw);have:=h.hr w hl;unfold aX;rw [bf hl];split
 ·exact⟨this.1,this.2.2.1⟩
 ·exact⟨this.2.1,this.2.2.2⟩
theorem DQ {l:List Int}(hn:l.Nodup){w:Nat}{c:Int}(hc:c∉l):(l.set w c).Nodup:=by
 induction l generalizing w with
 |nil=>simp
 |cons x l ih=>
  simp only [List.mem_cons,not_or]at hc;rw [List.nodup_cons]at hn
  cases w with
  |zero=>simp [hc.2,hn.2]
  |succ w=>
   rw [List.set_cons_succ,List.nodup_cons];refine⟨fun h=> ?_,ih hn.2 hc.2⟩;rcases List.mem_or_eq_of_mem_set h with h|h
   ·exact hn.1 h
   ·exact hc.1 h.symm
section
variable {r:aC} {s:az} {w:Nat} {a:ak}
theorem kq (h:a.kind=1):cX s w a={s with ah:=s.ah.set w a.cell}:=by rw [jd,if_pos h]
theorem pq (h:a.kind=2):cX s w a={s with aq:=bA s.aq w a.hand a.bh,aa:=s.aa.set a.bh.toNat ⟨-1,(s.aa.getD a.bh.toNat aV).state⟩}:=by rw [jd,if_neg (by omega),if_pos h]
theorem mV (h:a.kind=3):cX s w a={s with aq:=bA s.aq w a.hand (-1),aa:=s.aa.set (aX s.aq w a.hand).toNat ⟨s.ah.getD w 0,(s.aa.getD (aX s.aq w a.hand).toNat aV).state⟩}:=by rw [jd,if_neg (by omega),if_neg (by omega),if_pos h];rfl
theorem pt (h:a.kind=4):cX s w a={s with aq:=bA (bA s.aq a.other.toNat (eC s.aq a.other.toNat) (aX s.aq w a.hand)) w a.hand (-1)}:=by rw [jd,if_neg (by omega),if_neg (by omega),if_neg (by omega),if_pos h];rfl
theorem py (h:a.kind=5):cX s w a={s with aa:=dJ s.aa (aX s.aq w (1-a.hand)).toNat 1 true}:=by rw [jd,if_neg (by omega),if_neg (by omega),if_neg (by omega),if_neg (by omega),if_pos h];rfl
theorem pz (h:a.kind=6):cX s w a={s with aa:=dJ (dJ (dJ s.aa (aX s.aq w a.hand).toNat 2 false) (aX s.aq w a.hand).toNat 1 false) (aX s.aq w (1-a.hand)).toNat 2 true}:=by rw [jd,if_neg (by omega),if_neg (by omega),if_neg (by omega),if_neg (by omega),if_neg (by omega),if_pos h];rfl
theorem pA (h:a.kind=7):cX s w a={s with aa:=dJ s.aa (aX s.aq w a.hand).toNat 4 true}:=by rw [jd,if_neg (by omega),if_neg (by omega),if_neg (by omega),if_neg (by omega),if_neg (by omega),if_neg (by omega),if_pos h];rfl
theorem pB (h:a.kind=8):cX s w a={s with aa:=dJ s.aa (aX s.aq w a.hand).toNat 4 false}:=by rw [jd,if_neg (by omega),if_neg (by omega),if_neg (by omega),if_neg (by omega),if_neg (by omega),if_neg (by omega),if_neg (by omega)];rfl
theorem Ad (h:a.kind=1):bW r s w a=(!(s.ah.contains a.cell) && kM r.wide (s.ah.getD w 0) a.cell):=by rw [fP,if_pos h]
theorem DR (h:a.kind=2):bW r s w a=(aX s.aq w a.hand== -1 && (s.aa.getD a.bh.toNat aV).cell==s.ah.getD w 0):=by rw [fP,if_neg (by omega),if_pos h];rfl
theorem Ae (h:a.kind=3):bW r s w a=decide (0≤aX s.aq w a.hand):=by rw [fP,if_neg (by omega),if_neg (by omega),if_pos h];rfl
theorem Af (h:a.kind=4):bW r s w a=(decide (0≤aX s.aq w a.hand) && kM r.wide (s.ah.getD w 0) (s.ah.getD a.other.toNat 0) && decide (0≤eC s.aq a.other.toNat)):=by rw [fP,if_neg (by omega),if_neg (by omega),if_neg (by omega),if_pos h];rfl
theorem Ah (h:a.kind=5):bW r s w a=(decide (0≤aX s.aq w a.hand) && (r.aa.getD (aX s.aq w a.hand).toNat cK).vT && decide (0≤aX s.aq w (1-a.hand))):=by rw [fP,if_neg (by omega),if_neg (by omega),if_neg (by omega),if_neg (by omega),if_pos h];rfl
theorem wF (h:a.kind=6):bW r s w a=(fk s.aa (aX s.aq w a.hand) 2 && !fk s.aa (aX s.aq w a.hand) 4 && decide (0≤aX s.aq w (1-a.hand)) && !fk s.aa (aX s.aq w (1-a.hand)) 2 && !fk s.aa (aX s.aq w (1-a.hand)) 4):=by rw [fP,if_neg (by omega),if_neg (by omega),if_neg (by omega),if_neg (by omega),if_neg (by omega),if_pos h];rfl
theorem Ai (h:a.kind=7):bW r s w a=(decide (0≤aX s.aq w a.hand) && !fk s.aa (aX s.aq w a.hand) 4):=by rw [fP,if_neg (by omega),if_neg (by omega),if_neg (by omega),if_neg (by omega),if_neg (by omega),if_neg (by omega),if_pos h];rfl
theorem Aj (h:a.kind=8):bW r s w a=fk s.aa (aX s.aq w a.hand) 4:=by rw [fP,if_neg (by omega),if_neg (by omega),if_neg (by omega),if_neg (by omega),if_neg (by omega),if_neg (by omega),if_neg (by omega)];rfl
theorem nR (h:1≤a.kind∧a.kind≤8):a.kind=1∨a.kind=2∨a.kind=3∨a.kind=4∨a.kind=5∨a.kind=6∨a.kind=7∨a.kind=8:=by omega
theorem BW {ts:List bm}{x b:Int}(h:fk ts x b=true):0≤x:=by
 rw [iX]at h;simp at h;exact h.1
end
theorem lH {r:aC}{s:az}{w:Nat}{a:ak}(hS:gz r s)(hA:AB r w a)(hp:bW r s w a=true):DS s w a:=by
 have e1:=hS.pl;have e2:=hS.hl;have e3:=hS.tl;have wl:=hA.wl;have R0:=fun(hd:Int)=>iz hS.toHe (w:=w) (hand:=hd) wl;have nat: ∀x:Int,0≤x→x<s.aa.length→ ∃t:Nat,x=t∧t<s.aa.length:=fun x h1 h2=>⟨x.toNat,by omega,by omega⟩;have held:3≤a.kind→0≤aX s.aq w a.hand:=fun h3=>by
  rcases nR hA.kind with k|k|k|k|k|k|k|k
  ·omega
  ·omega
  ·rw [Ae k]at hp;simpa using hp
  ·rw [Af k]at hp;simp at hp;exact hp.1.1
  ·rw [Ah k]at hp;simp at hp;exact hp.1.1
  ·rw [wF k]at hp;simp at hp;exact BW hp.1.1.1.1
  ·rw [Ai k]at hp;simp at hp;exact hp.1
  ·rw [Aj k]at hp;exact BW hp
 refine⟨by omega,by omega,hA.aQ,hA.hand,hA.kind,fun h=> ?_,fun h=>nat _ (held h) (R0 _).1,fun h=> ?_,fun h=>nat _ ?_ (R0 _).1⟩
 ·obtain⟨t,h1,h2⟩:=hA.take h;exact⟨t,h1,by omega⟩
 ·obtain⟨o,h1,h2,h3⟩:=hA.sA h;rw [Af h,h1]at hp;simp at hp;refine⟨o,h1,by omega,h3, ?_⟩;have:=hp.2;unfold eC at this⊢;split
  ·exact .inl rfl
  ·rename_i hh;rw [if_neg hh]at this;split
   ·exact .inr rfl
   ·rename_i hh2;rw [if_neg hh2]at this;omega
 ·show 0≤aX s.aq w (1-a.hand)
  rcases h with h|h
  ·rw [Ah h]at hp;simp at hp;exact hp.2
  ·rw [wF h]at hp;simp at hp;exact hp.1.1.2
theorem cell_of {r:aC}{s:az}(hS:gz r s){w:Nat}(hw:w<r.ah.length):0≤s.ah.getD w 0∧s.ah.getD w 0<r.wide*r.deep:=by
 have hl:w<s.ah.length:=(by rw [hS.pl];exact hw);rw [bf hl];exact hS.pr _ (List.getElem_mem hl)
theorem gz.X7 {r:aC}{s:az}(hS:gz r s)(ts:List bm)(hl:ts.length=s.aa.length)(hc: ∀t:Nat,t<s.aa.length→(ts.getD t aV).cell=(s.aa.getD t aV).cell∧0≤(ts.getD t aV).state∧(ts.getD t aV).state<16):gz r {s with aa:=ts} where
 pl:=hS.pl
 hl:=hS.hl
 tl:=hl.trans hS.tl
 hr:=fun i h=>by have:=hS.hr i h;rw [←hl]at this;exact this
 pr:=hS.pr
 pn:=hS.pn
 th:=fun t h=>by
  have h':t<s.aa.length:=(by rw [←hl];exact h);rw [(hc t h').1];exact hS.th t h'
 st:=fun t h=>(hc t (by rw [←hl];exact h)).2
theorem wG {α:Type}{l:List α}{i j:Nat}{x d:α}(hj:j<l.length):(l.set i x).getD j d=if i=j then x else l.getD j d:=by
 simp only [List.getD_eq_getElem?_getD,List.getElem?_set];split
 ·rename_i h;subst h;simp [hj]
 ·rfl
theorem ru {ts:List bm}{t:Nat}{bit:Int}{on:Bool}(hst: ∀t:Nat,t<ts.length→0≤(ts.getD t aV).state∧(ts.getD t aV).state<16)(ht:t<ts.length)(hb:bit=1∨bit=2∨bit=4):
  (dJ ts t bit on).length=ts.length∧ ∀u:Nat,u<ts.length→((dJ ts t bit on).getD u aV).cell=(ts.getD u aV).cell∧0≤((dJ ts t bit on).getD u aV).state∧((dJ ts t bit on).getD u aV).state<16:=by
 obtain⟨st,h1,h2,h3⟩:=JW (on:=on) ht (hst t ht) hb;rw [h3];refine⟨by simp,fun u hu=> ?_⟩;rw [wG hu];split
 ·rename_i e;subst e;exact⟨rfl,h1,h2⟩
 ·exact⟨rfl,hst u hu⟩
theorem gz.set {r:aC}{s:az}(hS:gz r s){t:Nat}{bit:Int}{on:Bool}(ht:t<s.aa.length)(hb:bit=1∨bit=2∨bit=4):gz r {s with aa:=dJ s.aa t bit on}:=by
 obtain⟨a,b⟩:=ru (on:=on) hS.st ht hb;exact hS.X7 _ a b
theorem gz.TY {r : aC} {s : az} {w : Nat} {a : ak} (hS : gz r s) (hA : AB r w a) (hp : bW r s w a = true) : gz r (cX s w a) := by
  have D := lH hS hA hp
  have e1 := hS.pl
  have e2 := hS.hl
  have e3 := hS.tl
  have wl := hA.wl
  have hh := hA.hand
  have hk := hA.kind
  have hwh : w < s.aq.length := by omega
  have hrp : ∀ v : Int, -1 ≤ v → v < s.aa.length → ∀ i (h : i < (bA s.aq w a.hand v).length), (bA s.aq w a.hand v)[i].l < s.aa.length ∧ (bA s.aq w a.hand v)[i].r < s.aa.length ∧ -1 ≤ (bA s.aq w a.hand v)[i].l ∧ -1 ≤ (bA s.aq w a.hand v)[i].r := fun v h1 h2 i hi => by
    rw [← bf (d := bH) hi, fh i hwh]
    have hi' : i < s.aq.length := by simpa [bA] using hi
    have q := hS.hr i hi'
    split
    · rename_i e; subst e
      rw [bf hi']
      split
      · exact ⟨h2, q.2.1, h1, q.2.2.2⟩
      · exact ⟨q.1, h2, q.2.2.1, h1⟩
    · rw [bf hi']; exact q
  rcases nR hA.kind with k1 | k2 | k3 | k4 | k5 | k6 | k7 | k8
  · rw [kq k1]
    rw [Ad k1] at hp
    obtain ⟨c1, c2⟩ := hA.step k1
    simp only [Bool.and_eq_true, Bool.not_eq_true', List.contains_eq_mem] at hp
    have hnc : a.cell ∉ s.ah := by simpa using hp.1
    exact { pl := by simpa using hS.pl, hl := hS.hl, tl := hS.tl, hr := hS.hr, pr := fun x hx => by
              rcases List.mem_or_eq_of_mem_set hx with h | h
              · exact hS.pr x h
              · subst h; exact ⟨c1, c2⟩
            pn := DQ hS.pn hnc, th := hS.th, st := hS.st }
  · obtain ⟨t, ht1, ht2⟩ := D.take k2
    have C := cell_of hS wl
    rw [DR k2] at hp
    rw [pq k2]
    simp only [ht1, Int.toNat_natCast, Bool.and_eq_true, beq_iff_eq] at hp ⊢
    obtain ⟨p1, p2⟩ := hp
    have cnt := fun u => sy s.aq w a.hand t u hwh
    have tt := hS.th t ht2
    have hrt := hrp t (by omega) (by omega)
    refine { pl := hS.pl, hl := by simpa [kb] using hS.hl, tl := by simpa using hS.tl, hr := fun i h => by rw [List.length_set]; exact hrt i h, pr := hS.pr, pn := hS.pn, th := fun u hu => ?_, st := fun u hu => ?_ }
    · have hu' : u < s.aa.length := by simpa using hu
      have q := hS.th u hu'
      have := cnt u
      rw [p1] at this
      rw [wG hu']
      by_cases e : t = u
      · subst e
        have e1 : ¬ ((-1 : Int) = (t : Int)) := by omega
        simp only [e1, if_true, if_false, eq_self] at this ⊢
        exact .inl ⟨by omega, trivial⟩
      · have e1 : ¬ ((-1 : Int) = (u : Int)) := by omega
        have e2 : ¬ ((t : Int) = (u : Int)) := by omega
        simp only [e, e1, e2, if_false] at this ⊢
        rw [show kF (bA s.aq w a.hand t) u = kF s.aq u by omega]
        exact q
    · have hu' : u < s.aa.length := by simpa using hu
      rw [wG hu']
      split
      · exact hS.st t ht2
      · exact hS.st u hu'
  · obtain ⟨t, ht1', ht2⟩ := D.held (by omega)
    rw [cE] at ht1'
    have C := cell_of hS wl
    rw [mV k3]
    simp only [ht1', Int.toNat_natCast]
    have cnt := fun u => sy s.aq w a.hand (-1) u hwh
    have tt := hS.th t ht2
    have hrt := hrp (-1) (by omega) (by omega)
    have ca := Pw s.aq w a.hand t hwh ht1'
    refine { pl := hS.pl, hl := by simpa [kb] using hS.hl, tl := by simpa using hS.tl, hr := fun i h => by rw [List.length_set]; exact hrt i h, pr := hS.pr, pn := hS.pn, th := fun u hu => ?_, st := fun u hu => ?_ }
    · have hu' : u < s.aa.length := by simpa using hu
      have q := hS.th u hu'
      have := cnt u
      rw [ht1'] at this
      have e1 : ¬ ((-1 : Int) = (u : Int)) := by omega
      rw [wG hu']
      by_cases e : t = u
      · subst e
        simp only [e1, if_true, if_false] at this ⊢
        omega
      · have e2 : ¬ ((t : Int) = (u : Int)) := by omega
        simp only [e, e1, e2, if_false] at this ⊢
        rw [show kF (bA s.aq w a.hand (-1)) u = kF s.aq u by omega]
        exact q
    · have hu' : u < s.aa.length := by simpa using hu
      rw [wG hu']
      split
      · exact hS.st t ht2
      · exact hS.st u hu'
  · obtain ⟨t, ht1', ht2⟩ := D.held (by omega)
    rw [cE] at ht1'
    obtain ⟨o, o1, o2, o3, o4⟩ := D.sA k4
    rw [pt k4]
    simp only [ht1', o1, Int.toNat_natCast]
    obtain ⟨tk, etk⟩ : ∃ tk, eC s.aq o = tk := ⟨_, rfl⟩
    rw [etk] at o4 ⊢
    have tkf : aX s.aq o tk = -1 := by
      unfold eC at etk
      unfold aX
      split at etk
      · subst etk; simpa using ‹_›
      · split at etk
        · subst etk; simpa using ‹_›
        · omega
    have hl1 : w < (bA s.aq o tk t).length := by rw [kb]; exact hwh
    have c1 := fun u => sy s.aq o tk t u o2
    have c2 := fun u => sy (bA s.aq o tk t) w a.hand (-1) u hl1
    have hw2 : aX (bA s.aq o tk t) w a.hand = t := by
      rw [DP w a.hand o2 o4 hh, if_neg (fun e => o3 e.1.symm)]; exact ht1'
    refine { pl := hS.pl, hl := by simpa [kb] using hS.hl, tl := hS.tl, hr := fun i h => ?_, pr := hS.pr, pn := hS.pn, th := fun u hu => ?_, st := hS.st }
    · rw [← bf (d := bH) h, fh i hl1]
      have hi' : i < s.aq.length := by simpa [bA] using h
      have q := hS.hr i hi'
      have qw := hS.hr w hwh
      have ne : ¬ w = o := fun e => o3 e.symm
      have two : ((bA s.aq o tk t).getD i bH).l < s.aa.length ∧ ((bA s.aq o tk t).getD i bH).r < s.aa.length ∧ -1 ≤ ((bA s.aq o tk t).getD i bH).l ∧ -1 ≤ ((bA s.aq o tk t).getD i bH).r := by
        rw [fh i o2]
        split
        · rename_i e; subst e
          rw [bf hi']
          split
          · exact ⟨by show (t : Int) < _; omega, q.2.1, by show (-1 : Int) ≤ t; omega, q.2.2.2⟩
          · exact ⟨q.1, by show (t : Int) < _; omega, q.2.2.1, by show (-1 : Int) ≤ t; omega⟩
        · rw [bf hi']; exact q
      split
      · rename_i e; subst e
        split
        · exact ⟨by show (-1 : Int) < _; omega, two.2.1, by show (-1 : Int) ≤ -1; omega, two.2.2.2⟩
        · exact ⟨two.1, by show (-1 : Int) < _; omega, two.2.2.1, by show (-1 : Int) ≤ -1; omega⟩
      · exact two
    · have q := hS.th u hu
      have d1 := c1 u
      have d2 := c2 u
      rw [hw2] at d2
      rw [tkf] at d1
      have e1 : ¬ ((-1 : Int) = (u : Int)) := by omega
      simp only [e1, if_false] at d1 d2
      show (kF (bA (bA s.aq o tk t) w a.hand (-1)) u = 1 ∧ _) ∨ (kF (bA (bA s.aq o tk t) w a.hand (-1)) u = 0 ∧ _)
      rw [show kF (bA (bA s.aq o tk t) w a.hand (-1)) u = kF s.aq u by omega]
      exact q
  · obtain ⟨q, q1, q2⟩ := D.yz (.inl k5)
    rw [cE] at q1
    rw [py k5]
    simp only [q1, Int.toNat_natCast]
    exact hS.set q2 (.inl rfl)
  · obtain ⟨t, ht1', ht2⟩ := D.held (by omega)
    rw [cE] at ht1'
    obtain ⟨q, q1, q2⟩ := D.yz (.inr k6)
    rw [cE] at q1
    rw [pz k6]
    simp only [q1, ht1', Int.toNat_natCast]
    have S1 := hS.set (on := false) ht2 (.inr (.inl rfl) : (2 : Int) = 1 ∨ (2 : Int) = 2 ∨ (2 : Int) = 4)
    have S2 := S1.set (t := t) (on := false) (by simpa [dV] using ht2) (.inl rfl : (1 : Int) = 1 ∨ (1 : Int) = 2 ∨ (1 : Int) = 4)
    exact S2.set (t := q) (on := true) (by simpa [dV] using q2) (.inr (.inl rfl))
  · obtain ⟨t, ht1', ht2⟩ := D.held (by omega)
    rw [cE] at ht1'
    rw [pA k7]
    simp only [ht1', Int.toNat_natCast]
    exact hS.set ht2 (.inr (.inr rfl))
  · obtain ⟨t, ht1', ht2⟩ := D.held (by omega)
    rw [cE] at ht1'
    rw [pB k8]
    simp only [ht1', Int.toNat_natCast]
    exact hS.set ht2 (.inr (.inr rfl))
end
section
variable {c:Nat} {H:aj}
def mf (a b:Int):Int:=IntKind.i64.wrap (BitVec.ofInt 64 a &&& ~~~(BitVec.ofInt 64 b)).toNat
@[simp] theorem TZ {K:Ctx}{t:TypeId}{a b:Int}:gE K .andNot t (.pure (.int .i64 a)) (.pure (.int .i64 b))=some (.int .i64 (mf a b)):=by
 simp only [gE,oZ,mf];rfl
theorem JX: ∀q:Fin 16,∀b∈[(2:Int),4],(XF .i64 ((q.1:Nat):Int) b==b)=((IntKind.i64.wrap (((q.1:Nat):Int).tdiv b)).tmod 2==1):=by decide+kernel
def aU (r:aC)(s:az):List PV:=[.int .i64 r.wide, .int .i64 r.deep, .slice (r.ah.map aS.row), .slice (r.aa.map aY.row), .slice (r.seen.map aE), .slice (r.aP.map aE), .slice (r.ai.map ak.row), .slice (s.ah.map aE), .slice (s.aq.map aF.row), .slice (s.aa.map bm.row)]
theorem bp (a:ak):a.row=[.int .i64 a.bc, .int .i64 a.aQ, .int .i64 a.kind, .int .i64 a.hand, .int .i64 a.bh, .int .i64 a.cell, .int .i64 a.other, .int .i64 a.cY, .int .i64 a.jV]:=rfl
theorem BX {r:aC}{s:az}{w:Nat}{a:ak}(hw:w<s.aq.length)(h1:a.aQ=w)(h2:a.hand=0∨a.hand=1)(hH:0<H.length):
  bF KC (aG KC) 154 [.pure (.agg (aU r s)), .pure (.agg a.row)] c H=some (.pure (.int .i64 (aX s.aq w a.hand)),H):=by
 refine aM (aH KC au Tryz.func154 rfl rfl OD (by simp) hH ?_);rw [bp];unfold aU aX;rw [bf hw];rcases h2 with h2|h2
 ·simp [h1,h2,hw,aF.row,ae]
 ·simp [h1,h2,hw,aF.row,ae]
theorem wH {r:aC}{s:az}{w:Nat}{a:ak}(hw:w<s.aq.length)(h1:a.aQ=w)(h2:a.hand=0∨a.hand=1)(hH:0<H.length):
  bF KC (aG KC) 153 [.pure (.agg (aU r s)), .pure (.agg a.row)] c H=some (.pure (.int .i64 (aX s.aq w (1-a.hand))),H):=by
 refine aM (aH KC au Tryz.func153 rfl rfl OC (by simp) hH ?_);rw [bp];unfold aU aX;rw [bf hw];have w0:IntKind.i64.wrap (1-0)=1:=rfl;have w1:IntKind.i64.wrap (1-1)=0:=rfl;rcases h2 with h2|h2
 ·simp [h1,h2,hw,aF.row,ae,w0]
 ·simp [h1,h2,hw,aF.row,ae,w1]
theorem JY {r:aC}{s:az}{t:Nat}{b:Int}(ht:t<s.aa.length)(hs:0≤(s.aa.getD t aV).state∧(s.aa.getD t aV).state<16)(hb:b=2∨b=4)(hH:0<H.length):
  bF KC (aG KC) 157 [.pure (.agg (aU r s)), .pure (.int .i64 t), .pure (.int .i64 b)] c H=some (.pure (.bool (fk s.aa t b)),H):=by
 refine aM (aH KC au Tryz.func157 rfl rfl OH (by simp) hH ?_);have hd:=iX s.aa t b;simp only [Int.toNat_natCast,bf ht]at hd hs;obtain⟨q,hq⟩:=Int.eq_ofNat_of_zero_le hs.1;have e:=JX ⟨q,by omega⟩ b (by simp;exact hb);simp only [←hq]at e;have h0:decide ((0:Int)≤t)=true:=(by simp);rw [h0,Bool.true_and,←e]at hd;unfold aU;simp [ht,bm.row,ae,hd]
theorem BZ (x:Int):(x=0∧x*x=0)∨(x=1∧x*x=1)∨(x= -1∧x*x=1)∨((x≠0∧x≠1∧x≠ -1)∧4≤x*x):=by
 by_cases h0:x=0
 ·subst h0;exact .inl ⟨rfl,rfl⟩
 by_cases h1:x=1
 ·subst h1;exact .inr (.inl ⟨rfl,rfl⟩)
 by_cases h2:x= -1
 ·subst h2;exact .inr (.inr (.inl ⟨rfl,rfl⟩))
 refine .inr (.inr (.inr ⟨⟨h0,h1,h2⟩, ?_⟩));rw [←Int.natAbs_mul_self];have:2≤x.natAbs:=(by omega);have:=Nat.mul_le_mul this this;omega
theorem T0 {x:Int}{n:Nat}(h1: -(n:Int)≤x)(h2:x≤n):0≤x*x∧x*x≤((n*n:Nat):Int):=by
 rw [←Int.natAbs_mul_self];have:x.natAbs≤n:=(by omega);have:=Nat.mul_le_mul this this;omega
theorem Px {w a b:Int}(hw:1≤w)(hw6:w≤1000)(ha:0≤a)(ha2:a<1000000)(hb:0≤b)(hb2:b<1000000):
  (IntKind.i64.wrap (IntKind.i64.wrap (IntKind.i64.wrap (a.tmod w-b.tmod w)*IntKind.i64.wrap (a.tmod w-b.tmod w))+IntKind.i64.wrap (IntKind.i64.wrap (IntKind.i64.wrap (a.tdiv w)-IntKind.i64.wrap (b.tdiv w))*IntKind.i64.wrap (IntKind.i64.wrap (a.tdiv w)-IntKind.i64.wrap (b.tdiv w))))==1)=kM w a b:=by
 rw [yL];have h1:0≤a.tmod w:=Int.tmod_nonneg _ ha;have h2:a.tmod w<w:=Int.tmod_lt_of_pos _ (by omega);have h3:0≤b.tmod w:=Int.tmod_nonneg _ hb;have h4:b.tmod w<w:=Int.tmod_lt_of_pos _ (by omega);have h5:0≤a.tdiv w:=Int.tdiv_nonneg ha (by omega);have h6:a.tdiv w≤a:=Int.tdiv_le_self _ ha;have h7:0≤b.tdiv w:=Int.tdiv_nonneg hb (by omega);have h8:b.tdiv w≤b:=Int.tdiv_le_self _ hb;rw [cU (x:=a.tmod w-b.tmod w) (by omega) (by omega),cU (x:=a.tdiv w) (by omega) (by omega),cU (x:=b.tdiv w) (by omega) (by omega),cU (x:=a.tdiv w-b.tdiv w) (by omega) (by omega)];have hx1: -(1000:Int)≤a.tmod w-b.tmod w:=(by omega);have hx2:a.tmod w-b.tmod w≤1000:=(by omega);have hy1: -(1000000:Int)≤a.tdiv w-b.tdiv w:=(by omega);have hy2:a.tdiv w-b.tdiv w≤1000000:=(by omega);generalize a.tmod w-b.tmod w=x at hx1 hx2⊢;generalize a.tdiv w-b.tdiv w=y at hy1 hy2⊢;have qx:=T0 (n:=1000) hx1 hx2;have qy:=T0 (n:=1000000) hy1 hy2;rw [cU (x:=x*x) (by omega) (by omega),cU (x:=y*y) (by omega) (by omega),cU (x:=x*x+y*y) (by omega) (by omega)];have cx:=BZ x;have cy:=BZ y;rw [Bool.eq_iff_iff];simp only [Bool.or_eq_true,Bool.and_eq_true,beq_iff_eq];omega
theorem Hj {w d a b:Int}{x1 x2 x3 x4 x5:PV}(hw:1≤w)(hw6:w≤1000)(ha:0≤a)(ha2:a<1000000)(hb:0≤b)(hb2:b<1000000)(hH:0<H.length):
  bF KC (aG KC) 155 [.pure (.agg [.int .i64 w, .int .i64 d,x1,x2,x3,x4,x5]), .pure (.int .i64 a), .pure (.int .i64 b)] c H=some (.pure (.bool (kM w a b)),H):=by
 refine aM (aH KC au Tryz.func155 rfl rfl OE (by simp) hH ?_);have e:=Px hw hw6 ha ha2 hb hb2;have w0: ¬w=0:=(by omega);simp [w0,ae];exact e
theorem B6 {w d a b:Int}{x1 x2 x3 x4 x5:PV}(hw:1≤w)(hw6:w≤1000)(ha:0≤a)(ha2:a<1000000)(hb:0≤b)(hb2:b<1000000)(hH:0<H.length):
  aL KC (aG KC) 155 [.pure (.agg [.int .i64 w, .int .i64 d,x1,x2,x3,x4,x5]), .pure (.int .i64 a), .pure (.int .i64 b)] c H=some (.pure (.bool (kM w a b)),H):=
 dp rfl rfl rfl rfl rfl hH fun H hH=>Hj hw hw6 ha ha2 hb hb2 hH
noncomputable def JZ:List Int→Int→Int:=mI fun l x=>pC (fun j=>l.getD j 0==x) l.length 0
theorem wI (l:List Int)(x:Int):JZ l x=pC (fun j=>l.getD j 0==x) l.length 0:=by rw [JZ,cO]
theorem DT (l:List Int)(x:Int)(hn:l.length≤1000000)(Q:GX→bN→Prop)(hH:0<H.length): ∀k i:Nat,i+k=l.length→
  (pC (fun j=>l.getD j 0==x) k i= -1→Q (.exit 0) ⟨[(4,aN)],H,19⟩)→(0≤pC (fun j=>l.getD j 0==x) k i→Q .ret ⟨[(4, .pure (.int .i64 (pC (fun j=>l.getD j 0==x) k i)))],H,19⟩)→
  fM KC au 131 (lp Tryz.f131 0) [0,1,7,8] [4] Q [(0, .pure (.slice (l.map aE))),(1, .pure (.int .i64 x)),(7, .pure (.int .i64 l.length)),(8, .pure (.int .i64 i))] H 19:=by
 intro k
 induction k with
 |zero=>
  intro i hi h1 h2;apply ax;conv=>arg 4;whnf
  have: ¬i<l.length:=(by omega);simp [this,hH];exact h1 rfl
 |succ k ih=>
  intro i hi h1 h2;have hia:i<l.length:=(by omega);have hw:=cU (x:=(i:Int)+1) (by omega) (by omega);have ih':=ih (i+1) (by omega);have hg:l.getD i 0=l[i]:=bf hia;unfold pC at h1 h2;simp only [hg]at h1 h2;apply ax;conv=>arg 4;whnf
  by_cases he:x=l[i]
  ·have he2:(l[i]==x)=true:=(by simp [he]);simp only [he2,if_true]at h1 h2;simp [hia,hH,aE,he];exact h2 (by omega)
  ·have he':(x==l[i])=false:=(by simpa using he);have he2: ¬(l[i]==x)=true:=(by simp;exact fun e=>he e.symm);rw [if_neg he2]at h1 h2;simp [hia,hH,aE,he',hw];simpa [aE]using ih' h1 h2
theorem sB (l:List Int)(x:Int)(hn:l.length≤1000000)(hH:0<H.length):aL KC (aG KC) 131 [.pure (.slice (l.map aE)), .pure (.int .i64 x)] c H=some (.pure (.int .i64 (JZ l x)),H):=by
 refine dp rfl rfl rfl rfl rfl hH fun H hH=> ?_;refine aM (aH KC au Tryz.func131 rfl rfl Og (by simp) hH ?_);have hd:=wI l x;simp;refine DT (H:=[]::H) l x hn _ (by simp) l.length 0 (by omega) (fun h=> ?_) (fun h=> ?_)
 ·rw [←hd]at h;simp [h,ae]
 ·rw [←hd];simp [ae]
theorem oG (l:List Int)(x:Int)(hn:l.length≤1000000)(hH:0<H.length):aL KC (aG KC) 115 [.pure (.slice (l.map aE)), .pure (.int .i64 x)] c H=some (.pure (.bool (l.contains x)),H):=by
 refine dp rfl rfl rfl rfl rfl hH fun H hH=> ?_;refine aM (aH KC au Tryz.func115 rfl rfl NY (by simp) hH ?_);have I:=fun c (H:aj) (hH:0<H.length)=>sB (c:=c) (H:=H) l x hn hH;have e:decide (0≤JZ l x)=l.contains x:=by
  rw [wI,Bool.eq_iff_iff,decide_eq_true_eq,pD,List.contains_iff_mem];constructor
  ·rintro⟨j,_,h2,h3⟩;have hj:j<l.length:=(by omega);rw [bf hj]at h3;have:l[j]=x:=(by simpa using h3);exact this▸List.getElem_mem hj
  ·intro h;obtain⟨j,hj,rfl⟩:=List.getElem_of_mem h;exact⟨j,by omega,by omega,by rw [bf hj];simp⟩
 simp only [List.contains_eq_mem]at e;simp [I,ae];simpa using e
theorem B7 {r:aC}{s:az}{w:Nat}(hw:w<s.aq.length)(hH:0<H.length):
  bF KC (aG KC) 156 [.pure (.agg (aU r s)), .pure (.int .i64 w)] c H=some (.pure (.int .i64 (eC s.aq w)),H):=by
 refine aM (aH KC au Tryz.func156 rfl rfl OG (by simp) hH ?_);have I:=fun c (H:aj) (hH:0<H.length)=>sB (c:=c) (H:=H) [s.aq[w].l,s.aq[w].r] (-1) (by simp) hH;have e:JZ [s.aq[w].l,s.aq[w].r] (-1)=eC s.aq w:=by
  rw [wI];unfold eC;rw [bf hw];simp [pC]
 rw [e]at I;simp [aE]at I;have gs: ∀a b:PV,kC KC 84 (.bZ [a,b]) none none none=some (.pure (.slice [[a],[b]])):=fun a b=>by
  have t53:vp Tryz.prog 84=some (2,3):=(by kernel_rfl);unfold kC;simp [chunks,t53]
 unfold aU;simp [hw,aF.row,gs,I,ae]
end
section
variable {c:Nat} {H:aj}
structure WB (r:aC):Prop where
 w1:1≤r.wide
 w6:r.wide≤1000
 n6:r.wide*r.deep<1000000
 pl:r.ah.length≤1000000
 tl:r.aa.length≤1000000
section
variable {r:aC} {s:az} {w:Nat} {a:ak}
theorem mg (hS:He r s)(hA:AB r w a)(hH:0<H.length):aL KC (aG KC) 154 [.pure (.agg (aU r s)), .pure (.agg a.row)] c H=some (.pure (.int .i64 (aX s.aq w a.hand)),H):=
 dp rfl rfl rfl rfl rfl hH fun H hH=>BX (by rw [hS.hl];exact hA.wl) hA.aQ hA.hand hH
theorem tU (hS:He r s)(hA:AB r w a)(hH:0<H.length):aL KC (aG KC) 153 [.pure (.agg (aU r s)), .pure (.agg a.row)] c H=some (.pure (.int .i64 (aX s.aq w (1-a.hand))),H):=
 dp rfl rfl rfl rfl rfl hH fun H hH=>wH (by rw [hS.hl];exact hA.wl) hA.aQ hA.hand hH
theorem wJ (hS:gz r s){t:Nat}{b:Int}(ht:t<s.aa.length)(hb:b=2∨b=4)(hH:0<H.length):aL KC (aG KC) 157 [.pure (.agg (aU r s)), .pure (.int .i64 t), .pure (.int .i64 b)] c H=some (.pure (.bool (fk s.aa t b)),H):=
 dp rfl rfl rfl rfl rfl hH fun H hH=>JY ht (hS.st t ht) hb hH
theorem Py {o:Nat}(ho:o<s.aq.length)(hH:0<H.length):aL KC (aG KC) 156 [.pure (.agg (aU r s)), .pure (.int .i64 o)] c H=some (.pure (.int .i64 (eC s.aq o)),H):=
 dp rfl rfl rfl rfl rfl hH fun H hH=>B7 ho hH
theorem DU (hS:gz r s)(hW:WB r)(hA:AB r w a)(hk:a.kind=1)(hH:0<H.length):
  aL KC (aG KC) 135 [.pure (.agg (aU r s)), .pure (.agg a.row)] c H=some (.pure (.bool (bW r s w a)),H):=by
 refine dp rfl rfl rfl rfl rfl hH fun H hH=> ?_;refine aM (aH KC au Tryz.func135 rfl rfl Ok (by simp) hH ?_);have hwp:w<s.ah.length:=(by rw [hS.pl];exact hA.wl);have C1:=cell_of hS hA.wl;have C2:=hA.step hk;have n6:=hW.n6;have hd:=Ad (r:=r) (s:=s) (w:=w) hk;rw [bf hwp]at hd C1;have N:=fun c (H:aj) (hH:0<H.length)=>B6 (c:=c) (H:=H) (w:=r.wide) (d:=r.deep) (a:=s.ah[w]) (b:=a.cell) (x1:= .slice (r.ah.map aS.row)) (x2:= .slice (r.aa.map aY.row)) (x3:= .slice (r.seen.map aE)) (x4:= .slice (r.aP.map aE)) (x5:= .slice (r.ai.map ak.row)) hW.w1 hW.w6 C1.1 (by omega) C2.1 (by omega) hH;have CT:=fun c (H:aj) (hH:0<H.length)=>oG (c:=c) (H:=H) s.ah a.cell (by rw [hS.pl];exact hW.pl) hH;rw [bp];unfold aU
 cases hn:kM r.wide s.ah[w] a.cell with
 |false=>
  simp [hn]at hd;simp [hA.aQ,hwp,aE,N,hn,ae,hd]
 |true=>
  rw [hn,Bool.and_true]at hd
  cases hc:s.ah.contains a.cell with
  |false=>
   rw [hc]at hd CT;simp [hA.aQ,hwp,aE,N,hn,CT,ae,hd]
  |true=>
   rw [hc]at hd CT;simp [hA.aQ,hwp,aE,N,hn,CT,ae,hd]
theorem DV (hS:gz r s)(hA:AB r w a)(hk:a.kind=2)(hH:0<H.length):
  aL KC (aG KC) 137 [.pure (.agg (aU r s)), .pure (.agg a.row)] c H=some (.pure (.bool (bW r s w a)),H):=by
 refine dp rfl rfl rfl rfl rfl hH fun H hH=> ?_;refine aM (aH KC au Tryz.func137 rfl rfl Ol (by simp) hH ?_);have hwp:w<s.ah.length:=(by rw [hS.pl];exact hA.wl);obtain⟨t,ht,htl⟩:=hA.take hk;have htl':t<s.aa.length:=(by rw [hS.tl];exact htl);have R:=iz hS.toHe (w:=w) (hand:=a.hand) hA.wl;have hd:=DR (r:=r) (s:=s) (w:=w) hk;rw [bf hwp,ht,Int.toNat_natCast,bf htl']at hd;have E:=fun c (H:aj) (hH:0<H.length)=>mg (c:=c) (H:=H) hS.toHe hA hH;rw [bp]at E⊢;unfold aU at E⊢;by_cases h0:aX s.aq w a.hand<0
 ·have h1:aX s.aq w a.hand= -1:=(by omega);rw [h1]at hd E;simp at hd;simp [hA.aQ,ht]at E;simp [hA.aQ,hwp,aE,E,bm.row,ht,htl',ae,hd]
 ·have h1: ¬aX s.aq w a.hand= -1:=(by omega);have h1':(aX s.aq w a.hand== -1)=false:=(by simpa using h1);rw [h1',Bool.false_and]at hd;simp [hA.aQ,ht]at E;simp [hA.aQ,ht,E,h0,ae,hd]
theorem Hk (hS:gz r s)(hA:AB r w a)(hk:a.kind=3)(hH:0<H.length):
  aL KC (aG KC) 139 [.pure (.agg (aU r s)), .pure (.agg a.row)] c H=some (.pure (.bool (bW r s w a)),H):=by
 refine dp rfl rfl rfl rfl rfl hH fun H hH=> ?_;refine aM (aH KC au Tryz.func139 rfl rfl On (by simp) hH ?_);have hd:=Ae (r:=r) (s:=s) (w:=w) hk;have E:=fun c (H:aj) (hH:0<H.length)=>mg (c:=c) (H:=H) hS.toHe hA hH;rw [bp]at E⊢;unfold aU at E⊢;simp [E,ae,hd]
theorem DW (hS:gz r s)(hW:WB r)(hA:AB r w a)(hk:a.kind=4)(hH:0<H.length):
  aL KC (aG KC) 141 [.pure (.agg (aU r s)), .pure (.agg a.row)] c H=some (.pure (.bool (bW r s w a)),H):=by
 refine dp rfl rfl rfl rfl rfl hH fun H hH=> ?_;refine aM (aH KC au Tryz.func141 rfl rfl Oq (by simp) hH ?_);have hwp:w<s.ah.length:=(by rw [hS.pl];exact hA.wl);obtain⟨o,ho,hol,_⟩:=hA.sA hk;have hop:o<s.ah.length:=(by rw [hS.pl];exact hol);have hoh:o<s.aq.length:=(by rw [hS.hl];exact hol);have C1:=cell_of hS hA.wl;have C2:=cell_of hS hol;have n6:=hW.n6;have hd:=Af (r:=r) (s:=s) (w:=w) hk;rw [bf hwp,ho,Int.toNat_natCast,bf hop]at hd;rw [bf hwp]at C1;rw [bf hop]at C2;have N:=fun c (H:aj) (hH:0<H.length)=>B6 (c:=c) (H:=H) (w:=r.wide) (d:=r.deep) (a:=s.ah[w]) (b:=s.ah[o]) (x1:= .slice (r.ah.map aS.row)) (x2:= .slice (r.aa.map aY.row)) (x3:= .slice (r.seen.map aE)) (x4:= .slice (r.aP.map aE)) (x5:= .slice (r.ai.map ak.row)) hW.w1 hW.w6 C1.1 (by omega) C2.1 (by omega) hH;have E:=fun c (H:aj) (hH:0<H.length)=>mg (c:=c) (H:=H) hS.toHe hA hH;have G:=fun c (H:aj) (hH:0<H.length)=>Py (c:=c) (H:=H) (r:=r) hoh hH;rw [bp]at E⊢;unfold aU at E G⊢;by_cases h0:0≤aX s.aq w a.hand
 ·cases hn:kM r.wide s.ah[w] s.ah[o]with
  |false=>
   simp [hn]at hd;simp [hA.aQ,ho]at E;simp [hA.aQ,hwp,aE,E,h0,N,hn,ho,hop,ae,hd]
  |true=>
   simp [hn,h0]at hd;simp [hA.aQ,ho]at E;simp [hA.aQ,hwp,aE,E,h0,N,hn,ho,hop,G,ae,hd]
 ·simp [h0]at hd;simp [hA.aQ,ho]at E;simp [hA.aQ,ho,E,h0,ae,hd]
theorem DX (hS:gz r s)(hA:AB r w a)(hk:a.kind=5)(hH:0<H.length):
  aL KC (aG KC) 143 [.pure (.agg (aU r s)), .pure (.agg a.row)] c H=some (.pure (.bool (bW r s w a)),H):=by
 refine dp rfl rfl rfl rfl rfl hH fun H hH=> ?_;refine aM (aH KC au Tryz.func143 rfl rfl Ot (by simp) hH ?_);have R:=iz hS.toHe (w:=w) (hand:=a.hand) hA.wl;have hd:=Ah (r:=r) (s:=s) (w:=w) hk;have E:=fun c (H:aj) (hH:0<H.length)=>mg (c:=c) (H:=H) hS.toHe hA hH;have G:=fun c (H:aj) (hH:0<H.length)=>tU (c:=c) (H:=H) hS.toHe hA hH;rw [bp]at E G⊢;unfold aU at E G⊢;by_cases h0:0≤aX s.aq w a.hand
 ·obtain⟨t,ht⟩:=Int.eq_ofNat_of_zero_le h0;have htl:t<r.aa.length:=(by have:=hS.tl;omega);rw [ht,Int.toNat_natCast,bf htl]at hd;rw [ht]at E;have ht0:(0:Int)≤t:=by omega
  cases hc:r.aa[t].vT with
  |false=>
   simp [hc]at hd;simp [E,ht0,htl,aY.row,hc,ae,hd]
  |true=>
   simp [hc]at hd;simp [E,G,ht0,htl,aY.row,hc,ae,hd]
 ·simp [h0]at hd;simp [E,h0,ae,hd]
theorem DY (hS:gz r s)(hA:AB r w a)(hk:a.kind=6)(hH:0<H.length):
  aL KC (aG KC) 145 [.pure (.agg (aU r s)), .pure (.agg a.row)] c H=some (.pure (.bool (bW r s w a)),H):=by
 refine dp rfl rfl rfl rfl rfl hH fun H hH=> ?_;refine aM (aH KC au Tryz.func145 rfl rfl Ov (by simp) hH ?_);have R:=iz hS.toHe (w:=w) (hand:=a.hand) hA.wl;have R2:=iz hS.toHe (w:=w) (hand:=1-a.hand) hA.wl;have hd:=wF (r:=r) (s:=s) (w:=w) hk;have E:=fun c (H:aj) (hH:0<H.length)=>mg (c:=c) (H:=H) hS.toHe hA hH;have G:=fun c (H:aj) (hH:0<H.length)=>tU (c:=c) (H:=H) hS.toHe hA hH;have V:=fun(t:Nat) (ht:t<s.aa.length) (b:Int) (hb:b=2∨b=4) c (H:aj) (hH:0<H.length)=>wJ (c:=c) (H:=H) hS ht hb hH;rw [bp]at E G⊢;unfold aU at E G V⊢;have neg: ∀x b:Int,¬0≤x→fk s.aa x b=false:=fun x b h=>(by rw [iX,decide_eq_false h];rfl);by_cases h0:0≤aX s.aq w a.hand
 ·obtain⟨t,ht⟩:=Int.eq_ofNat_of_zero_le h0;have htl:t<s.aa.length:=(by omega);rw [ht]at hd E;have ht0:(0:Int)≤t:=(by omega);have V1:=V t htl 2 (.inl rfl);have V2:=V t htl 4 (.inr rfl);by_cases k0:0≤aX s.aq w (1-a.hand)
  ·obtain⟨u,hu⟩:=Int.eq_ofNat_of_zero_le k0;have hul:u<s.aa.length:=(by omega);rw [hu]at hd G;have hu0:(0:Int)≤u:=(by omega);have V3:=V u hul 2 (.inl rfl);have V4:=V u hul 4 (.inr rfl)
   cases x1:fk s.aa t 2 with
   |false=>
    rw [x1]at hd V1;simp at hd;simp [E,G,ht0,hu0,V1,ae,hd]
   |true=>
    cases x2:fk s.aa t 4 with
    |true=>
     rw [x1,x2]at hd;rw [x1]at V1;rw [x2]at V2;simp at hd;simp [E,G,ht0,hu0,V1,V2,ae,hd]
    |false=>
     cases x3:fk s.aa u 2 with
     |true=>
      rw [x1,x2,x3]at hd;rw [x1]at V1;rw [x2]at V2;rw [x3]at V3;simp at hd;simp [E,G,ht0,hu0,V1,V2,V3,ae,hd]
     |false=>
      rw [x1,x2,x3]at hd;rw [x1]at V1;rw [x2]at V2;rw [x3]at V3;simp at hd;simp [E,G,ht0,hu0,V1,V2,V3,V4,ae,hd]
  ·simp [k0]at hd;simp [E,G,ht0,k0,ae,hd]
 ·rw [neg _ _ h0]at hd;simp at hd;simp [E,h0,ae,hd]
theorem B8 (hS:gz r s)(hA:AB r w a)(hk:a.kind=7)(hH:0<H.length):
  aL KC (aG KC) 147 [.pure (.agg (aU r s)), .pure (.agg a.row)] c H=some (.pure (.bool (bW r s w a)),H):=by
 refine dp rfl rfl rfl rfl rfl hH fun H hH=> ?_;refine aM (aH KC au Tryz.func147 rfl rfl Ox (by simp) hH ?_);have R:=iz hS.toHe (w:=w) (hand:=a.hand) hA.wl;have hd:=Ai (r:=r) (s:=s) (w:=w) hk;have E:=fun c (H:aj) (hH:0<H.length)=>mg (c:=c) (H:=H) hS.toHe hA hH;have V:=fun(t:Nat) (ht:t<s.aa.length) c (H:aj) (hH:0<H.length)=>wJ (c:=c) (H:=H) hS ht (b:=4) (.inr rfl) hH;rw [bp]at E⊢;unfold aU at E V⊢;by_cases h0:0≤aX s.aq w a.hand
 ·obtain⟨t,ht⟩:=Int.eq_ofNat_of_zero_le h0;have htl:t<s.aa.length:=(by omega);rw [ht]at hd E;have ht0:(0:Int)≤t:=(by omega);have V1:=V t htl;simp at hd;simp [E,ht0,V1,ae,hd]
 ·simp [h0]at hd;simp [E,h0,ae,hd]
theorem DZ (hS:gz r s)(hA:AB r w a)(hk:a.kind=8)(hH:0<H.length):
  aL KC (aG KC) 149 [.pure (.agg (aU r s)), .pure (.agg a.row)] c H=some (.pure (.bool (bW r s w a)),H):=by
 refine dp rfl rfl rfl rfl rfl hH fun H hH=> ?_;refine aM (aH KC au Tryz.func149 rfl rfl Oz (by simp) hH ?_);have R:=iz hS.toHe (w:=w) (hand:=a.hand) hA.wl;have hd:=Aj (r:=r) (s:=s) (w:=w) hk;have E:=fun c (H:aj) (hH:0<H.length)=>mg (c:=c) (H:=H) hS.toHe hA hH;have V:=fun(t:Nat) (ht:t<s.aa.length) c (H:aj) (hH:0<H.length)=>wJ (c:=c) (H:=H) hS ht (b:=4) (.inr rfl) hH;rw [bp]at E⊢;unfold aU at E V⊢;by_cases h0:0≤aX s.aq w a.hand
 ·obtain⟨t,ht⟩:=Int.eq_ofNat_of_zero_le h0;have htl:t<s.aa.length:=(by omega);rw [ht]at hd E;have ht0:(0:Int)≤t:=(by omega);have V1:=V t htl;simp [E,ht0,V1,ae,hd]
 ·rw [iX,decide_eq_false h0]at hd;simp at hd;simp [E,h0,ae,hd]
theorem D0 {k:Nat}(hk:1≤k∧k≤8)(hH:0<H.length):aL KC (aG KC) 127 [.pure (.int .i64 k)] c H=some (.pure (.agg [.fn (135+2*(k-1)), .fn (136+2*(k-1))]),H):=by
 refine aM (aW KC au Tryz.func127 rfl rfl Ob rfl rfl rfl (by simp) hH ?_);obtain⟨k1,k8⟩:=hk
 match k,k1,k8 with
 |1,_,_=>simp [ae]
 |2,_,_=>simp [ae]
 |3,_,_=>simp [ae]
 |4,_,_=>simp [ae]
 |5,_,_=>simp [ae]
 |6,_,_=>simp [ae]
 |7,_,_=>simp [ae]
 |8,_,_=>simp [ae]
end
end
theorem B9 {l m:List Int}:gI l m=true↔ ∃x,x∈l∧x∈m:=by
 rw [pj];simp
theorem yd {l m:List Int}:gI l m=false↔ ∀x,x∈l→x∉m:=by
 rw [←Bool.not_eq_true,B9];constructor
 ·intro h x h1 h2;exact h ⟨x,h1,h2⟩
 ·rintro h ⟨x,h1,h2⟩;exact h x h1 h2
structure LG (t u:Touch):Prop where
 ap: ∀x,x∈t.ah→x∉u.ah
 bc: ∀x,x∈t.aa→x∉u.aa
 ac: ∀x,x∈t.cells→x∉u.cells
theorem LG.symm {t u:Touch}(h:LG t u):LG u t:=⟨fun x a b=>h.ap x b a,fun x a b=>h.bc x b a,fun x a b=>h.ac x b a⟩
theorem tV {t u:Touch}:qK t u=false↔LG t u:=by
 rw [yI];simp only [Bool.or_eq_false_iff,yd];exact⟨fun h=>⟨h.1,h.2.1,h.2.2⟩,fun h=>⟨h.ap,h.bc,h.ac⟩⟩
theorem Hl {s:az}{w v:Nat}{a b:ak}:rj s w a v b=true↔LG (bX s w a) (bX s v b):=by
 rw [wx,←tV];simp
theorem pE {s:az}{w:Nat}{a:ak}(h:a.kind=1):bX s w a=⟨[a.aQ],[],[s.ah.getD w 0,a.cell]⟩:=by rw [eV,if_pos h]
theorem wK {s:az}{w:Nat}{a:ak}(h:a.kind=2):bX s w a=⟨[a.aQ],[a.bh],[]⟩:=by rw [eV,if_neg (by omega),if_pos h]
theorem wL {s:az}{w:Nat}{a:ak}(h:a.kind=4):bX s w a=⟨[a.aQ,a.other],[aX s.aq w a.hand],[]⟩:=by rw [eV,if_neg (by omega),if_neg (by omega),if_pos h];rfl
theorem lh {s:az}{w:Nat}{a:ak}(h:a.kind=5∨a.kind=6):bX s w a=⟨[a.aQ],[aX s.aq w a.hand,aX s.aq w (1-a.hand)],[]⟩:=by rw [eV,if_neg (by omega),if_neg (by omega),if_neg (by omega),if_pos h];rfl
theorem gK {s:az}{w:Nat}{a:ak}(h:a.kind=3∨a.kind=7∨a.kind=8):bX s w a=⟨[a.aQ],[aX s.aq w a.hand],[]⟩:=by rw [eV,if_neg (by omega),if_neg (by omega),if_neg (by omega),if_neg (by omega)];rfl
theorem iI {α:Type}{l:List α}{i j:Nat}{x d:α}:(l.set i x).getD j d=if i=j∧j<l.length then x else l.getD j d:=by
 simp only [List.getD_eq_getElem?_getD,List.getElem?_set];by_cases h:i=j
 ·subst h;by_cases h2:i<l.length
  ·simp [h2]
  ·simp [h2]
 ·simp [h]
theorem ie {ts:List bm}{t u:Nat}{bit:Int}{on:Bool}:(dJ ts t bit on).getD u aV=if u=t∧u<ts.length then (dJ ts t bit on).getD t aV else ts.getD u aV:=by
 rw [jC];by_cases h:fk ts t bit=on
 ·rw [if_pos h];split
  ·rename_i e;rw [e.1]
  ·rfl
 ·rw [if_neg h,iI,iI];by_cases e:u=t
  ·subst e;by_cases h2:u<ts.length<;>simp [h2]
  ·have: ¬t=u:=fun x=>e x.symm;simp [e,this]
theorem ji {ts us:List bm}{t:Nat}{b:Int}(h:us.getD t aV=ts.getD t aV):fk us t b=fk ts t b:=by
 rw [iX,iX];simp only [Int.toNat_natCast,h]
theorem nS {ts us:List bm}{t:Nat}{b:Int}{on:Bool}(hl:us.length=ts.length)(h:us.getD t aV=ts.getD t aV):(dJ us t b on).getD t aV=(dJ ts t b on).getD t aV:=by
 rw [jC,jC,ji h];split
 ·exact h
 ·rw [iI,iI,h,hl]
structure Ag (s s':az)(P T:List Int):Prop where
 pl:s'.ah.length=s.ah.length
 hl:s'.aq.length=s.aq.length
 tl:s'.aa.length=s.aa.length
 pp: ∀i:Nat,(i:Int)∈P→s'.ah.getD i 0=s.ah.getD i 0
 ph: ∀i:Nat,(i:Int)∈P→s'.aq.getD i bH=s.aq.getD i bH
 tt: ∀i:Nat,(i:Int)∈T→s'.aa.getD i aV=s.aa.getD i aV
theorem ig {s:az}{w:Nat}{a:ak}(hk:1≤a.kind∧a.kind≤8):(cX s w a).ah.length=s.ah.length∧(cX s w a).aq.length=s.aq.length∧(cX s w a).aa.length=s.aa.length:=by
 rcases nR hk with k|k|k|k|k|k|k|k
 ·rw [kq k];simp
 ·rw [pq k];simp [kb]
 ·rw [mV k];simp [kb]
 ·rw [pt k];simp [kb]
 ·rw [py k];simp [dV]
 ·rw [pz k];simp [dV]
 ·rw [pA k];simp [dV]
 ·rw [pB k];simp [dV]
theorem Hn {s:az}{w:Nat}{a:ak}(D:DS s w a):
  (∀i:Nat,(i:Int)∉(bX s w a).ah→(cX s w a).ah.getD i 0=s.ah.getD i 0∧(cX s w a).aq.getD i bH=s.aq.getD i bH)∧
  (∀i:Nat,(i:Int)∉(bX s w a).aa→(cX s w a).aa.getD i aV=s.aa.getD i aV):=by
 have hw:=D.aQ;have hh:=D.hh;have ne: ∀i:Nat,¬(i:Int)=a.aQ→ ¬i=w:=fun i h e=>h (by rw [hw,e]);have ne': ∀i:Nat,¬(i:Int)=a.aQ→ ¬w=i:=fun i h e=>h (by rw [hw,e]);rcases nR D.kind with k|k|k|k|k|k|k|k
 ·rw [kq k,pE k];refine⟨fun i hi=> ?_,fun i hi=>rfl⟩;simp only [List.mem_singleton]at hi;exact⟨by show (s.ah.set w a.cell).getD i 0=_;rw [iI,if_neg (fun h=>ne' i hi h.1)],rfl⟩
 ·obtain⟨t,e,_⟩:=D.take k;rw [pq k,wK k];refine⟨fun i hi=> ?_,fun i hi=> ?_⟩
  ·simp only [List.mem_singleton]at hi;exact⟨rfl,by show (bA s.aq w a.hand a.bh).getD i bH=_;rw [fh i hh,if_neg (ne i hi)]⟩
  ·simp only [List.mem_singleton,e]at hi;show (s.aa.set a.bh.toNat _).getD i aV=_
   rw [iI,e,if_neg (fun h=>hi (by have:=h.1;omega))]
 ·obtain⟨t,e,_⟩:=D.held (by omega);rw [cE]at e;rw [mV k,gK (.inl k)];refine⟨fun i hi=> ?_,fun i hi=> ?_⟩
  ·simp only [List.mem_singleton]at hi;exact⟨rfl,by show (bA s.aq w a.hand (-1)).getD i bH=_;rw [fh i hh,if_neg (ne i hi)]⟩
  ·simp only [List.mem_singleton,e]at hi;show (s.aa.set (aX s.aq w a.hand).toNat _).getD i aV=_
   rw [iI,e,if_neg (fun h=>hi (by have:=h.1;omega))]
 ·obtain⟨o,e,o2,o3,o4⟩:=D.sA k;rw [pt k,wL k];refine⟨fun i hi=> ?_,fun i hi=>rfl⟩;simp only [List.mem_cons,List.not_mem_nil,or_false,not_or]at hi;refine⟨rfl, ?_⟩;show (bA (bA s.aq a.other.toNat _ _) w a.hand (-1)).getD i bH=_
  have: ¬i=a.other.toNat:=fun h=>hi.2 (by rw [h,e];simp);rw [fh i (by rw [kb];exact hh),if_neg (ne i hi.1),fh i (by rw [e];simpa using o2),if_neg this]
 ·obtain⟨t,e,_⟩:=D.yz (.inl k);rw [cE]at e;rw [py k,lh (.inl k)];refine⟨fun i hi=>⟨rfl,rfl⟩,fun i hi=> ?_⟩;simp only [List.mem_cons,List.not_mem_nil,or_false,not_or,e]at hi;show (dJ s.aa (aX s.aq w (1-a.hand)).toNat 1 true).getD i aV=_
  rw [ie,e,if_neg (fun h=>hi.2 (by rw [h.1];simp))]
 ·obtain⟨t,e,_⟩:=D.held (by omega);obtain⟨q,f,_⟩:=D.yz (.inr k);rw [cE]at e f;rw [pz k,lh (.inr k)];refine⟨fun i hi=>⟨rfl,rfl⟩,fun i hi=> ?_⟩;simp only [List.mem_cons,List.not_mem_nil,or_false,not_or,e,f]at hi;have h1: ¬i=t:=fun h=>hi.1 (by rw [h]);have h2: ¬i=q:=fun h=>hi.2 (by rw [h]);simp only [e,f,Int.toNat_natCast];rw [ie,if_neg (fun h=>h2 h.1),ie,if_neg (fun h=>h1 h.1),ie,if_neg (fun h=>h1 h.1)]
 ·obtain⟨t,e,_⟩:=D.held (by omega);rw [cE]at e;rw [pA k,gK (.inr (.inl k))];refine⟨fun i hi=>⟨rfl,rfl⟩,fun i hi=> ?_⟩;simp only [List.mem_singleton,e]at hi;have h1: ¬i=t:=fun h=>hi (by rw [h]);simp only [e,Int.toNat_natCast];rw [ie,if_neg (fun h=>h1 h.1)]
 ·obtain⟨t,e,_⟩:=D.held (by omega);rw [cE]at e;rw [pB k,gK (.inr (.inr k))];refine⟨fun i hi=>⟨rfl,rfl⟩,fun i hi=> ?_⟩;simp only [List.mem_singleton,e]at hi;have h1: ¬i=t:=fun h=>hi (by rw [h]);simp only [e,Int.toNat_natCast];rw [ie,if_neg (fun h=>h1 h.1)]
theorem cN {hs hs':List aF}{w:Nat}{hand:Int}(h:hs'.getD w bH=hs.getD w bH):aX hs' w hand=aX hs w hand:=by
 unfold aX;rw [h]
theorem sC {hs hs':List aF}{w:Nat}(h:hs'.getD w bH=hs.getD w bH):eC hs' w=eC hs w:=by
 unfold eC;rw [h]
theorem Ho {r:aC}{s s':az}{w:Nat}{a:ak}(D:DS s w a)(h:Ag s s' (bX s w a).ah (bX s w a).aa)(hw:w<r.ah.length):
  bX s' w a=bX s w a∧((a.kind=1→a.cell∉s'.ah)→bW r s w a=true→bW r s' w a=true)∧
  Ag (cX s w a) (cX s' w a) (bX s w a).ah (bX s w a).aa:=by
 have hwho:=D.aQ;have hh:=D.hh;have hh':w<s'.aq.length:=(by rw [h.hl];exact hh);have wp:(w:Int)∈(bX s w a).ah→s'.ah.getD w 0=s.ah.getD w 0∧s'.aq.getD w bH=s.aq.getD w bH:=fun x=>⟨h.pp w x,h.ph w x⟩;have L:=ig (s:=s) (w:=w) D.kind;have L':=ig (s:=s') (w:=w) D.kind;have e1:=L'.1.trans (h.pl.trans L.1.symm);have e2:=L'.2.1.trans (h.hl.trans L.2.1.symm);have e3:=L'.2.2.trans (h.tl.trans L.2.2.symm);rcases nR D.kind with k|k|k|k|k|k|k|k
 ·rw [pE (s:=s) k]at wp h⊢;obtain⟨wp,wh⟩:=wp (by simp [hwho]);refine⟨by rw [pE k,wp],fun hc hp=> ?_,⟨e1,e2,e3,fun i hi=> ?_,fun i hi=> ?_,fun i hi=> ?_⟩⟩
  ·rw [Ad k]at hp⊢;rw [wp];simp only [Bool.and_eq_true]at hp⊢;exact⟨by simpa using hc k,hp.2⟩
  ·rw [kq k,kq k];show (s'.ah.set w a.cell).getD i 0=(s.ah.set w a.cell).getD i 0
   rw [iI,iI,h.pl,h.pp i hi]
  ·rw [kq k,kq k];exact h.ph i hi
  ·rw [kq k,kq k];exact h.tt i hi
 ·obtain⟨t,e,_⟩:=D.take k;rw [wK (s:=s) k]at wp h⊢;obtain⟨wp,wh⟩:=wp (by simp [hwho]);have ht:s'.aa.getD t aV=s.aa.getD t aV:=h.tt t (by simp [e]);refine⟨by rw [wK k],fun hc hp=> ?_,⟨e1,e2,e3,fun i hi=> ?_,fun i hi=> ?_,fun i hi=> ?_⟩⟩
  ·rw [DR k,e,Int.toNat_natCast]at hp⊢;rw [wp,cN wh,ht];exact hp
  ·rw [pq k,pq k];exact h.pp i hi
  ·rw [pq k,pq k];show (bA s'.aq w a.hand a.bh).getD i bH=(bA s.aq w a.hand a.bh).getD i bH
   rw [fh i hh',fh i hh,wh,h.ph i hi]
  ·rw [pq k,pq k];show (s'.aa.set a.bh.toNat _).getD i aV=(s.aa.set a.bh.toNat _).getD i aV
   rw [iI,iI,h.tl,h.tt i hi,e,Int.toNat_natCast,ht]
 ·obtain⟨t,e,_⟩:=D.held (by omega);rw [cE]at e;rw [gK (s:=s) (.inl k)]at wp h⊢;obtain⟨wp,wh⟩:=wp (by simp [hwho]);have ht:s'.aa.getD t aV=s.aa.getD t aV:=h.tt t (by simp [e]);have e':aX s'.aq w a.hand=t:=(cN wh).trans e;refine⟨by rw [gK (.inl k),e,e'],fun hc hp=> ?_,⟨e1,e2,e3,fun i hi=> ?_,fun i hi=> ?_,fun i hi=> ?_⟩⟩
  ·rw [Ae k]at hp⊢;rw [cN wh];exact hp
  ·rw [mV k,mV k];exact h.pp i hi
  ·rw [mV k,mV k];show (bA s'.aq w a.hand (-1)).getD i bH=(bA s.aq w a.hand (-1)).getD i bH
   rw [fh i hh',fh i hh,wh,h.ph i hi]
  ·rw [mV k,mV k];show (s'.aa.set (aX s'.aq w a.hand).toNat _).getD i aV=(s.aa.set (aX s.aq w a.hand).toNat _).getD i aV
   rw [iI,iI,h.tl,h.tt i hi,e,e',Int.toNat_natCast,ht,wp]
 ·obtain⟨o,e,o2,o3,o4⟩:=D.sA k;rw [wL (s:=s) k]at wp h⊢;obtain⟨wp,wh⟩:=wp (by simp [hwho]);have op:s'.ah.getD o 0=s.ah.getD o 0:=h.pp o (by simp [e]);have oh:s'.aq.getD o bH=s.aq.getD o bH:=h.ph o (by simp [e]);refine⟨by rw [wL k,cN wh],fun hc hp=> ?_,⟨e1,e2,e3,fun i hi=> ?_,fun i hi=> ?_,fun i hi=> ?_⟩⟩
  ·rw [Af k,e,Int.toNat_natCast]at hp⊢;rw [cN wh,wp,op,sC oh];exact hp
  ·rw [pt k,pt k];exact h.pp i hi
  ·rw [pt k,pt k];simp only [e,Int.toNat_natCast];have o2':o<s'.aq.length:=(by rw [h.hl];exact o2);have a1:w<(bA s'.aq o (eC s'.aq o) (aX s'.aq w a.hand)).length:=(by rw [kb];exact hh');have a2:w<(bA s.aq o (eC s.aq o) (aX s.aq w a.hand)).length:=(by rw [kb];exact hh);rw [fh i a1,fh i a2,fh i o2',fh i o2,fh w o2',fh w o2,wh,oh,sC oh,cN wh,h.ph i hi]
  ·rw [pt k,pt k];exact h.tt i hi
 ·obtain⟨t,e,_⟩:=D.yz (.inl k);rw [cE]at e;rw [lh (s:=s) (.inl k)]at wp h⊢;obtain⟨wp,wh⟩:=wp (by simp [hwho]);have ht:s'.aa.getD t aV=s.aa.getD t aV:=h.tt t (by simp [e]);have e':aX s'.aq w (1-a.hand)=t:=(cN wh).trans e;refine⟨by rw [lh (.inl k),cN wh,e',e],fun hc hp=> ?_,⟨e1,e2,e3,fun i hi=> ?_,fun i hi=> ?_,fun i hi=> ?_⟩⟩
  ·rw [Ah k]at hp⊢;rw [cN wh,cN wh];exact hp
  ·rw [py k,py k];exact h.pp i hi
  ·rw [py k,py k];exact h.ph i hi
  ·rw [py k,py k];simp only [e,e',Int.toNat_natCast];rw [ie,ie (ts:=s.aa),h.tl,nS h.tl ht,h.tt i hi]
 ·obtain⟨t,e,_⟩:=D.held (by omega);obtain⟨q,f,_⟩:=D.yz (.inr k);rw [cE]at e f;rw [lh (s:=s) (.inr k)]at wp h⊢;obtain⟨wp,wh⟩:=wp (by simp [hwho]);have ht:s'.aa.getD t aV=s.aa.getD t aV:=h.tt t (by simp [e]);have hq:s'.aa.getD q aV=s.aa.getD q aV:=h.tt q (by simp [f]);have e':aX s'.aq w a.hand=t:=(cN wh).trans e;have f':aX s'.aq w (1-a.hand)=q:=(cN wh).trans f;refine⟨by rw [lh (.inr k),e,e',f,f'],fun hc hp=> ?_,⟨e1,e2,e3,fun i hi=> ?_,fun i hi=> ?_,fun i hi=> ?_⟩⟩
  ·rw [wF k,e,f]at hp;rw [wF k,e',f',ji ht,ji ht,ji hq,ji hq];exact hp
  ·rw [pz k,pz k];exact h.pp i hi
  ·rw [pz k,pz k];exact h.ph i hi
  ·rw [pz k,pz k];simp only [e,e',f,f',Int.toNat_natCast];have one: ∀(us ts:List bm),us.length=ts.length→ ∀(p:Nat) (b:Int) (on:Bool) (j:Nat),us.getD p aV=ts.getD p aV→us.getD j aV=ts.getD j aV→(dJ us p b on).getD j aV=(dJ ts p b on).getD j aV:=fun us ts hl p b on j hp hj=>by
    rw [ie,ie (ts:=ts),hl,nS hl hp,hj]
   have l1:(dJ s'.aa t 2 false).length=(dJ s.aa t 2 false).length:=(by simp only [dV,h.tl]);have l2:(dJ (dJ s'.aa t 2 false) t 1 false).length=(dJ (dJ s.aa t 2 false) t 1 false).length:=by simp only [dV,h.tl]
   have all: ∀j,s'.aa.getD j aV=s.aa.getD j aV→(dJ (dJ s'.aa t 2 false) t 1 false).getD j aV=(dJ (dJ s.aa t 2 false) t 1 false).getD j aV:=fun j hj=>
    one _ _ l1 t 1 false j (one _ _ h.tl t 2 false t ht ht) (one _ _ h.tl t 2 false j ht hj)
   exact one _ _ l2 q 2 true i (all q hq) (all i (h.tt i hi))
 ·obtain⟨t,e,_⟩:=D.held (by omega);rw [cE]at e;rw [gK (s:=s) (.inr (.inl k))]at wp h⊢;obtain⟨wp,wh⟩:=wp (by simp [hwho]);have ht:s'.aa.getD t aV=s.aa.getD t aV:=h.tt t (by simp [e]);have e':aX s'.aq w a.hand=t:=(cN wh).trans e;refine⟨by rw [gK (.inr (.inl k)),e',e],fun hc hp=> ?_,⟨e1,e2,e3,fun i hi=> ?_,fun i hi=> ?_,fun i hi=> ?_⟩⟩
  ·rw [Ai k,e]at hp;rw [Ai k,e',ji ht];exact hp
  ·rw [pA k,pA k];exact h.pp i hi
  ·rw [pA k,pA k];exact h.ph i hi
  ·rw [pA k,pA k];simp only [e,e',Int.toNat_natCast];rw [ie,ie (ts:=s.aa),h.tl,nS h.tl ht,h.tt i hi]
 ·obtain⟨t,e,_⟩:=D.held (by omega);rw [cE]at e;rw [gK (s:=s) (.inr (.inr k))]at wp h⊢;obtain⟨wp,wh⟩:=wp (by simp [hwho]);have ht:s'.aa.getD t aV=s.aa.getD t aV:=h.tt t (by simp [e]);have e':aX s'.aq w a.hand=t:=(cN wh).trans e;refine⟨by rw [gK (.inr (.inr k)),e',e],fun hc hp=> ?_,⟨e1,e2,e3,fun i hi=> ?_,fun i hi=> ?_,fun i hi=> ?_⟩⟩
  ·rw [Aj k,e]at hp;rw [Aj k,e',ji ht];exact hp
  ·rw [pB k,pB k];exact h.pp i hi
  ·rw [pB k,pB k];exact h.ph i hi
  ·rw [pB k,pB k];simp only [e,e',Int.toNat_natCast];rw [ie,ie (ts:=s.aa),h.tl,nS h.tl ht,h.tt i hi]
section
theorem wM {s:az}{w:Nat}{a:ak}(hk:1≤a.kind∧a.kind≤8)(h1:a.kind≠1):(cX s w a).ah=s.ah:=by
 rcases nR hk with k|k|k|k|k|k|k|k
 ·exact absurd k h1
 ·rw [pq k]
 ·rw [mV k]
 ·rw [pt k]
 ·rw [py k]
 ·rw [pz k]
 ·rw [pA k]
 ·rw [pB k]
theorem adY {s:az}{v:Nat}{b:ak}{t:Touch}(D:DS s v b)(h:LG t (bX s v b)):Ag s (cX s v b) t.ah t.aa:=by
 have L:=ig (s:=s) (w:=v) D.kind;have F:=Hn D;exact⟨L.1,L.2.1,L.2.2,fun i hi=>(F.1 i (h.ap _ hi)).1,fun i hi=>(F.1 i (h.ap _ hi)).2,fun i hi=>F.2 i (h.bc _ hi)⟩
section
variable {r:aC} {s:az} {w v:Nat} {a b:ak}
theorem yM (hS:gz r s)(hA:AB r w a)(hB:AB r v b)(pa:bW r s w a=true)(pb:bW r s v b=true)(h:LG (bX s w a) (bX s v b)):
  bX (cX s w a) v b=bX s v b∧bW r (cX s w a) v b=true∧Ag (cX s v b) (cX (cX s w a) v b) (bX s v b).ah (bX s v b).aa:=by
 have DA:=lH hS hA pa;have DB:=lH hS hB pb;obtain⟨l1,l2,l3⟩:=Ho (r:=r) DB (adY DA h.symm) hB.wl;refine⟨l1,l2 (fun k hin=> ?_) pb,l3⟩;rw [Ad k]at pb;simp at pb;by_cases k1:a.kind=1
 ·rw [kq k1]at hin;rcases List.mem_or_eq_of_mem_set hin with x|x
  ·exact pb.1 x
  ·rw [pE k1,pE k]at h;exact h.ac a.cell (by simp) (by simp [x])
 ·rw [wM hA.kind k1]at hin;exact pb.1 hin
end
noncomputable def mG (s:az)(g:List ak):az:=g.foldl (fun s a=>cX s a.aQ.toNat a) s
theorem Ak (s:az):mG s []=s:=rfl
theorem sD (s:az)(a:ak)(g:List ak):mG s (a::g)=mG (cX s a.aQ.toNat a) g:=rfl
theorem jj (s:az)(g h:List ak):mG s (g++h)=mG (mG s g) h:=List.foldl_append ..
noncomputable def tch (s:az)(a:ak):Touch:=bX s a.aQ.toNat a
structure qL (r:aC)(s:az)(g:List ak):Prop where
 ab: ∀a∈g,AB r a.aQ.toNat a∧bW r s a.aQ.toNat a=true
 ap:g.Pairwise fun a b=>LG (tch s a) (tch s b)
theorem qL.tail {r:aC}{s:az}{a:ak}{g:List ak}(hS:gz r s)(h:qL r s (a::g)):gz r (cX s a.aQ.toNat a)∧qL r (cX s a.aQ.toNat a) g:=by
 obtain⟨hA,pa⟩:=h.ab a (List.mem_cons_self ..);have hp:=List.pairwise_cons.1 h.ap;have one:=fun b (hb:b∈g)=>yM hS hA (h.ab b (List.mem_cons_of_mem _ hb)).1 pa (h.ab b (List.mem_cons_of_mem _ hb)).2 (hp.1 b hb);refine⟨hS.TY hA pa,⟨fun b hb=>⟨(h.ab b (List.mem_cons_of_mem _ hb)).1,(one b hb).2.1⟩, ?_⟩⟩;refine hp.2.imp_of_mem fun {x y} hx hy q=> ?_;unfold tch at q⊢;rw [(one x hx).1,(one y hy).1];exact q
theorem qL.snd {r:aC}: ∀{g:List ak} {s:az},gz r s→qL r s g→gz r (mG s g)
 | [],s,hS,_=>hS
 |a::g,s,hS,h=>by
  obtain⟨h1,h2⟩:=h.tail hS;show gz r (mG (cX s a.aQ.toNat a) g)
  exact qL.snd h1 h2
end
section
variable {c:Nat} {H:aj}
section
variable {r:aC} {s:az} {w:Nat} {a:ak}
theorem Al (hS:gz r s)(hW:WB r)(hA:AB r w a)(hH:0<H.length):
  aL KC (aG KC) 105 [.pure (.agg (aU r s)), .pure (.agg a.row)] c H=some (.pure (.bool (bW r s w a)),H):=by
 refine dp rfl rfl rfl rfl rfl hH fun H hH=> ?_;refine aM (aH KC au Tryz.func105 rfl rfl NO (by simp) hH ?_);have W:=fun(k:Nat) (hk:1≤k∧k≤8) c (H:aj) (hH:0<H.length)=>D0 (c:=c) (H:=H) hk hH;have W1:=W 1 (by omega);have W2:=W 2 (by omega);have W3:=W 3 (by omega);have W4:=W 4 (by omega);have W5:=W 5 (by omega);have W6:=W 6 (by omega);have W7:=W 7 (by omega);have W8:=W 8 (by omega);simp at W1 W2 W3 W4 W5 W6 W7 W8;rcases nR hA.kind with k|k|k|k|k|k|k|k
 ·have M:=fun c (H:aj) (hH:0<H.length)=>DU (c:=c) (H:=H) hS hW hA k hH;rw [bp,k]at M⊢;unfold aU at M⊢;simp [W1,M,ae]
 ·have M:=fun c (H:aj) (hH:0<H.length)=>DV (c:=c) (H:=H) hS hA k hH;rw [bp,k]at M⊢;unfold aU at M⊢;simp [W2,M,ae]
 ·have M:=fun c (H:aj) (hH:0<H.length)=>Hk (c:=c) (H:=H) hS hA k hH;rw [bp,k]at M⊢;unfold aU at M⊢;simp [W3,M,ae]
 ·have M:=fun c (H:aj) (hH:0<H.length)=>DW (c:=c) (H:=H) hS hW hA k hH;rw [bp,k]at M⊢;unfold aU at M⊢;simp [W4,M,ae]
 ·have M:=fun c (H:aj) (hH:0<H.length)=>DX (c:=c) (H:=H) hS hA k hH;rw [bp,k]at M⊢;unfold aU at M⊢;simp [W5,M,ae]
 ·have M:=fun c (H:aj) (hH:0<H.length)=>DY (c:=c) (H:=H) hS hA k hH;rw [bp,k]at M⊢;unfold aU at M⊢;simp [W6,M,ae]
 ·have M:=fun c (H:aj) (hH:0<H.length)=>B8 (c:=c) (H:=H) hS hA k hH;rw [bp,k]at M⊢;unfold aU at M⊢;simp [W7,M,ae]
 ·have M:=fun c (H:aj) (hH:0<H.length)=>DZ (c:=c) (H:=H) hS hA k hH;rw [bp,k]at M⊢;unfold aU at M⊢;simp [W8,M,ae]
def dW (s:az)(w:Nat)(a:ak):List (Int×Int):=
 if a.kind=1 then [(0,a.aQ),(2,s.ah.getD w 0),(2,a.cell)]
 else if a.kind=2 then [(0,a.aQ),(1,a.bh)]
 else if a.kind=4 then [(0,a.aQ),(0,a.other),(1,aX s.aq w a.hand)]
 else if a.kind=5∨a.kind=6 then [(0,a.aQ),(1,aX s.aq w (1-a.hand)),(1,aX s.aq w a.hand)]
 else [(0,a.aQ),(1,aX s.aq w a.hand)]
def dQ (x:Int×Int):List PV:=[.int .i64 x.1, .int .i64 x.2]
theorem uI (hS:gz r s)(hA:AB r w a)(hH:0<H.length):
  aL KC (aG KC) 134 [.pure (.agg (aU r s)), .pure (.agg a.row)] c H=some (.pure (.slice ((dW s w a).map dQ)),H):=by
 refine aM (aW KC au Tryz.func134 rfl rfl Oj rfl rfl rfl (by simp) hH ?_);have hwp:w<s.ah.length:=(by rw [hS.pl];exact hA.wl);have E:=fun c (H:aj) (hH:0<H.length)=>mg (c:=c) (H:=H) hS.toHe hA hH;have G:=fun c (H:aj) (hH:0<H.length)=>tU (c:=c) (H:=H) hS.toHe hA hH;have hnl: ¬H.length≤H.length-1:=(by omega);have hp:=bf (d:=0) hwp;unfold dW;rcases nR hA.kind with k|k|k|k|k|k|k|k
 ·rw [bp,k]at E G⊢;unfold aU at E G⊢;simp [hA.aQ]at E G;simp [hA.aQ,hwp,aE,E,G,dQ,hp,ae,hnl]
 ·rw [bp,k]at E G⊢;unfold aU at E G⊢;simp [hA.aQ]at E G;simp [hA.aQ,hwp,aE,E,G,dQ,hp,ae,hnl]
 ·rw [bp,k]at E G⊢;unfold aU at E G⊢;simp [hA.aQ]at E G;simp [hA.aQ,hwp,aE,E,G,dQ,hp,ae,hnl]
 ·rw [bp,k]at E G⊢;unfold aU at E G⊢;simp [hA.aQ]at E G;simp [hA.aQ,hwp,aE,E,G,dQ,hp,ae,hnl]
 ·rw [bp,k]at E G⊢;unfold aU at E G⊢;simp [hA.aQ]at E G;simp [hA.aQ,hwp,aE,E,G,dQ,hp,ae,hnl]
 ·rw [bp,k]at E G⊢;unfold aU at E G⊢;simp [hA.aQ]at E G;simp [hA.aQ,hwp,aE,E,G,dQ,hp,ae,hnl]
 ·rw [bp,k]at E G⊢;unfold aU at E G⊢;simp [hA.aQ]at E G;simp [hA.aQ,hwp,aE,E,G,dQ,hp,ae,hnl]
 ·rw [bp,k]at E G⊢;unfold aU at E G⊢;simp [hA.aQ]at E G;simp [hA.aQ,hwp,aE,E,G,dQ,hp,ae,hnl]
theorem ry {s:az}{w v:Nat}{a b:ak}:LG (bX s w a) (bX s v b)↔ ∀x∈dW s w a,x∉dW s v b:=by
 have mem: ∀(w:Nat) (a:ak) (x:Int×Int),x∈dW s w a↔(x.1=0∧x.2∈(bX s w a).ah)∨(x.1=1∧x.2∈(bX s w a).aa)∨(x.1=2∧x.2∈(bX s w a).cells):=fun w a x=>by
  obtain⟨p,q⟩:=x;unfold dW;rw [eV];simp only [cE]
  repeat' split
  all_goals simp only [List.mem_cons,List.not_mem_nil,or_false,Prod.mk.injEq]
  all_goals grind
 constructor
 ·intro h x hx hy;rw [mem]at hx hy;rcases hx with ⟨e,hx⟩|⟨e,hx⟩|⟨e,hx⟩
  ·rcases hy with ⟨_,hy⟩|⟨e',hy⟩|⟨e',hy⟩
   ·exact h.ap _ hx hy
   ·omega
   ·omega
  ·rcases hy with ⟨e',hy⟩|⟨_,hy⟩|⟨e',hy⟩
   ·omega
   ·exact h.bc _ hx hy
   ·omega
  ·rcases hy with ⟨e',hy⟩|⟨e',hy⟩|⟨_,hy⟩
   ·omega
   ·omega
   ·exact h.ac _ hx hy
 ·intro h;refine⟨fun x h1 h2=>h (0,x) ((mem _ _ _).2 (.inl ⟨rfl,h1⟩)) ((mem _ _ _).2 (.inl ⟨rfl,h2⟩)),fun x h1 h2=>h (1,x) ((mem _ _ _).2 (.inr (.inl ⟨rfl,h1⟩))) ((mem _ _ _).2 (.inr (.inl ⟨rfl,h2⟩))),fun x h1 h2=>h (2,x) ((mem _ _ _).2 (.inr (.inr ⟨rfl,h1⟩))) ((mem _ _ _).2 (.inr (.inr ⟨rfl,h2⟩)))⟩
end
end
end Go.Gh
