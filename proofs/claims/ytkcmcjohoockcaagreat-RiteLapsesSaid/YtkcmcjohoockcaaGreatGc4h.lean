/- Texts joined: the evaluator over ghost values, its soundness, the walks. Spaces struck and names made short by a program, for the size. -/
import Derived.Test.YtkcmcjohoockcaaGreatGc4g
namespace Go.Gh
open Go.Proofs
set_option linter.unusedVariables false
set_option linter.unusedSimpArgs false
set_option linter.unnecessarySimpa false
set_option maxRecDepth 100000
set_option maxHeartbeats 8000000
section
variable {c:Nat} {H:aj}
@[simp] theorem aan (x:Int):(aG x).length=1:=rfl
@[simp] theorem aao (x:aF):x.row.length=2:=rfl
@[simp] theorem aap (x:br):x.row.length=2:=rfl
theorem Td {n1 n2 n3:Nm} {v1 v2 v3:Nat} {s:ay} (h:mD H n1 n2 n3 v1 v2 v3 s) (p0:s.ah≠[]) (h0:s.ao≠[]) (t0:s.ae≠[]) (pl:s.ah.length≤1000000) (hl:s.ao.length≤1000000) (tl:s.ae.length≤1000000) (hH:0<H.length)
  (hf1:H.get (H.length-1,aq c 6)=none) (hf2:H.get (H.length-1,aq c 10)=none) (hf3:H.get (H.length-1,aq c 14)=none):
  aI KC (aC KC) 50 [kv n1 n2 n3 s] c H=some (kv (H.length-1,aq c 6) (H.length-1,aq c 10) (H.length-1,aq c 14) s,
   cr H (H.length-1,aq c 6) (H.length-1,aq c 10) (H.length-1,aq c 14) 0 0 0 s):=by
 refine aN (a8 KC au Tryz.func50 rfl rfl Ic rfl rfl rfl (by simp) hH ?_);have l1:=aj.bS h.g1;have l2:=aj.bS h.g2;have l3:=aj.bS h.g3;have d1: ¬n1.1=H.length:=(by omega);have d2: ¬n2.1=H.length:=(by omega);have d3: ¬n3.1=H.length:=(by omega);have b1:s.ah.length*8≤1099511627776:=(by omega);have b2:s.ao.length*16≤1099511627776:=(by omega);have b3:s.ae.length*16≤1099511627776:=(by omega);have kx:aq c 6≠aq c 10:=(by unfold aq;omega);have lR:aq c 6≠aq c 14:=(by unfold aq;omega);have kD:aq c 10≠aq c 14:=(by unfold aq;omega);have k1:(H.length-1,aq c 10)≠((H.length-1,aq c 6):Nm):=fun e=>kx (Prod.mk.inj e).2.symm;have k2:(H.length-1,aq c 14)≠((H.length-1,aq c 6):Nm):=fun e=>lR (Prod.mk.inj e).2.symm;have k3:(H.length-1,aq c 14)≠((H.length-1,aq c 10):Nm):=fun e=>kD (Prod.mk.inj e).2.symm;have g2: ∀b,(H.set (H.length-1,aq c 6) b).get (H.length-1,aq c 10)=none:=fun b=>(aj.aL b k1).trans hf2;have g3: ∀b b',((H.set (H.length-1,aq c 6) b).set (H.length-1,aq c 10) b').get (H.length-1,aq c 14)=none:=fun b b'=>(aj.aL b' k3).trans ((aj.aL b k2).trans hf3);have tp:List.take s.ah.length (s.ah.map aG)=s.ah.map aG:=List.take_of_length_le (by simp);have th:List.take s.ao.length (s.ao.map aF.row)=s.ao.map aF.row:=List.take_of_length_le (by simp);have tt:List.take s.ae.length (s.ae.map br.row)=s.ae.map br.row:=List.take_of_length_le (by simp);have hn: ¬H.length+1≤H.length:=(by omega);simp only [kv];simp [tp,th,tt,hn,d1,d2,d3,h.g1,h.g2,h.g3,h.e1,h.e2,h.e3,p0,h0,t0,b1,b2,b3];simp [bO,refs,dE,cV,b8,dc,df,dedup,cA,bV,ry,hf1,g2,g3,sK,jj,gJ,cr]
end
section
variable {c:Nat} {H:aj}
def rz (l:List Int)(i j:Nat):List Int:=((l++[(i:Int)]).set i ((l++[(i:Int)]).getD j 0)).set j i
theorem Fv (l:List Int)(i j:Nat):(rz l i j).length=l.length+1:=by simp [rz]
noncomputable def iW:Nat→Nat→List Int→Int→List Int×Int
 |0,_,l,wd=>(l,wd)
 |k+1,i,l,wd=>iW k (i+1) (rz l i (kZ wd (i+1:Nat)).1.toNat) (kZ wd (i+1:Nat)).2
theorem set_perm (l:List Int)(j:Nat)(hj:j<l.length)(x:Int):(l.set j x++[l[j]]).Perm (l++[x]):=by
 have e:l=l.take j++l[j]::l.drop (j+1):=(by rw [←List.drop_eq_getElem_cons hj,List.take_append_drop]);have e2:l.set j x=l.take j++x::l.drop (j+1):=List.set_eq_take_append_cons_drop .. |>.trans (by simp [hj]);rw [e2];conv=>rhs;rw [e]
 simp only [List.append_assoc];refine List.Perm.append_left _ ?_;simp only [List.cons_append];refine(List.Perm.cons x List.perm_append_comm).trans ?_;simp only [List.singleton_append];refine(List.Perm.swap ..).trans ?_;refine List.Perm.cons _ ?_;exact(List.perm_append_comm (l₁:=[x]) (l₂:=l.drop (j+1)))
theorem Cy (l:List Int)(i j:Nat)(hl:l.length=i)(hj:j≤i):(rz l i j).Perm (l++[(i:Int)]):=by
 subst hl;unfold rz;by_cases e:j=l.length
 ·subst e;simp
 ·have hj':j<l.length:=(by omega);have h1:(l++[(l.length:Int)]).getD j 0=l[j]:=(by simp [List.getD_eq_getElem?_getD,List.getElem?_append_left hj',hj']);rw [h1];have h2:(l++[(l.length:Int)]).set l.length l[j]=l++[l[j]]:=(by simp);rw [h2];have h3:(l++[l[j]]).set j (l.length:Int)=l.set j l.length++[l[j]]:=(by rw [List.set_append_left _ _ hj']);rw [h3];exact set_perm l j hj' _
theorem tH: ∀(k i:Nat) (l:List Int) (wd:Int),l.Perm ((List.range i).map Int.ofNat)→i+k≤1000000→(iW k i l wd).1.Perm ((List.range (i+k)).map Int.ofNat)
 |0,i,l,wd,h,_=>by simpa [iW]using h
 |k+1,i,l,wd,h,hk=>by
  have hr:=jT wd ((i+1:Nat):Int) (by omega);have hl:l.length=i:=(by simpa using h.length_eq);have e:i+(k+1)=i+1+k:=(by omega);rw [iW,e];refine tH k (i+1) _ _ ((Cy l i _ hl (by omega)).trans ?_) (by omega);rw [List.range_succ,List.map_append];exact h.append_right _
def Cz (l:List Int):Fr:=[(20, .arr 1 (l.map aG) l.length false)]
theorem CA {nm:Nm}(hlt:nm.1<H.length)(n:Nat)(hn:n≤1000000)(Q:GX→bP→Prop): ∀(k i:Nat) (l:List Int) (wd:Int),i+k=n→l.length=i→0<i→
  Q (.exit 0) ⟨[(5, .aW (H.length,20) 1 (iW k i l wd).1.length 0 (iW k i l wd).1.length)],Cz (iW k i l wd).1::H.set nm (bL (iW k i l wd).2),36⟩→
  fL KC au 83 (lp Tryz.f83 0) [0,1,5,6] [5] Q
   [(0, .aD nm 0),(1, .pure (.int .i64 n)),(5, .aW (H.length,20) 1 l.length 0 l.length),(6, .pure (.int .i64 i))] (Cz l::H.set nm (bL wd)) 36:=by
 have hB: ∀w f0 f1,fW (f0::f1::H.set nm (bL w)) nm:=fun w f0 f1=>eC (eC (ld hlt));have hne: ¬nm.1=H.length:=(by omega);have hne2: ¬nm.1=H.length+1:=(by omega);have hle:nm.1≤H.length:=(by omega);intro k
 induction k with
 |zero=>
  intro i l wd hi hl h0 hq;have: ¬i<n:=(by omega);apply aw;conv=>arg 4;whnf
  simp [Cz,this,aj.length_set];simpa [Cz,iW]using hq
 |succ k ih=>
  intro i l wd hi hl h0 hq;have hia:i<n:=(by omega);have hw:=cu (x:=(i:Int)+1) (by omega) (by omega);have hr:=jT wd ((i+1:Nat):Int) (by omega);obtain⟨j,ej⟩: ∃j:Nat,(kZ wd ((i+1:Nat):Int)).1=j:=⟨(kZ wd ((i+1:Nat):Int)).1.toNat,by omega⟩;have ih':=ih (i+1) (rz l i j) (kZ wd ((i+1:Nat):Int)).2 (by omega) (by rw [Fv,hl]) (by omega);rw [iW,ej,Int.toNat_natCast]at hq;have ih'':=ih' hq;have hji:j<l.length+1:=(by omega);have ec:((i+1:Nat):Int)=(i:Int)+1:=(by omega);rw [ec]at ej ih'';have hb:(l.length+1)*8≤1099511627776:=(by omega);have hnb:(i:Int)+1≤9223372036854775807:=(by omega);have hW: ∀w f0 f1,bK (f0::f1::H.set nm (bL w)) nm=w:=fun w f0 f1=>(by rw [dK (by simp [aj.length_set];omega),dK (by simpa [aj.length_set]using hlt),lf hlt]);subst hl;obtain⟨m,em⟩: ∃m,m=l++[(l.length:Int)]:=⟨_,rfl⟩;have hm:m.length=l.length+1:=(by simp [em]);have ra:List.map aG l++[[PV.int .i64 l.length]]=List.map aG m:=(by simp [em,aG]);have hjm:j<m.length:=(by omega);have him:l.length<m.length:=(by omega);have hjI:(j:Int)<(l.length:Int)+1:=(by omega);have hiI:(l.length:Int)<(l.length:Int)+1:=(by omega);have gi:m[l.length]=(l.length:Int):=(by simp [em]);have sw:rz l l.length j=(m.set l.length m[j]).set j l.length:=by
   unfold rz;rw [←em];simp [List.getD_eq_getElem?_getD,hjm]
  rw [sw]at ih'';have hgj:((List.map aG m).set l.length [PV.int .i64 m[j]])[j]'(by simpa using hjm)=[PV.int .i64 m[j]]:=by rw [List.getElem_set];split<;>simp [aG]
  apply aw;conv=>arg 4;whnf
  simp [Cz,hia,hw,aj.length_set,j3,hB,hW,hnb,hlt,hne,hne2,aj.eH,ej,hb,hji,hjI,hiI,hle,ra,hm,aG,aE,gi,hgj];simpa [Cz,aG,hm]using ih''
noncomputable def sL:Nat→Int→List Int×Int:=na fun n wd=>iW n 0 [] wd
theorem vw (n:Nat)(wd:Int):sL n wd=iW n 0 [] wd:=by rw [sL,cO]
theorem AG {n:Nat}(wd:Int)(hn:n≤1000000):(sL n wd).1.Perm ((List.range n).map Int.ofNat):=by
 rw [vw];simpa using tH n 0 [] wd (by simp) (by omega)
theorem Ie {nm:Nm}(hB:fW H nm){n:Nat}(h0:0<n)(hn:n≤1000000):
  aI KC (aC KC) 83 [.aD nm 0, .pure (.int .i64 n)] c H=some (.pure (.slice ((sL n (bK H nm)).1.map aG)),H.set nm (bL (sL n (bK H nm)).2)):=by
 have hlt:=ib hB;have hset:=kO hB;have hne: ¬nm.1=H.length:=(by omega);have hne2: ¬nm.1=H.length+1:=(by omega);have hle:nm.1≤H.length:=(by omega);have hB2: ∀f0 f1,fW (f0::f1::H) nm:=fun f0 f1=>eC (eC hB);have hW: ∀f0 f1,bK (f0::f1::H) nm=bK H nm:=fun f0 f1=>(by rw [dK (by simp;omega),dK hlt]);have hnl: ¬H.length≤H.length-1:=(by omega);refine aN (bj KC au Tryz.func83 rfl rfl Te rfl rfl rfl (by simp) (by omega) ?_);obtain⟨k,rfl⟩: ∃k,n=k+1:=⟨n-1,by omega⟩;have hr:=jT (bK H nm) 1 (by omega);have ej:(kZ (bK H nm) 1).1=0:=(by omega);have L:=fun Q=>CA (H:=H) hlt (k+1) hn Q k 1 [0] (kZ (bK H nm) 1).2 (by omega) rfl (by omega);have hd:=vw (k+1) (bK H nm);have e1:iW (k+1) 0 [] (bK H nm)=iW k 1 [0] (kZ (bK H nm) 1).2:=by
  rw [iW];simp [ej,rz]
 rw [e1]at hd;have hk:(0:Int)<(k:Int)+1:=(by omega);simp [Cz]at L;simp;apply aw;conv=>arg 4;whnf
 simp [hk,aj.length_set,j3,hB2,hW,hlt,hne,hne2,aj.eH,ej,hle,aG,aE];simp [aG]at L;refine L _ ?_;have tk: ∀l:List Int,List.take l.length (List.map aG l)=List.map aG l:=fun l=>List.take_of_length_le (by simp);simp [aa,hd,aj.length_set,hnl,tk]
end
section
variable {c:Nat} {H:aj}
theorem Fy {nm:Nm}(hlt:nm.1<H.length)(w:Int)(f0 f1:Fr):fW (f0::f1::H.set nm (bL w)) nm:=eC (eC (ld hlt))
theorem aaq {nm:Nm}(hlt:nm.1<H.length)(w:Int)(f1:Fr):fW (f1::H.set nm (bL w)) nm:=eC (ld hlt)
theorem xU {nm:Nm}(hlt:nm.1<H.length)(w:Int)(f0 f1:Fr):bK (f0::f1::H.set nm (bL w)) nm=w:=by
 rw [dK (by simp [aj.length_set];omega),dK (by simpa [aj.length_set]using hlt),lf hlt]
theorem PD {nm:Nm}(hlt:nm.1<H.length)(w:Int)(f1:Fr):bK (f1::H.set nm (bL w)) nm=w:=by
 rw [dK (by simpa [aj.length_set]using hlt),lf hlt]
def ir:dM:= .box [.pure (.int .i64 0), .pure (.int .i64 0), .aS, .aS, .aS, .aS, .aS]
def Tf (w d:Int)(L:Nat)(p:List aQ):Fr:=
 [(4,ir),(5, .box [.pure (.int .i64 w), .pure (.int .i64 d), .aW (L,46) 2 p.length 0 p.length, .aS, .aS, .aS, .aS]),(46, .arr 2 (p.map aQ.row) 0 false)]
theorem CB {nm:Nm}(hlt:nm.1<H.length)(w d:Int)(cells:List Int)(hcl:cells.length≤1000000)(Q:GX→bP→Prop): ∀(k:Nat) (p:List aQ) (wd:Int),p.length+k≤cells.length→0<p.length→p.map aQ.cell=cells.take p.length→(∀x∈p,1≤x.role∧x.role≤3)→
  (∀(p':List aQ) (wd':Int),p'.length=p.length+k→p'.map aQ.cell=cells.take p'.length→(∀x∈p',1≤x.role∧x.role≤3)→
   Q (.exit 0) ⟨[(0, .aD nm 0),(4, .aD (H.length,4) 0),(5, .aD (H.length,5) 0)],Tf w d H.length p'::H.set nm (bL wd'),99⟩)→
  fL KC au 47 (lp Tryz.f47 0) [0,4,5,6,7] [0,4,5] Q
   [(0, .aD nm 0),(4, .aD (H.length,4) 0),(5, .aD (H.length,5) 0),(6, .pure (.slice (cells.map aG))),(7, .pure (.int .i64 k))] (Tf w d H.length p::H.set nm (bL wd)) 99:=by
 have hne: ¬nm.1=H.length:=(by omega);have hne2: ¬nm.1=H.length+1:=(by omega);have hle:nm.1≤H.length:=(by omega);have hB:=fun w f0 f1=>Fy hlt w f0 f1;have hW:=fun w f0 f1=>xU hlt w f0 f1;intro k
 induction k with
 |zero=>
  intro p wd hi h0 hpc hpr hq;have hq':=hq p wd (by omega) hpc hpr;apply aw;conv=>arg 4;whnf
  simp [Tf,aj.length_set,hle];simpa [Tf]using hq'
 |succ k ih=>
  intro p wd hi h0 hpc hpr hq;have hw:=cu (x:=((k:Int)+1)-1) (by omega) (by omega);have hk:(0:Int)<(k:Int)+1:=(by omega);have hia:p.length<cells.length:=(by omega);have hr:=AH wd 1 3 (by omega) (by omega) (by omega);have hb:(p.length+1)*16≤1099511627776:=(by omega);have es:(k:Int)+1-1=k:=(by omega);rw [es]at hw
  have ih':=ih (p++[⟨(vy wd 1 3).1,cells[p.length]⟩]) (vy wd 1 3).2 (by simp;omega) (by simp) (by
   simp only [List.map_append,List.map_cons,List.map_nil,hpc,List.length_append,List.length_singleton];exact List.take_append_getElem hia) (by
   intro x hx;rcases List.mem_append.1 hx with hx|hx
   ·exact hpr x hx
   ·simp at hx;subst hx;exact hr) (fun p' wd' h1 h2 h3=>hq p' wd' (by rw [h1];simp;omega) h2 h3)
  apply aw;conv=>arg 4;whnf
  simp [Tf,hk,es,hw,aj.length_set,sI,hB,hW,hlt,hne,hne2,aj.eH,hle,aG,hia,hb];simpa [Tf,aQ.row]using ih'
end
section
variable {c:Nat} {H:aj}
theorem lO (w n:Int)(h:n≤9223372036854775807)(h1:1≤n): ∃(i:Nat) (w':Int),kZ w n=((i:Int),w')∧(i:Int)<n:=by
 have:=jT w n h;refine⟨(kZ w n).1.toNat,(kZ w n).2, ?_, ?_⟩
 ·rw [Int.toNat_of_nonneg this.1]
 ·omega
theorem mE (w:Int)(hi:Int)(h:hi≤1000000)(h1:1≤hi): ∃(i:Nat) (w':Int),vy w 1 hi=((i:Int),w')∧1≤i∧(i:Int)≤hi:=by
 have:=AH w 1 hi (by omega) (by omega) (by omega);refine⟨(vy w 1 hi).1.toNat,(vy w 1 hi).2, ?_, ?_, ?_⟩
 ·rw [Int.toNat_of_nonneg (by omega)]
 ·omega
 ·omega
def K7 (w d:Int)(L:Nat)(p:List aQ)(ts:List aV):Fr:=
 [(4,ir),(5, .box [.pure (.int .i64 w), .pure (.int .i64 d), .aW (L,46) 2 p.length 0 p.length,cv (L,83) 5 (ts.map aV.row), .aS, .aS, .aS]),(46, .arr 2 (p.map aQ.row) 0 false)]
def ThB (w d:Int)(t:aV):Prop:=0≤t.cell∧t.cell<w*d∧0≤t.state∧t.state<16∧t.home=0∧t.want=0
theorem CC {nm:Nm}(hlt:nm.1<H.length)(w d:Int)(hwd:IntKind.i64.wrap (w*d)=w*d)(hwd1:0<w*d)(hwd2:w*d≤1000000)(p:List aQ)(hp:p≠[])(hpl:p.length≤1000000)(hpc: ∀x∈p,0≤x.cell∧x.cell<w*d)(Q:GX→bP→Prop): ∀(k:Nat) (ts:List aV) (wd:Int),ts.length+k≤1000000→(∀t∈ts,ThB w d t)→
  (∀(ts':List aV) (wd':Int),ts'.length=ts.length+k→(∀t∈ts',ThB w d t)→
   Q (.exit 2) ⟨[(0, .aD nm 0),(4, .aD (H.length,4) 0),(5, .aD (H.length,5) 0)],dS 83 5 (ts'.map aV.row) (K7 w d H.length p ts')::H.set nm (bL wd'),99⟩)→
  fL KC au 47 (lp Tryz.f47 1) [0,4,5,8] [0,4,5] Q
   [(0, .aD nm 0),(4, .aD (H.length,4) 0),(5, .aD (H.length,5) 0),(8, .pure (.int .i64 k))] (dS 83 5 (ts.map aV.row) (K7 w d H.length p ts)::H.set nm (bL wd)) 99:=by
 have hne: ¬nm.1=H.length:=(by omega);have hne2: ¬nm.1=H.length+1:=(by omega);have hle:nm.1≤H.length:=(by omega);have hB:=fun w f0 f1=>Fy hlt w f0 f1;have hW:=fun w f0 f1=>xU hlt w f0 f1;have lp0:0<p.length:=List.length_pos_iff.2 hp;have hplI:(p.length:Int)≤9223372036854775807:=(by omega);have hwdI:w*d≤9223372036854775807:=(by omega);intro k
 induction k with
 |zero=>
  intro ts wd hi hts hq;have hq':=hq ts wd (by omega) hts;apply aw;conv=>arg 4;whnf
  simp [K7,aj.length_set,hle];simpa [K7]using hq'
 |succ k ih=>
  intro ts wd hi hts hq;have hw:=cu (x:=((k:Int)+1)-1) (by omega) (by omega);have hk:(0:Int)<(k:Int)+1:=(by omega);have hb:(ts.length+1)*40≤1099511627776:=(by omega);have es:(k:Int)+1-1=k:=(by omega);rw [es]at hw;obtain⟨i,w1,e1,hi1I⟩:=lO wd p.length hplI (by omega);have hi1:i<p.length:=(by omega);obtain⟨st,w2,e2,hst⟩:=lO w1 16 (by omega) (by omega);obtain⟨cl,w3,e3⟩: ∃(cl:Bool) (w3:Int),AI w2 3=(cl,w3):=⟨_,_,rfl⟩;obtain⟨mv,w4,e4⟩: ∃(mv:Bool) (w4:Int),AI w3 5=(mv,w4):=⟨_,_,rfl⟩;have hin: ¬(i:Int)<0:=by omega
  have ih':=fun(t:aV) (w':Int) (ht:ThB w d t)=>ih (ts++[t]) w' (by simp;omega) (by
   intro x hx;rcases List.mem_append.1 hx with hx|hx
   ·exact hts x hx
   ·simp at hx;subst hx;exact ht) (fun p' wd' h1 h2=>hq p' wd' (by rw [h1];simp;omega) h2)
  have hcell:=hpc p[i] (List.getElem_mem hi1);apply aw;conv=>arg 4;whnf
  cases mv with
  |false=>
   have ih2:=ih' ⟨p[i].cell,st,0,0,cl⟩ w4 ⟨hcell.1,hcell.2,Int.natCast_nonneg st,hst,rfl,rfl⟩;simp [K7,aV.row]at ih2;simp [K7,hk,es,hw,aj.length_set,j3,qq,hB,hW,hplI,hlt,hne,hne2,aj.eH,hle,aG,hb,e1,e2,e3,e4,hi1,hi1I,hin,aQ.row];exact ih2
  |true=>
   obtain⟨cc,w5,e5,hcc⟩:=lO w4 (w*d) hwdI (by omega);have ih2:=ih' ⟨cc,st,0,0,cl⟩ w5 ⟨Int.natCast_nonneg cc,hcc,Int.natCast_nonneg st,hst,rfl,rfl⟩;simp [K7,aV.row]at ih2;simp [K7,hk,es,hw,aj.length_set,j3,qq,hB,hW,hplI,hlt,hne,hne2,aj.eH,hle,aG,hb,e1,e2,e3,e4,e5,hwd,hwdI,hi1,hi1I,hin,aQ.row];exact ih2
def K8 (w d:Int)(L:Nat)(p:List aQ)(ts:List aV)(ls:List Int):Fr:=
 [(4,ir),(5, .box [.pure (.int .i64 w), .pure (.int .i64 d), .aW (L,46) 2 p.length 0 p.length, .aW (L,83) 5 ts.length 0 ts.length, .aS,cv (L,96) 1 (ls.map aG), .aS]),(46, .arr 2 (p.map aQ.row) 0 false),(83, .arr 5 (ts.map aV.row) 0 false)]
theorem CD {nm:Nm}(hlt:nm.1<H.length)(w d:Int)(p:List aQ)(ts:List aV)(Q:GX→bP→Prop): ∀(k i:Nat) (ls:List Int) (wd:Int),i+k=4→1≤i→ls.length<i→ls.Pairwise (· < ·)→(∀x∈ls,1≤x∧x<i)→
  (∀(ls':List Int) (wd':Int),ls'.length≤3→ls'.Pairwise (· < ·)→(∀x∈ls',1≤x∧x<4)→
   Q (.exit 4) ⟨[(4, .aD (H.length,4) 0),(5, .aD (H.length,5) 0)],dS 96 1 (ls'.map aG) (K8 w d H.length p ts ls')::H.set nm (bL wd'),99⟩)→
  fL KC au 47 (lp Tryz.f47 2) [0,4,5,10] [4,5] Q
   [(0, .aD nm 0),(4, .aD (H.length,4) 0),(5, .aD (H.length,5) 0),(10, .pure (.int .i64 i))] (dS 96 1 (ls.map aG) (K8 w d H.length p ts ls)::H.set nm (bL wd)) 99:=by
 have hne: ¬nm.1=H.length:=(by omega);have hne2: ¬nm.1=H.length+1:=(by omega);have hle:nm.1≤H.length:=(by omega);have hB:=fun w f0 f1=>Fy hlt w f0 f1;have hW:=fun w f0 f1=>xU hlt w f0 f1;intro k
 induction k with
 |zero=>
  intro i ls wd hi h1 hl hps hb hq;have hq':=hq ls wd (by omega) hps (fun x hx=>⟨(hb x hx).1,by have:=(hb x hx).2;omega⟩);have: ¬(i:Int)≤3:=(by omega);apply aw;conv=>arg 4;whnf
  simp [K8,aj.length_set,this];simpa [K8]using hq'
 |succ k ih=>
  intro i ls wd hi h1 hl hps hb hq;have hw:=cu (x:=(i:Int)+1) (by omega) (by omega);have hk:(i:Int)≤3:=(by omega);have hbb:(ls.length+1)*8≤1099511627776:=(by omega);obtain⟨on,w1,e1⟩: ∃(on:Bool) (w1:Int),AI wd 3=(on,w1):=⟨_,_,rfl⟩;apply aw;conv=>arg 4;whnf
  cases on with
  |true=>
   have ih2:=ih (i+1) ls w1 (by omega) (by omega) (by omega) hps (fun x hx=>⟨(hb x hx).1,by have:=(hb x hx).2;omega⟩) hq;simp [K8]at ih2;simp [K8,hk,hw,aj.length_set,qq,hB,hW,hlt,hne,hne2,aj.eH,hle,e1];exact ih2
  |false=>
   have ih2:=ih (i+1) (ls++[(i:Int)]) w1 (by omega) (by omega) (by simp;omega) (List.pairwise_append.2 ⟨hps,by simp,fun a ha b hb'=>by simp at hb';subst hb';exact(hb a ha).2⟩)
    (fun x hx=>by
     rcases List.mem_append.1 hx with hx|hx
     ·exact⟨(hb x hx).1,by have:=(hb x hx).2;omega⟩
     ·simp at hx;subst hx;constructor<;>omega) hq
   simp [K8,aG]at ih2;simp [K8,hk,hw,aj.length_set,qq,hB,hW,hlt,hne,hne2,aj.eH,hle,e1,aG,hbb];exact ih2
structure vz (r:aH):Prop where
 w1:1≤r.wide
 w3:r.wide≤3
 d1:1≤r.deep
 d3:r.deep≤3
 p0:r.ah≠[]
 p3:r.ah.length≤3
 pn:(r.ah.map aQ.cell).Nodup
 pc: ∀x∈r.ah,(1≤x.role∧x.role≤3)∧0≤x.cell∧x.cell<r.wide*r.deep
 t0:r.ae≠[]
 t4:r.ae.length≤4
 tc: ∀t∈r.ae,ThB r.wide r.deep t
 seen:r.seen=[]
 lp:r.aY.Pairwise (· < ·)
 lr: ∀x∈r.aY,1≤x∧x<4
 ll:r.aY.length≤3
 ai:r.ai=[]
def vA (n2 n3 n5:Nm)(r:aH):GV:= .agg [.pure (.int .i64 r.wide), .pure (.int .i64 r.deep), .aW n2 2 r.ah.length 0 r.ah.length, .aW n3 5 r.ae.length 0 r.ae.length, .aS,cv n5 1 (r.aY.map aG), .aS]
def gV (H:aj)(nm:Nm)(es:Nat)(rows:List (List PV)):aj:=if rows=[]then H else H.set nm (.arr es rows 0 false)
theorem Fz {nm : Nm} (hB0 : fW H nm) {sd : Nat} (hsd : 1 ≤ sd ∧ sd ≤ 3)
    (hf1 : H.get (H.length - 1, aq c 46) = none) (hf2 : H.get (H.length - 1, aq c 83) = none) (hf3 : H.get (H.length - 1, aq c 96) = none) (hnk : ∀ k, nm ≠ (H.length - 1, aq c k)) :
    ∃ r wd, vz r ∧ aI KC (aC KC) 47 [.aD nm 0, .pure (.int .i64 sd)] c H = some (vA (H.length - 1, aq c 46) (H.length - 1, aq c 83) (H.length - 1, aq c 96) r,
      gV (((H.set nm (bL wd)).set (H.length - 1, aq c 46) (.arr 2 (r.ah.map aQ.row) 0 false)).set (H.length - 1, aq c 83) (.arr 5 (r.ae.map aV.row) 0 false)) (H.length - 1, aq c 96) 1 (r.aY.map aG)) := by
  have hlt := ib hB0
  have hset := kO hB0
  have hne : ¬ nm.1 = H.length := by omega
  have hne2 : ¬ nm.1 = H.length + 1 := by omega
  have hle : nm.1 ≤ H.length := by omega
  suffices hs : ku (aI KC (aC KC) 47 [.aD nm 0, .pure (.int .i64 sd)] c H) (fun x => ∃ r wd, vz r ∧ x = (vA (H.length - 1, aq c 46) (H.length - 1, aq c 83) (H.length - 1, aq c 96) r,
      gV (((H.set nm (bL wd)).set (H.length - 1, aq c 46) (.arr 2 (r.ah.map aQ.row) 0 false)).set (H.length - 1, aq c 83) (.arr 5 (r.ae.map aV.row) 0 false)) (H.length - 1, aq c 96) 1 (r.aY.map aG))) by
    obtain ⟨x, hx, r, wd, h1, h2⟩ := hs
    exact ⟨r, wd, h1, by rw [hx, h2]⟩
  refine bj KC au Tryz.func47 rfl rfl Tg rfl rfl rfl (by simp) (by omega) ?_
  obtain ⟨w0, hw0⟩ : ∃ w0, bK H nm = w0 := ⟨_, rfl⟩
  rw [hw0] at hset
  have hB' : ∀ f, fW (f :: H) nm := fun f => eC hB0
  have hW' : ∀ f, bK (f :: H) nm = w0 := fun f => (dK hlt).trans hw0
  have hB1 := fun w f => aaq hlt w f
  have hW1 := fun w f => PD hlt w f
  have hB2 := fun w f0 f1 => Fy hlt w f0 f1
  have hW2 := fun w f0 f1 => xU hlt w f0 f1
  obtain ⟨wi, w1, e1, hwi1, hwi3⟩ := mE w0 sd (by omega) (by omega)
  obtain ⟨de, w2, e2, hde1, hde3⟩ := mE w1 sd (by omega) (by omega)
  obtain ⟨N, hN⟩ : ∃ N, N = wi * de := ⟨_, rfl⟩
  have hN9 : N ≤ 3 * 3 := by rw [hN]; exact Nat.mul_le_mul (by omega) (by omega)
  have hN0 : 0 < N := by rw [hN]; exact Nat.mul_pos hwi1 hde1
  have hNI : (wi : Int) * (de : Int) = (N : Int) := by rw [hN]; simp
  have hwN : IntKind.i64.wrap ((wi : Int) * (de : Int)) = (N : Int) := by rw [hNI]; exact cu (by omega) (by omega)
  obtain ⟨cells, w3, e3⟩ : ∃ cells w3, sL N w2 = (cells, w3) := ⟨_, _, rfl⟩
  have hpm : cells.Perm ((List.range N).map Int.ofNat) := by have := AG (n := N) w2 (by omega); rwa [e3] at this
  have hcl : cells.length = N := by simpa using hpm.length_eq
  have hcn : cells.Nodup := hpm.nodup_iff.2 (List.Pairwise.map Int.ofNat (fun a b h e => h (Int.ofNat.inj e)) List.nodup_range)
  have hcr : ∀ x ∈ cells, 0 ≤ x ∧ x < N := fun x hx => by
    have := hpm.mem_iff.1 hx
    simp only [List.mem_map, List.mem_range] at this
    obtain ⟨a, h1, h2⟩ := this
    subst h2; constructor
    · exact Int.natCast_nonneg a
    · exact Int.ofNat_lt.2 h1
  obtain ⟨mn, hmn⟩ : ∃ mn : Nat, mn = min 3 N := ⟨_, rfl⟩
  have hmI : (if (N : Int) < 3 then (N : Int) else 3) = (mn : Int) := by split <;> omega
  obtain ⟨np, w4, e4, hnp1, hnp2⟩ := mE w3 mn (by omega) (by omega)
  obtain ⟨m, rfl⟩ : ∃ m, np = m + 1 := ⟨np - 1, by omega⟩
  obtain ⟨ro, w5, e5, hro1, hro3⟩ := mE w4 3 (by omega) (by omega)
  have c0 : 0 < cells.length := by omega
  have hNm : N ≤ 1000000 := by omega
  have gc : cells[0]? = some cells[0] := List.getElem?_eq_getElem c0
  simp
  simp [aj.length_set, sI, Ie, hB', hW', hB1, hW1, hB2, hW2, hlt, hne, hne2, aj.eH, hle, e1, e2, hwN, hN0, hNm, e3, hcl, hmI, e4]
  have hes : ((m : Int) + 1) - 1 = m := by omega
  have hwm := cu (x := (m : Int)) (by omega) (by omega)
  have hm0 : (0 : Int) < (m : Int) + 1 := by omega
  have hN1 : (0 : Int) < (N : Int) := by omega
  have L1 := fun Q => CB (H := H) hlt wi de cells (by omega) Q m [⟨ro, cells[0]⟩] w5 (by simp; omega) (by simp) (by simp [List.take_one, List.head?_eq_getElem?, c0]) (by simp; omega)
  simp [Tf, ir, aQ.row] at L1
  apply aw
  conv => arg 4; whnf
  simp [hm0, hes, hwm, aj.length_set, sI, hB2, hW2, hlt, hne, hne2, aj.eH, hle, e5, hN1, hcl, aG, gc]
  refine L1 _ fun p wd1 hp1 hp2 hp3 => ?_
  clear L1
  have hp0 : p ≠ [] := by intro h; subst h; simp at hp1; omega
  have hpl : p.length ≤ 3 := by omega
  have hpc : ∀ x ∈ p, 0 ≤ x.cell ∧ x.cell < (wi : Int) * de := fun x hx => by
    have h1 : x.cell ∈ p.map aQ.cell := List.mem_map_of_mem hx
    rw [hp2] at h1
    have := hcr _ (List.mem_of_mem_take h1)
    rw [hNI]; exact this
  obtain ⟨nt, w6, e6, hnt1, hnt4⟩ := mE wd1 4 (by omega) (by omega)
  have L2 := fun Q => CC (H := H) hlt wi de (by rw [hwN, hNI]) (by rw [hNI]; omega) (by rw [hNI]; omega) p hp0 (by omega) hpc Q nt [] w6 (by simp; omega) (by simp)
  simp [K7, ir, dZ, gW] at L2
  simp [aj.length_set, sI, hB1, hW1, hlt, hne, hne2, aj.eH, hle, e6]
  refine L2 _ fun ts wd2 ht1 ht2 => ?_
  clear L2
  have ht0 : ts ≠ [] := by intro h; subst h; simp at ht1; omega
  have L3 := fun Q => CD (H := H) hlt wi de p ts Q 3 1 [] wd2 (by omega) (by omega) (by simp) .nil (by simp)
  simp [K8, ir, dZ, gW] at L3
  simp [cv, dS, ht0]
  refine L3 _ fun ls wd3 hl1 hl2 hl3 => ?_
  clear L3
  have hRB : vz ⟨wi, de, p, ts, [], ls, []⟩ :=
    { w1 := by show (1 : Int) ≤ wi; omega, w3 := by show (wi : Int) ≤ 3; omega, d1 := by show (1 : Int) ≤ de; omega, d3 := by show (de : Int) ≤ 3; omega, p0 := hp0, p3 := hpl, pn := by
        show (p.map aQ.cell).Nodup
        rw [hp2]; exact hcn.sublist (List.take_sublist ..), pc := fun x hx => ⟨hp3 x hx, hpc x hx⟩, t0 := ht0, t4 := by show ts.length ≤ 4; omega, tc := ht2, seen := rfl, lp := hl2, lr := hl3, ll := hl1, ai := rfl }
  have kx : aq c 46 ≠ aq c 83 := by unfold aq; omega
  have lR : aq c 46 ≠ aq c 96 := by unfold aq; omega
  have kD : aq c 83 ≠ aq c 96 := by unfold aq; omega
  have k1 : (H.length - 1, aq c 83) ≠ ((H.length - 1, aq c 46) : Nm) := fun e => kx (Prod.mk.inj e).2.symm
  have k2 : (H.length - 1, aq c 96) ≠ ((H.length - 1, aq c 46) : Nm) := fun e => lR (Prod.mk.inj e).2.symm
  have k3 : (H.length - 1, aq c 96) ≠ ((H.length - 1, aq c 83) : Nm) := fun e => kD (Prod.mk.inj e).2.symm
  have g1 : (H.set nm (bL wd3)).get (H.length - 1, aq c 46) = none := (aj.aL _ (hnk _).symm).trans hf1
  have g2 : ∀ b, ((H.set nm (bL wd3)).set (H.length - 1, aq c 46) b).get (H.length - 1, aq c 83) = none := fun b => (aj.aL b k1).trans ((aj.aL _ (hnk _).symm).trans hf2)
  have g3 : ∀ b b', (((H.set nm (bL wd3)).set (H.length - 1, aq c 46) b).set (H.length - 1, aq c 83) b').get (H.length - 1, aq c 96) = none := fun b b' => (aj.aL b' k3).trans ((aj.aL b k2).trans ((aj.aL _ (hnk _).symm).trans hf3))
  simp
  suffices hs : ∀ x, fX KC 47 c (GV.agg
        [GV.pure (PV.int IntKind.i64 ↑wi), GV.pure (PV.int IntKind.i64 ↑de),
          GV.aW (List.length H, 46) 2 p.length 0 p.length, GV.aW (List.length H, 83) 5 ts.length 0 ts.length, GV.aS,
          cv (List.length H, 96) 1 (List.map aG ls), GV.aS])
      (dS 96 1 (List.map aG ls)
          [(4, x), (5, x),
            (46, dM.arr 2 (List.map aQ.row p) 0 false), (83, dM.arr 5 (List.map aV.row ts) 0 false)] ::
        H.set nm (bL wd3)) = some (vA (List.length H - 1, aq c 46) (List.length H - 1, aq c 83) (List.length H - 1, aq c 96) ⟨wi, de, p, ts, [], ls, []⟩,
              gV
                (((H.set nm (bL wd3)).set (List.length H - 1, aq c 46)
                      (dM.arr 2 (List.map aQ.row p) 0 false)).set
                  (List.length H - 1, aq c 83) (dM.arr 5 (List.map aV.row ts) 0 false))
                (List.length H - 1, aq c 96) 1 (List.map aG ls)) by
    rw [hs]
    rw [gK]
    exact ⟨_, hRB, _, rfl⟩
  intro x
  by_cases hls : ls = []
  · subst hls
    simp [dZ, gW, bO, refs, dE, cV, b8, dc, df, dedup, cA, bV, ry, g1, g2, g3, sK, jj, gJ, vA, gV, aj.length_set, aQ.row, aV.row]
  · simp [cv, dS, hls, bO, refs, dE, cV, b8, dc, df, dedup, cA, bV, ry, g1, g2, g3, sK, jj, gJ, vA, gV, aj.length_set, aQ.row, aV.row]
end
section
variable {c:Nat} {H:aj}
def xr (H:aj):GV→PV→Prop
 | .pure p,q=>p=q
 | .aS,q=>q= .slice []
 | .aW nm es top lo len,q=> ∃rows v ro,H.get nm=some (.arr es rows v ro)∧v≤top∧rows.length=top∧lo=0∧len=top∧q= .slice rows
 |_,_=>False
def K9 (H:aj):List GV→List PV→Prop
 | [],[]=>True
 |g::l,q::m=>xr H g q∧K9 H l m
 |_,_=>False
def nd (H:aj):GV→PV→Prop
 | .agg l, .agg m=>K9 H l m
 | .pure p,q=>p=q
 |_,_=>False
@[simp] theorem og {p q:PV}:xr H (.pure p) q=(p=q):= .trans rfl rfl
@[simp] theorem aar {q:PV}:xr H .aS q=(q= .slice []):= .trans rfl rfl
@[simp] theorem rA:K9 H [] []=True:= .trans rfl rfl
@[simp] theorem om {g:GV}{q:PV}{l:List GV}{m:List PV}:K9 H (g::l) (q::m)=(xr H g q∧K9 H l m):= .trans rfl rfl
@[simp] theorem rB {l:List GV}{m:List PV}:nd H (.agg l) (.agg m)=K9 H l m:= .trans rfl rfl
def fE (H1 H2:aj):Prop:= ∀nm es rows v ro,H1.get nm=some (.arr es rows v ro)→ ∃ro',H2.get nm=some (.arr es rows v ro')
theorem fE.refl (H:aj):fE H H:=fun _ _ _ _ ro h=>⟨ro,h⟩
theorem fE.trans {A B C:aj}(h1:fE A B)(h2:fE B C):fE A C:=fun nm es rows v ro h=>by
 obtain⟨r1,a⟩:=h1 nm es rows v ro h;exact h2 nm es rows v r1 a
theorem lS {H1 H2:aj}(h:fE H1 H2): ∀{g:GV} {q:PV},xr H1 g q→xr H2 g q:=by
 intro g q hg
 cases g with
 |aW nm es top lo len=>
  obtain⟨rows,v,ro,a,b,d⟩:=hg;obtain⟨ro',e⟩:=h _ _ _ _ _ a;exact⟨rows,v,ro',e,b,d⟩
 |pure p=>exact hg
 |aS=>exact hg
 |_=>exact hg.elim
theorem zf {H1 H2:aj}(h:fE H1 H2): ∀{l:List GV} {m:List PV},K9 H1 l m→K9 H2 l m
 | [],[],_=>trivial
 |g::l,q::m,hl=>⟨lS h hl.1,zf h hl.2⟩
 | [],_::_,hl=>hl.elim
 |_::_,[],hl=>hl.elim
theorem kE {H1 H2:aj}(h:fE H1 H2){g:GV}{q:PV}(hg:nd H1 g q):nd H2 g q:=by
 cases g with
 |agg l=>
  cases q with
  |agg m=>exact zf h hg
  |_=>exact hg.elim
 |pure p=>exact hg
 |_=>cases q<;>exact hg.elim
theorem qt {g:GV}{q:PV}(h:xr H g q):cK (dH H g).1= .pure q∧fE H (dH H g).2:=by
 cases g with
 |aW nm es top lo len=>
  obtain⟨rows,v,ro,h1,h2,h3,rfl,rfl,rfl⟩:=h;subst h3;have e:dI H (.aW nm es rows.length 0 rows.length)=(.slice rows,H.set nm (.arr es rows v true)):=(by simp [h1,h2]);simp only [dH,e];refine⟨rfl,fun nm' es' rows' v' ro' hg=> ?_⟩;by_cases hn:nm'=nm
  ·subst hn;rw [h1]at hg;cases hg;exact⟨true,aj.dg _ (aj.bS h1)⟩
  ·exact⟨ro',(aj.aL _ hn).trans hg⟩
 |pure p=>cases h;exact⟨rfl,fE.refl _⟩
 |aS=>cases h;exact⟨rfl,fE.refl _⟩
 |_=>exact h.elim
theorem tI: ∀{l:List GV} {m:List PV} {H:aj},K9 H l m→(fF H l).1.map cK=m.map .pure∧fE H (fF H l).2
 | [],[],H,_=>⟨rfl,fE.refl _⟩
 |g::l,q::m,H,h=>by
  obtain⟨a,b⟩:=qt h.1;obtain⟨d,e⟩:=tI (zf b h.2);simp only [fF,List.map_cons,a,d];exact⟨trivial,b.trans e⟩
 | [],_::_,_,hl=>hl.elim
 |_::_,[],_,hl=>hl.elim
theorem rC: ∀{l:List GV} {ps:List PV},bG l=some ps→l=ps.map .pure
 | [],ps,h=>by cases h;rfl
 |g::l,ps,h=>by
  cases g with
  |pure p=>
   rw [zg]at h
   cases hl:bG l with
   |none=>rw [hl]at h;cases h
   |some qs=>rw [hl]at h;cases h;rw [rC hl];rfl
  |_=>simp [bG]at h
theorem oo {l:List GV}{m:List PV}(h:l.map cK=m.map .pure):canon (dm l)= .pure (.agg m):=by
 rw [FA]
 cases hl:bG l with
 |some ps=>
  have e:=rC hl;subst e;have:ps=m:=by
   have h':ps.map GV.pure=m.map .pure:=(by simpa [cK,Function.comp_def]using h);exact(List.map_inj_right (fun a b e=>by cases e;rfl)).1 h'
  rw [this];rfl
 |none=>
  show canon (.agg l)=_
  rw [FC,h];simp
theorem lT {g:GV}{q:PV}(h:nd H g q):canon (dt H g).1= .pure q∧fE H (dt H g).2:=by
 cases g with
 |agg l=>
  cases q with
  |agg m=>
   obtain⟨a,b⟩:=tI (H:=H) (l:=l) (m:=m) h;exact⟨oo a,b⟩
  |_=>exact h.elim
 |pure p=>cases h;exact⟨rfl,fE.refl _⟩
 |_=>cases q<;>exact h.elim
theorem Th {g:GV}{q:PV}(h:nd H g q):(bm H [g]).1.map canon=[.pure q]:=by
 simp only [bm,List.map_cons,List.map_nil,(lT h).1]
theorem fG {g:GV}{r:List GV}:(bm H (g::r)).1.map canon=canon (dt H g).1::(bm (dt H g).2 r).1.map canon:=rfl
theorem aas {a b d:GV}{p q r:PV}(h1:nd H a p)(h2:nd H b q)(h3:nd H d r):(bm H [a,b,d]).1.map canon=[.pure p, .pure q, .pure r]:=by
 obtain⟨x1,y1⟩:=lT h1;obtain⟨x2,y2⟩:=lT (kE y1 h2);obtain⟨x3,y3⟩:=lT (kE y2 (kE y1 h3));rw [fG,x1,fG,x2,fG,x3];rfl
theorem aat {nm:Nm}{b d e:GV}{q r p:PV}(h2:nd H b q)(h3:nd H d r)(h4:nd H e p):(bm H [.aD nm 0,b,d,e]).1.map canon=[.aD nm 0, .pure q, .pure r, .pure p]:=by
 rw [fG,AJ,aas h2 h3 h4];rfl
theorem FE {rg sg:GV}(r:aH)(s:ay)(w n:Nat)(hR:nd H rg (.agg r.row))(hS:nd H sg (.agg s.row))(hs:FF r s)(hw:w<r.ah.length)(hpl:r.ah.length≤1000000)(htl:r.ae.length≤1000000)(hwide:r.wide≠0)(hn:IntKind.i64.wrap (r.wide*r.deep)=n)(hn0:0<n)(hnb:n≤1000000){nm:Nm}(hB:fW H nm):
  aI KC (aC KC) 49 [.aD nm 0,rg,sg, .pure (.int .i64 w)] c H=
   some (.pure (.tuple [.agg (gC r s w (dn n r.ae.length r.ah.length w) (bK H nm)).1.1.row, .bool (gC r s w (dn n r.ae.length r.ah.length w) (bK H nm)).1.2]),H.set nm (bL (gC r s w (dn n r.ae.length r.ah.length w) (bK H nm)).2)):=by
 have hlt:=ib hB;rw [pE KC rfl rfl,aat hR hS (show nd H (.pure (.int .i64 w)) (.int .i64 w)from rfl)]
 have hget:=xV hB;have hE:fW ((fY H).set nm (bL (bK H nm))) nm:=ld (by rw [cP];exact hlt);have hWE:bK ((fY H).set nm (bL (bK H nm))) nm=bK H nm:=lf (by rw [cP];exact hlt);have M:=Ig (c:=c) (H:=(fY H).set nm (bL (bK H nm))) r s w n hs hw hpl htl hwide hn hn0 hnb hE;rw [hWE]at M;generalize gC r s w (dn n r.ae.length r.ah.length w) (bK H nm)=res at M⊢;have hgs:((fY H).set nm (bL res.2)).get nm=some (bL res.2):=aj.fZ (by rw [cP];exact hlt);have hfl: ∀w,ot [.pure (.int .u64 w)]=true:=fun w=>rfl;unfold iu;simp only [mb,hget,bL];simp only [bL]at M hgs;simp [ot,AL,iK,M,hgs,kF,tJ,qu,ou,nR,ki,refs,dE,cV,dedup,kG,aj.length_set,ak.row]
theorem La (L k1 k2 k3:Nat)(s:ay):Ti L k1 k2 k3 s=kv (L,k1) (L,k2) (L,k3) s:=rfl
theorem xW {rg:GV} (r:aH) (hR:nd H rg (.agg r.row)) (hp0:r.ah≠[]) (ht0:r.ae≠[]) (hpl:r.ah.length≤1000000) (htl:r.ae.length≤1000000) (hH:0<H.length)
  (hf1:H.get (H.length-1,aq c 22)=none) (hf2:H.get (H.length-1,aq c 27)=none) (hf3:H.get (H.length-1,aq c 53)=none):
  aI KC (aC KC) 48 [rg] c H=some (kv (H.length-1,aq c 22) (H.length-1,aq c 27) (H.length-1,aq c 53) (az r),
   cr H (H.length-1,aq c 22) (H.length-1,aq c 27) (H.length-1,aq c 53) 0 0 0 (az r)):=by
 rw [pE KC rfl rfl,Th hR];have F:=FG (c:=c) (H:=fY H) r hp0 ht0 hpl htl (by rw [cP];exact hH) (jL _ _) (jL _ _) (jL _ _);simp only [cP]at F;have hL:H.length-1<(fY H).length:=(by rw [cP];omega);have hL':H.length-1<H.length:=(by omega);have kx:aq c 22≠aq c 27:=(by unfold aq;omega);have lR:aq c 22≠aq c 53:=(by unfold aq;omega);have kD:aq c 27≠aq c 53:=(by unfold aq;omega);have k1:(H.length-1,aq c 27)≠((H.length-1,aq c 22):Nm):=fun e=>kx (Prod.mk.inj e).2.symm;have k2:(H.length-1,aq c 53)≠((H.length-1,aq c 22):Nm):=fun e=>lR (Prod.mk.inj e).2.symm;have k3:(H.length-1,aq c 53)≠((H.length-1,aq c 27):Nm):=fun e=>kD (Prod.mk.inj e).2.symm;generalize hE:((((fY H).set (H.length-1,aq c 22) (.arr 1 ((az r).ah.map aG) 0 false)).set (H.length-1,aq c 27) (.arr 2 ((az r).ao.map aF.row) 0 false)).set (H.length-1,aq c 53) (.arr 2 ((az r).ae.map br.row) 0 false))=E at F;have q1:E.get (H.length-1,aq c 22)=some (.arr 1 ((az r).ah.map aG) 0 false):=(by rw [←hE,aj.aL _ k2.symm,aj.aL _ k1.symm];exact aj.fZ hL);have q2:E.get (H.length-1,aq c 27)=some (.arr 2 ((az r).ao.map aF.row) 0 false):=(by rw [←hE,aj.aL _ k3.symm];exact aj.fZ (by rw [aj.length_set];exact hL));have q3:E.get (H.length-1,aq c 53)=some (.arr 2 ((az r).ae.map br.row) 0 false):=(by rw [←hE];exact aj.fZ (by rw [aj.length_set,aj.length_set];exact hL));have g2: ∀b,(H.set (H.length-1,aq c 22) b).get (H.length-1,aq c 27)=none:=fun b=>(aj.aL b k1).trans hf2;have g3: ∀b b',((H.set (H.length-1,aq c 22) b).set (H.length-1,aq c 27) b').get (H.length-1,aq c 53)=none:=fun b b'=>(aj.aL b' k3).trans ((aj.aL b k2).trans hf3);have fr1: ∀l:List Int,eQ (l.map aG)=true:=fun l=>by induction l with|nil=>rfl|cons a l ih=>simp [eQ,ki,iK,aG,ih]
 have fr2: ∀l:List aF,eQ (l.map aF.row)=true:=fun l=>by induction l with|nil=>rfl|cons a l ih=>simp [eQ,ki,iK,aF.row,ih]
 have fr3: ∀l:List br,eQ (l.map br.row)=true:=fun l=>by induction l with|nil=>rfl|cons a l ih=>simp [eQ,ki,iK,br.row,ih]
 unfold iu;simp [mb,F,La,kv,kF,tJ,qu,xX,ou,nR,refs,dE,cV,dedup,kG,kx,lR,kD,kx.symm,lR.symm,kD.symm,q1,q2,q3,hf1,g2,g3,fr1,fr2,fr3,cr]
theorem FH {sg ag bg:GV} {s:ay} {w v:Nat} {a b:ak} (hS:nd H sg (.agg s.row)) (hA:nd H ag (.agg a.row)) (hB:nd H bg (.agg b.row)) (hp:w<s.ah.length) (hh:w<s.ao.length) (hw:a.aO=w) (ha:a.hand=0∨a.hand=1)
  (hp2:v<s.ah.length) (hh2:v<s.ao.length) (hw2:b.aO=v) (hb:b.hand=0∨b.hand=1) (hH:0<H.length):
  aI KC (aC KC) 53 [sg,ag,bg] c H=some (.pure (.bool (qv s w a v b)),H):=
 gL KC rfl rfl (aas hS hA hB) rfl hH (fun H hH=>Ih (c:=c) hp hh hw ha hp2 hh2 hw2 hb hH) rfl
end
section
variable {c:Nat} {H:aj}
theorem Ii (l:List Int)(hn:l.length≤1000000)(Q:GX→bP→Prop)(hH:0<H.length): ∀k i:Nat,i+k=l.length→
  Q (.exit 0) ⟨[(4,aP)],H,26⟩→
  fL KC au 68 (lp Tryz.f68 0) [0,1,5] [4] Q [(0, .pure (.slice (l.map aG))),(1, .pure (.slice (l.map aG))),(5, .pure (.int .i64 i))] H 26:=by
 intro k
 induction k with
 |zero=>
  intro i hi h1;apply aw;conv=>arg 4;whnf
  have: ¬i<l.length:=(by omega);simp [this,hH];exact h1
 |succ k ih=>
  intro i hi h1;have hia:i<l.length:=(by omega);have hw:=cu (x:=(i:Int)+1) (by omega) (by omega);have ih':=ih (i+1) (by omega) h1;apply aw;conv=>arg 4;whnf
  simp [hia,hH,aG,hw];simpa [aG]using ih'
theorem Ij (l:List Int)(hn:l.length≤1000000)(hH:0<H.length):
  aI KC (aC KC) 68 [.pure (.slice (l.map aG)), .pure (.slice (l.map aG))] c H=some (.pure (.bool true),H):=by
 refine dq rfl rfl rfl rfl rfl hH fun H hH=> ?_;refine aN (aJ KC au Tryz.func68 rfl rfl Tj (by simp) hH ?_);simp;refine Ii (H:=[]::H) l hn _ (by simp) l.length 0 (by omega) ?_;simp [aa]
theorem tK (l:List ak)(hn:l.length≤1000000)(Q:GX→bP→Prop)(hH:0<H.length): ∀k i:Nat,i+k=l.length→
  Q (.exit 0) ⟨[(4,aP)],H,26⟩→
  fL KC au 31 (lp Tryz.f31 0) [0,1,5] [4] Q [(0, .pure (.slice (l.map ak.row))),(1, .pure (.slice (l.map ak.row))),(5, .pure (.int .i64 i))] H 26:=by
 intro k
 induction k with
 |zero=>
  intro i hi h1;apply aw;conv=>arg 4;whnf
  have: ¬i<l.length:=(by omega);simp [this,hH];exact h1
 |succ k ih=>
  intro i hi h1;have hia:i<l.length:=(by omega);have hw:=cu (x:=(i:Int)+1) (by omega) (by omega);have ih':=ih (i+1) (by omega) h1;apply aw;conv=>arg 4;whnf
  simp [hia,hH,ak.row,hw];simpa [ak.row]using ih'
theorem FJ (l:List ak)(hn:l.length≤1000000)(hH:0<H.length):
  aI KC (aC KC) 31 [.pure (.slice (l.map ak.row)), .pure (.slice (l.map ak.row))] c H=some (.pure (.bool true),H):=by
 refine dq rfl rfl rfl rfl rfl hH fun H hH=> ?_;refine aN (aJ KC au Tryz.func31 rfl rfl Ik (by simp) hH ?_);simp;refine tK (H:=[]::H) l hn _ (by simp) l.length 0 (by omega) ?_;simp [aa]
theorem xu (r:aH)(hn:r.ah.length≤1000000)(Q:GX→bP→Prop): ∀k i:Nat,i+k=r.ah.length→
  Q (.exit 0) ⟨[(2, .aD (H.length,2) 0),(3, .aD (H.length,3) 0),(4,aP)],[(2,aA r),(3,aA r)]::H,97⟩→
  fL KC au 23 (lp Tryz.f23 0) [2,3,5] [2,3,4] Q [(2, .aD (H.length,2) 0),(3, .aD (H.length,3) 0),(5, .pure (.int .i64 i))] ([(2,aA r),(3,aA r)]::H) 97:=by
 intro k
 induction k with
 |zero=>
  intro i hi h1;apply aw;conv=>arg 4;whnf
  have: ¬i<r.ah.length:=(by omega);simp [this,aA];simpa [aA]using h1
 |succ k ih=>
  intro i hi h1;have hia:i<r.ah.length:=(by omega);have hw:=cu (x:=(i:Int)+1) (by omega) (by omega);have ih':=ih (i+1) (by omega) h1;apply aw;conv=>arg 4;whnf
  simp [hia,aQ.row,hw,aA];simpa [aQ.row,aA]using ih'
theorem xv (r:aH)(hn:r.ae.length≤1000000)(Q:GX→bP→Prop): ∀k i:Nat,i+k=r.ae.length→
  Q (.exit 2) ⟨[(4,aP)],[(2,aA r),(3,aA r)]::H,97⟩→
  fL KC au 23 (lp Tryz.f23 1) [2,3,6] [4] Q [(2, .aD (H.length,2) 0),(3, .aD (H.length,3) 0),(6, .pure (.int .i64 i))] ([(2,aA r),(3,aA r)]::H) 97:=by
 intro k
 induction k with
 |zero=>
  intro i hi h1;apply aw;conv=>arg 4;whnf
  have: ¬i<r.ae.length:=(by omega);simp [this,aA];simpa [aA]using h1
 |succ k ih=>
  intro i hi h1;have hia:i<r.ae.length:=(by omega);have hw:=cu (x:=(i:Int)+1) (by omega) (by omega);have ih':=ih (i+1) (by omega) h1;apply aw;conv=>arg 4;whnf
  simp [hia,aV.row,hw,aA];simpa [aV.row,aA]using ih'
structure eN (r:aH):Prop where
 p:r.ah.length≤1000000
 t:r.ae.length≤1000000
 s:r.seen.length≤1000000
 l:r.aY.length≤1000000
 a:r.ai.length≤1000000
theorem AM (r:aH)(h:eN r)(hH:0<H.length):
  bM KC (aC KC) 23 [.pure (.agg r.row), .pure (.agg r.row)] c H=some (.pure (.bool true),H):=by
 refine aN (aJ KC au Tryz.func23 rfl rfl Tk (by simp) hH ?_);rw [cQ];have E1:=fun c (H:aj) (hH:0<H.length)=>Ij (c:=c) (H:=H) r.seen h.s hH;have E2:=fun c (H:aj) (hH:0<H.length)=>Ij (c:=c) (H:=H) r.aY h.l hH;have E3:=fun c (H:aj) (hH:0<H.length)=>FJ (c:=c) (H:=H) r.ai h.a hH;simp [E1,E2,E3];have L1:=fun Q h1=>xu (H:=H) r h.p Q r.ah.length 0 (by omega) h1;simp [aA]at L1;refine L1 _ ?_;simp;have L2:=fun Q h1=>xv (H:=H) r h.t Q r.ae.length 0 (by omega) h1;simp [aA]at L2;refine L2 _ ?_;simp [aa]
theorem Lb {a b:GV}{p q:PV}(h1:nd H a p)(h2:nd H b q):(bm H [a,b]).1.map canon=[.pure p, .pure q]:=by
 obtain⟨x1,y1⟩:=lT h1;obtain⟨x2,y2⟩:=lT (kE y1 h2);rw [fG,x1,fG,x2];rfl
theorem qz {g1 g2:GV}(r:aH)(h:eN r)(r1:nd H g1 (.agg r.row))(r2:nd H g2 (.agg r.row))(hH:0<H.length):
  aI KC (aC KC) 23 [g1,g2] c H=some (.pure (.bool true),H):=
 gL KC rfl rfl (Lb r1 r2) rfl hH (fun H hH=>AM (c:=c) r h hH) rfl
noncomputable def HZ:aH→Bool:=na fun r=>decide (9<r.ah.length)||(decide (12<r.ae.length)||(decide (40<r.seen.length)||(decide (9<r.aY.length)||decide (50<r.ai.length))))
theorem AO (r:aH):HZ r=(decide (9<r.ah.length)||(decide (12<r.ae.length)||(decide (40<r.seen.length)||(decide (9<r.aY.length)||decide (50<r.ai.length))))):=by rw [HZ,cO]
theorem Cv {r:aH}(h:HZ r=false):r.ah.length≤9∧r.ae.length≤12∧r.seen.length≤40∧r.aY.length≤9∧r.ai.length≤50:=by
 rw [AO]at h;simp at h;omega
theorem Tb (r:aH)(hH:0<H.length):aI KC (aC KC) 9 [.pure (.agg r.row)] c H=some (.pure (.bool (HZ r)),H):=by
 refine dq rfl rfl rfl rfl rfl hH fun H hH=> ?_;refine aN (aJ KC au Tryz.func9 rfl rfl aau (by simp) hH ?_);have hd:=AO r;rw [cQ];by_cases h1:9<r.ah.length
 ·have h1':(9:Int)<r.ah.length:=(by omega);simp [h1]at hd;simp [h1',aa,hd]
 have h1': ¬(9:Int)<r.ah.length:=(by omega);by_cases h2:12<r.ae.length
 ·have h2':(12:Int)<r.ae.length:=(by omega);simp [h1,h2]at hd;simp [h1',h2',aa,hd]
 have h2': ¬(12:Int)<r.ae.length:=(by omega);by_cases h3:40<r.seen.length
 ·have h3':(40:Int)<r.seen.length:=(by omega);simp [h1,h2,h3]at hd;simp [h1',h2',h3',aa,hd]
 have h3': ¬(40:Int)<r.seen.length:=(by omega);by_cases h4:9<r.aY.length
 ·have h4':(9:Int)<r.aY.length:=(by omega);simp [h1,h2,h3,h4]at hd;simp [h1',h2',h3',h4',aa,hd]
 have h4': ¬(9:Int)<r.aY.length:=(by omega);by_cases h5:50<r.ai.length
 ·have h5':(50:Int)<r.ai.length:=(by omega);simp [h1,h2,h3,h4,h5]at hd;simp [h1',h2',h3',h4',h5',aa,hd]
 ·have h5': ¬(50:Int)<r.ai.length:=(by omega);simp [h1,h2,h3,h4,h5]at hd;simp [h1',h2',h3',h4',h5',aa,hd]
end
section
def aX (hs:List aF)(w:Nat)(hand:Int):Int:=if hand=0 then (hs.getD w bH).l else (hs.getD w bH).r
theorem cB (s:ay)(w:Nat)(hand:Int):bN s w hand=aX s.ao w hand:=rfl
def zh (h:aF)(t:Int):Nat:=(if h.l=t then 1 else 0)+(if h.r=t then 1 else 0)
def kj:List aF→Int→Nat
 | [],_=>0
 |h::l,t=>zh h t+kj l t
theorem AQ: ∀(l:List aF) (w:Nat) (h:aF) (t:Int),w<l.length→kj (l.set w h) t+zh (l.getD w bH) t=kj l t+zh h t
 | [],w,h,t,hw=>by simp at hw
 |x::l,0,h,t,hw=>by simp [kj];omega
 |x::l,w+1,h,t,hw=>by
  have:=AQ l w h t (by simpa using hw);simp only [List.set_cons_succ,kj,List.getD_cons_succ]at this⊢;omega
theorem rE (l:List aF)(w:Nat)(hand v t:Int)(hw:w<l.length):kj (bB l w hand v) t+(if aX l w hand=t then 1 else 0)=kj l t+(if v=t then 1 else 0):=by
 unfold bB;have:=AQ l w (if hand=0 then ⟨v,(l.getD w bH).r⟩else ⟨(l.getD w bH).l,v⟩) t hw;unfold aX;by_cases h:hand=0
 ·simp only [h,if_true,zh]at this⊢;omega
 ·simp only [h,if_false,zh]at this⊢;omega
theorem AR: ∀(l:List aF) (w:Nat) (t:Int),w<l.length→zh (l.getD w bH) t≤kj l t
 | [],w,t,hw=>by simp at hw
 |x::l,0,t,hw=>by simp [kj]
 |x::l,w+1,t,hw=>by
  have:=AR l w t (by simpa using hw);simp only [kj,List.getD_cons_succ]at this⊢;omega
theorem Lc (l:List aF)(w:Nat)(hand t:Int)(hw:w<l.length)(h:aX l w hand=t):1≤kj l t:=by
 have:=AR l w t hw;unfold aX at h;unfold zh at this;split at h
 ·rw [if_pos h]at this;omega
 ·rw [if_pos h]at this;omega
theorem jV (l:List aF)(w:Nat)(hand v:Int):(bB l w hand v).length=l.length:=by simp [bB]
theorem fb {l:List aF}{w:Nat}{hand v:Int}(p:Nat)(hw:w<l.length):(bB l w hand v).getD p bH=if p=w then (if hand=0 then ⟨v,(l.getD w bH).r⟩else ⟨(l.getD w bH).l,v⟩)else l.getD p bH:=by
 unfold bB;by_cases h:p=w
 ·subst h;simp [List.getD_eq_getElem?_getD,hw]
 ·have h': ¬w=p:=fun e=>h e.symm;simp [List.getD_eq_getElem?_getD,List.getElem?_set,h,h']
theorem CG {l:List aF}{w:Nat}{hand v:Int}(p:Nat)(hd:Int)(hw:w<l.length)(h0:hand=0∨hand=1)(h1:hd=0∨hd=1):aX (bB l w hand v) p hd=if p=w∧hd=hand then v else aX l p hd:=by
 unfold aX;rw [fb p hw];by_cases h:p=w
 ·subst h;rcases h0 with rfl|rfl<;>rcases h1 with rfl|rfl<;>simp
 ·simp [h]
theorem bc {α:Type}{l:List α}{i:Nat}{d:α}(h:i<l.length):l.getD i d=l[i]:=by simp [List.getD_eq_getElem?_getD,h]
theorem vB {α:Type}(l:List α)(i:Nat)(d:α):l.set i (l.getD i d)=l:=by
 by_cases h:i<l.length
 ·rw [bc h];simp
 ·exact List.set_eq_of_length_le (by omega)
theorem Tl: ∀q:Fin 16,∀b∈[(1:Int),2,4],(if ((IntKind.i64.wrap (((q.1:Nat):Int).tdiv b)).tmod 2==1)then 0≤IntKind.i64.wrap (((q.1:Nat):Int)-b)∧IntKind.i64.wrap (((q.1:Nat):Int)-b)<16 else 0≤IntKind.i64.wrap (((q.1:Nat):Int)+b)∧IntKind.i64.wrap (((q.1:Nat):Int)+b)<16):=by decide
theorem Il {ts:List br}{t:Nat}{bit:Int}{on:Bool}(ht:t<ts.length)(hs:0≤(ts.getD t aU).state∧(ts.getD t aU).state<16)(hb:bit=1∨bit=2∨bit=4):
  ∃st,0≤st∧st<16∧dJ ts t bit on=ts.set t ⟨(ts.getD t aU).cell,st⟩:=by
 rw [jk];by_cases h:fg ts t bit=on
 ·rw [if_pos h];refine⟨_,hs.1,hs.2, ?_⟩;exact(vB ts t aU).symm
 ·rw [if_neg h];have hm:bit∈[(1:Int),2,4]:=(by simp;exact hb);have h0:decide ((0:Int)≤t)=true:=(by simp);rw [iL,h0,Bool.true_and]at h;simp only [Int.toNat_natCast]at h;obtain⟨q,hq⟩:=Int.eq_ofNat_of_zero_le hs.1;have hq16:q<16:=(by omega);have B:=Tl ⟨q,hq16⟩ bit hm;simp only [←hq]at B;cases on
  ·have h':((IntKind.i64.wrap ((ts.getD t aU).state.tdiv bit)).tmod 2==1)=true:=(by simpa using h);rw [if_pos h']at B;exact⟨_,B.1,B.2,by simp⟩
  ·have h': ¬((IntKind.i64.wrap ((ts.getD t aU).state.tdiv bit)).tmod 2==1)=true:=(by simpa using h);rw [if_neg h']at B;exact⟨_,B.1,B.2,by simp⟩
structure jd (r:aH)(s:ay):Prop extends FF r s where
 pr: ∀x∈s.ah,0≤x∧x<r.wide*r.deep
 pn:s.ah.Nodup
 th: ∀t:Nat,t<s.ae.length→(kj s.ao t=1∧(s.ae.getD t aU).cell= -1)∨(kj s.ao t=0∧0≤(s.ae.getD t aU).cell∧(s.ae.getD t aU).cell<r.wide*r.deep)
 st: ∀t:Nat,t<s.ae.length→0≤(s.ae.getD t aU).state∧(s.ae.getD t aU).state<16
structure AB (r:aH)(w:Nat)(a:ak):Prop where
 aO:a.aO=w
 wl:w<r.ah.length
 hand:a.hand=0∨a.hand=1
 kind:1≤a.kind∧a.kind≤8
 take:a.kind=2→ ∃t:Nat,a.a9=t∧t<r.ae.length
 sM:a.kind=4→ ∃o:Nat,a.other=o∧o<r.ah.length∧o≠w
 step:a.kind=1→0≤a.cell∧a.cell<r.wide*r.deep
 form:mF a=true
theorem ic {r:aH}{s:ay}(h:FF r s){w:Nat}{hand:Int}(hw:w<r.ah.length):aX s.ao w hand<s.ae.length∧ -1≤aX s.ao w hand:=by
 have hl:w<s.ao.length:=(by rw [h.hl];exact hw);have:=h.hr w hl;unfold aX;rw [bc hl];split
 ·exact⟨this.1,this.2.2.1⟩
 ·exact⟨this.2.1,this.2.2.2⟩
theorem CH {l:List Int}(hn:l.Nodup){w:Nat}{c:Int}(hc:c∉l):(l.set w c).Nodup:=by
 induction l generalizing w with
 |nil=>simp
 |cons x l ih=>
  simp only [List.mem_cons,not_or]at hc;rw [List.nodup_cons]at hn
  cases w with
  |zero=>simp [hc.2,hn.2]
  |succ w=>
   rw [List.set_cons_succ,List.nodup_cons];refine⟨fun h=> ?_,ih hn.2 hc.2⟩;rcases List.mem_or_eq_of_mem_set h with h|h
   ·exact hn.1 h
   ·exact hc.1 h.symm
section
variable {r:aH} {s:ay} {w:Nat} {a:ak}
theorem lg (h:a.kind=1):gM s w a={s with ah:=s.ah.set w a.cell}:=by rw [jW,if_pos h]
theorem ov (h:a.kind=2):gM s w a={s with ao:=bB s.ao w a.hand a.a9,ae:=s.ae.set a.a9.toNat ⟨-1,(s.ae.getD a.a9.toNat aU).state⟩}:=by rw [jW,if_neg (by omega),if_pos h]
theorem mG (h:a.kind=3):gM s w a={s with ao:=bB s.ao w a.hand (-1),ae:=s.ae.set (aX s.ao w a.hand).toNat ⟨s.ah.getD w 0,(s.ae.getD (aX s.ao w a.hand).toNat aU).state⟩}:=by rw [jW,if_neg (by omega),if_neg (by omega),if_pos h];rfl
theorem ow (h:a.kind=4):gM s w a={s with ao:=bB (bB s.ao a.other.toNat (eA s.ao a.other.toNat) (aX s.ao w a.hand)) w a.hand (-1)}:=by rw [jW,if_neg (by omega),if_neg (by omega),if_neg (by omega),if_pos h];rfl
theorem oy (h:a.kind=5):gM s w a={s with ae:=dJ s.ae (aX s.ao w (1-a.hand)).toNat 1 true}:=by rw [jW,if_neg (by omega),if_neg (by omega),if_neg (by omega),if_neg (by omega),if_pos h];rfl
theorem oz (h:a.kind=6):gM s w a={s with ae:=dJ (dJ (dJ s.ae (aX s.ao w a.hand).toNat 2 false) (aX s.ao w a.hand).toNat 1 false) (aX s.ao w (1-a.hand)).toNat 2 true}:=by rw [jW,if_neg (by omega),if_neg (by omega),if_neg (by omega),if_neg (by omega),if_neg (by omega),if_pos h];rfl
theorem oA (h:a.kind=7):gM s w a={s with ae:=dJ s.ae (aX s.ao w a.hand).toNat 4 true}:=by rw [jW,if_neg (by omega),if_neg (by omega),if_neg (by omega),if_neg (by omega),if_neg (by omega),if_neg (by omega),if_pos h];rfl
theorem oB (h:a.kind=8):gM s w a={s with ae:=dJ s.ae (aX s.ao w a.hand).toNat 4 false}:=by rw [jW,if_neg (by omega),if_neg (by omega),if_neg (by omega),if_neg (by omega),if_neg (by omega),if_neg (by omega),if_neg (by omega)];rfl
theorem zi (h:a.kind=1):dy r s w a=(!(s.ah.contains a.cell) && ky r.wide (s.ah.getD w 0) a.cell):=by rw [fH,if_pos h]
theorem CI (h:a.kind=2):dy r s w a=(aX s.ao w a.hand== -1 && (s.ae.getD a.a9.toNat aU).cell==s.ah.getD w 0):=by rw [fH,if_neg (by omega),if_pos h];rfl
theorem zj (h:a.kind=3):dy r s w a=decide (0≤aX s.ao w a.hand):=by rw [fH,if_neg (by omega),if_neg (by omega),if_pos h];rfl
theorem zk (h:a.kind=4):dy r s w a=(decide (0≤aX s.ao w a.hand) && ky r.wide (s.ah.getD w 0) (s.ah.getD a.other.toNat 0) && decide (0≤eA s.ao a.other.toNat)):=by rw [fH,if_neg (by omega),if_neg (by omega),if_neg (by omega),if_pos h];rfl
theorem zl (h:a.kind=5):dy r s w a=(decide (0≤aX s.ao w a.hand) && (r.ae.getD (aX s.ao w a.hand).toNat cF).vC && decide (0≤aX s.ao w (1-a.hand))):=by rw [fH,if_neg (by omega),if_neg (by omega),if_neg (by omega),if_neg (by omega),if_pos h];rfl
theorem vD (h:a.kind=6):dy r s w a=(fg s.ae (aX s.ao w a.hand) 2 && !fg s.ae (aX s.ao w a.hand) 4 && decide (0≤aX s.ao w (1-a.hand)) && !fg s.ae (aX s.ao w (1-a.hand)) 2 && !fg s.ae (aX s.ao w (1-a.hand)) 4):=by rw [fH,if_neg (by omega),if_neg (by omega),if_neg (by omega),if_neg (by omega),if_neg (by omega),if_pos h];rfl
theorem zm (h:a.kind=7):dy r s w a=(decide (0≤aX s.ao w a.hand) && !fg s.ae (aX s.ao w a.hand) 4):=by rw [fH,if_neg (by omega),if_neg (by omega),if_neg (by omega),if_neg (by omega),if_neg (by omega),if_neg (by omega),if_pos h];rfl
theorem zn (h:a.kind=8):dy r s w a=fg s.ae (aX s.ao w a.hand) 4:=by rw [fH,if_neg (by omega),if_neg (by omega),if_neg (by omega),if_neg (by omega),if_neg (by omega),if_neg (by omega),if_neg (by omega)];rfl
theorem nf (h:1≤a.kind∧a.kind≤8):a.kind=1∨a.kind=2∨a.kind=3∨a.kind=4∨a.kind=5∨a.kind=6∨a.kind=7∨a.kind=8:=by omega
theorem AS {ts:List br}{x b:Int}(h:fg ts x b=true):0≤x:=by
 rw [iL]at h;simp at h;exact h.1
end
theorem mc {r:aH}{s:ay}{w:Nat}{a:ak}(hS:jd r s)(hA:AB r w a)(hp:dy r s w a=true):Ex s w a:=by
 have e1:=hS.pl;have e2:=hS.hl;have e3:=hS.tl;have wl:=hA.wl;have R0:=fun(hd:Int)=>ic hS.toFF (w:=w) (hand:=hd) wl;have nat: ∀x:Int,0≤x→x<s.ae.length→ ∃t:Nat,x=t∧t<s.ae.length:=fun x h1 h2=>⟨x.toNat,by omega,by omega⟩;have held:3≤a.kind→0≤aX s.ao w a.hand:=fun h3=>by
  rcases nf hA.kind with k|k|k|k|k|k|k|k
  ·omega
  ·omega
  ·rw [zj k]at hp;simpa using hp
  ·rw [zk k]at hp;simp at hp;exact hp.1.1
  ·rw [zl k]at hp;simp at hp;exact hp.1.1
  ·rw [vD k]at hp;simp at hp;exact AS hp.1.1.1.1
  ·rw [zm k]at hp;simp at hp;exact hp.1
  ·rw [zn k]at hp;exact AS hp
 refine⟨by omega,by omega,hA.aO,hA.hand,hA.kind,fun h=> ?_,fun h=>nat _ (held h) (R0 _).1,fun h=> ?_,fun h=>nat _ ?_ (R0 _).1⟩
 ·obtain⟨t,h1,h2⟩:=hA.take h;exact⟨t,h1,by omega⟩
 ·obtain⟨o,h1,h2,h3⟩:=hA.sM h;rw [zk h,h1]at hp;simp at hp;refine⟨o,h1,by omega,h3, ?_⟩;have:=hp.2;unfold eA at this⊢;split
  ·exact .inl rfl
  ·rename_i hh;rw [if_neg hh]at this;split
   ·exact .inr rfl
   ·rename_i hh2;rw [if_neg hh2]at this;omega
 ·show 0≤aX s.ao w (1-a.hand)
  rcases h with h|h
  ·rw [zl h]at hp;simp at hp;exact hp.2
  ·rw [vD h]at hp;simp at hp;exact hp.1.1.2
theorem cell_of {r:aH}{s:ay}(hS:jd r s){w:Nat}(hw:w<r.ah.length):0≤s.ah.getD w 0∧s.ah.getD w 0<r.wide*r.deep:=by
 have hl:w<s.ah.length:=(by rw [hS.pl];exact hw);rw [bc hl];exact hS.pr _ (List.getElem_mem hl)
theorem jd.Tm {r:aH}{s:ay}(hS:jd r s)(ts:List br)(hl:ts.length=s.ae.length)(hc: ∀t:Nat,t<s.ae.length→(ts.getD t aU).cell=(s.ae.getD t aU).cell∧0≤(ts.getD t aU).state∧(ts.getD t aU).state<16):jd r {s with ae:=ts} where
 pl:=hS.pl
 hl:=hS.hl
 tl:=hl.trans hS.tl
 hr:=fun i h=>by have:=hS.hr i h;rw [←hl]at this;exact this
 pr:=hS.pr
 pn:=hS.pn
 th:=fun t h=>by
  have h':t<s.ae.length:=(by rw [←hl];exact h);rw [(hc t h').1];exact hS.th t h'
 st:=fun t h=>(hc t (by rw [←hl];exact h)).2
theorem vE {α:Type}{l:List α}{i j:Nat}{x d:α}(hj:j<l.length):(l.set i x).getD j d=if i=j then x else l.getD j d:=by
 simp only [List.getD_eq_getElem?_getD,List.getElem?_set];split
 ·rename_i h;subst h;simp [hj]
 ·rfl
theorem qA {ts:List br}{t:Nat}{bit:Int}{on:Bool}(hst: ∀t:Nat,t<ts.length→0≤(ts.getD t aU).state∧(ts.getD t aU).state<16)(ht:t<ts.length)(hb:bit=1∨bit=2∨bit=4):
  (dJ ts t bit on).length=ts.length∧ ∀u:Nat,u<ts.length→((dJ ts t bit on).getD u aU).cell=(ts.getD u aU).cell∧0≤((dJ ts t bit on).getD u aU).state∧((dJ ts t bit on).getD u aU).state<16:=by
 obtain⟨st,h1,h2,h3⟩:=Il (on:=on) ht (hst t ht) hb;rw [h3];refine⟨by simp,fun u hu=> ?_⟩;rw [vE hu];split
 ·rename_i e;subst e;exact⟨rfl,h1,h2⟩
 ·exact⟨rfl,hst u hu⟩
theorem jd.set {r:aH}{s:ay}(hS:jd r s){t:Nat}{bit:Int}{on:Bool}(ht:t<s.ae.length)(hb:bit=1∨bit=2∨bit=4):jd r {s with ae:=dJ s.ae t bit on}:=by
 obtain⟨a,b⟩:=qA (on:=on) hS.st ht hb;exact hS.Tm _ a b
theorem jd.doA {r : aH} {s : ay} {w : Nat} {a : ak} (hS : jd r s) (hA : AB r w a) (hp : dy r s w a = true) : jd r (gM s w a) := by
  have D := mc hS hA hp
  have e1 := hS.pl
  have e2 := hS.hl
  have e3 := hS.tl
  have wl := hA.wl
  have hh := hA.hand
  have hk := hA.kind
  have hwh : w < s.ao.length := by omega
  have hrp : ∀ v : Int, -1 ≤ v → v < s.ae.length → ∀ i (h : i < (bB s.ao w a.hand v).length), (bB s.ao w a.hand v)[i].l < s.ae.length ∧ (bB s.ao w a.hand v)[i].r < s.ae.length ∧ -1 ≤ (bB s.ao w a.hand v)[i].l ∧ -1 ≤ (bB s.ao w a.hand v)[i].r := fun v h1 h2 i hi => by
    rw [← bc (d := bH) hi, fb i hwh]
    have hi' : i < s.ao.length := by simpa [bB] using hi
    have q := hS.hr i hi'
    split
    · rename_i e; subst e
      rw [bc hi']
      split
      · exact ⟨h2, q.2.1, h1, q.2.2.2⟩
      · exact ⟨q.1, h2, q.2.2.1, h1⟩
    · rw [bc hi']; exact q
  rcases nf hA.kind with k1 | k2 | k3 | k4 | k5 | k6 | k7 | k8
  · rw [lg k1]
    rw [zi k1] at hp
    obtain ⟨c1, c2⟩ := hA.step k1
    simp only [Bool.and_eq_true, Bool.not_eq_true', List.contains_eq_mem] at hp
    have hnc : a.cell ∉ s.ah := by simpa using hp.1
    exact { pl := by simpa using hS.pl, hl := hS.hl, tl := hS.tl, hr := hS.hr, pr := fun x hx => by
              rcases List.mem_or_eq_of_mem_set hx with h | h
              · exact hS.pr x h
              · subst h; exact ⟨c1, c2⟩
            pn := CH hS.pn hnc, th := hS.th, st := hS.st }
  · obtain ⟨t, ht1, ht2⟩ := D.take k2
    have C := cell_of hS wl
    rw [CI k2] at hp
    rw [ov k2]
    simp only [ht1, Int.toNat_natCast, Bool.and_eq_true, beq_iff_eq] at hp ⊢
    obtain ⟨p1, p2⟩ := hp
    have cnt := fun u => rE s.ao w a.hand t u hwh
    have tt := hS.th t ht2
    have hrt := hrp t (by omega) (by omega)
    refine { pl := hS.pl, hl := by simpa [jV] using hS.hl, tl := by simpa using hS.tl, hr := fun i h => by rw [List.length_set]; exact hrt i h, pr := hS.pr, pn := hS.pn, th := fun u hu => ?_, st := fun u hu => ?_ }
    · have hu' : u < s.ae.length := by simpa using hu
      have q := hS.th u hu'
      have := cnt u
      rw [p1] at this
      rw [vE hu']
      by_cases e : t = u
      · subst e
        have e1 : ¬ ((-1 : Int) = (t : Int)) := by omega
        simp only [e1, if_true, if_false, eq_self] at this ⊢
        exact .inl ⟨by omega, trivial⟩
      · have e1 : ¬ ((-1 : Int) = (u : Int)) := by omega
        have e2 : ¬ ((t : Int) = (u : Int)) := by omega
        simp only [e, e1, e2, if_false] at this ⊢
        rw [show kj (bB s.ao w a.hand t) u = kj s.ao u by omega]
        exact q
    · have hu' : u < s.ae.length := by simpa using hu
      rw [vE hu']
      split
      · exact hS.st t ht2
      · exact hS.st u hu'
  · obtain ⟨t, ht1', ht2⟩ := D.held (by omega)
    rw [cB] at ht1'
    have C := cell_of hS wl
    rw [mG k3]
    simp only [ht1', Int.toNat_natCast]
    have cnt := fun u => rE s.ao w a.hand (-1) u hwh
    have tt := hS.th t ht2
    have hrt := hrp (-1) (by omega) (by omega)
    have ca := Lc s.ao w a.hand t hwh ht1'
    refine { pl := hS.pl, hl := by simpa [jV] using hS.hl, tl := by simpa using hS.tl, hr := fun i h => by rw [List.length_set]; exact hrt i h, pr := hS.pr, pn := hS.pn, th := fun u hu => ?_, st := fun u hu => ?_ }
    · have hu' : u < s.ae.length := by simpa using hu
      have q := hS.th u hu'
      have := cnt u
      rw [ht1'] at this
      have e1 : ¬ ((-1 : Int) = (u : Int)) := by omega
      rw [vE hu']
      by_cases e : t = u
      · subst e
        simp only [e1, if_true, if_false] at this ⊢
        omega
      · have e2 : ¬ ((t : Int) = (u : Int)) := by omega
        simp only [e, e1, e2, if_false] at this ⊢
        rw [show kj (bB s.ao w a.hand (-1)) u = kj s.ao u by omega]
        exact q
    · have hu' : u < s.ae.length := by simpa using hu
      rw [vE hu']
      split
      · exact hS.st t ht2
      · exact hS.st u hu'
  · obtain ⟨t, ht1', ht2⟩ := D.held (by omega)
    rw [cB] at ht1'
    obtain ⟨o, o1, o2, o3, o4⟩ := D.sM k4
    rw [ow k4]
    simp only [ht1', o1, Int.toNat_natCast]
    obtain ⟨tk, etk⟩ : ∃ tk, eA s.ao o = tk := ⟨_, rfl⟩
    rw [etk] at o4 ⊢
    have tkf : aX s.ao o tk = -1 := by
      unfold eA at etk
      unfold aX
      split at etk
      · subst etk; simpa using ‹_›
      · split at etk
        · subst etk; simpa using ‹_›
        · omega
    have hl1 : w < (bB s.ao o tk t).length := by rw [jV]; exact hwh
    have c1 := fun u => rE s.ao o tk t u o2
    have c2 := fun u => rE (bB s.ao o tk t) w a.hand (-1) u hl1
    have hw2 : aX (bB s.ao o tk t) w a.hand = t := by
      rw [CG w a.hand o2 o4 hh, if_neg (fun e => o3 e.1.symm)]; exact ht1'
    refine { pl := hS.pl, hl := by simpa [jV] using hS.hl, tl := hS.tl, hr := fun i h => ?_, pr := hS.pr, pn := hS.pn, th := fun u hu => ?_, st := hS.st }
    · rw [← bc (d := bH) h, fb i hl1]
      have hi' : i < s.ao.length := by simpa [bB] using h
      have q := hS.hr i hi'
      have qw := hS.hr w hwh
      have ne : ¬ w = o := fun e => o3 e.symm
      have two : ((bB s.ao o tk t).getD i bH).l < s.ae.length ∧ ((bB s.ao o tk t).getD i bH).r < s.ae.length ∧ -1 ≤ ((bB s.ao o tk t).getD i bH).l ∧ -1 ≤ ((bB s.ao o tk t).getD i bH).r := by
        rw [fb i o2]
        split
        · rename_i e; subst e
          rw [bc hi']
          split
          · exact ⟨by show (t : Int) < _; omega, q.2.1, by show (-1 : Int) ≤ t; omega, q.2.2.2⟩
          · exact ⟨q.1, by show (t : Int) < _; omega, q.2.2.1, by show (-1 : Int) ≤ t; omega⟩
        · rw [bc hi']; exact q
      split
      · rename_i e; subst e
        split
        · exact ⟨by show (-1 : Int) < _; omega, two.2.1, by show (-1 : Int) ≤ -1; omega, two.2.2.2⟩
        · exact ⟨two.1, by show (-1 : Int) < _; omega, two.2.2.1, by show (-1 : Int) ≤ -1; omega⟩
      · exact two
    · have q := hS.th u hu
      have d1 := c1 u
      have d2 := c2 u
      rw [hw2] at d2
      rw [tkf] at d1
      have e1 : ¬ ((-1 : Int) = (u : Int)) := by omega
      simp only [e1, if_false] at d1 d2
      show (kj (bB (bB s.ao o tk t) w a.hand (-1)) u = 1 ∧ _) ∨ (kj (bB (bB s.ao o tk t) w a.hand (-1)) u = 0 ∧ _)
      rw [show kj (bB (bB s.ao o tk t) w a.hand (-1)) u = kj s.ao u by omega]
      exact q
  · obtain ⟨q, q1, q2⟩ := D.xY (.inl k5)
    rw [cB] at q1
    rw [oy k5]
    simp only [q1, Int.toNat_natCast]
    exact hS.set q2 (.inl rfl)
  · obtain ⟨t, ht1', ht2⟩ := D.held (by omega)
    rw [cB] at ht1'
    obtain ⟨q, q1, q2⟩ := D.xY (.inr k6)
    rw [cB] at q1
    rw [oz k6]
    simp only [q1, ht1', Int.toNat_natCast]
    have S1 := hS.set (on := false) ht2 (.inr (.inl rfl) : (2 : Int) = 1 ∨ (2 : Int) = 2 ∨ (2 : Int) = 4)
    have S2 := S1.set (t := t) (on := false) (by simpa [dU] using ht2) (.inl rfl : (1 : Int) = 1 ∨ (1 : Int) = 2 ∨ (1 : Int) = 4)
    exact S2.set (t := q) (on := true) (by simpa [dU] using q2) (.inr (.inl rfl))
  · obtain ⟨t, ht1', ht2⟩ := D.held (by omega)
    rw [cB] at ht1'
    rw [oA k7]
    simp only [ht1', Int.toNat_natCast]
    exact hS.set ht2 (.inr (.inr rfl))
  · obtain ⟨t, ht1', ht2⟩ := D.held (by omega)
    rw [cB] at ht1'
    rw [oB k8]
    simp only [ht1', Int.toNat_natCast]
    exact hS.set ht2 (.inr (.inr rfl))
end
section
variable {c:Nat} {H:aj}
def lU (a b:Int):Int:=IntKind.i64.wrap (BitVec.ofInt 64 a &&& ~~~(BitVec.ofInt 64 b)).toNat
@[simp] theorem PE {K:Ctx}{t:TypeId}{a b:Int}:gz K .andNot t (.pure (.int .i64 a)) (.pure (.int .i64 b))=some (.int .i64 (lU a b)):=by
 simp only [gz,oC,lU];rfl
theorem Im: ∀q:Fin 16,∀b∈[(2:Int),4],(Tn .i64 ((q.1:Nat):Int) b==b)=((IntKind.i64.wrap (((q.1:Nat):Int).tdiv b)).tmod 2==1):=by decide+kernel
def bA (r:aH)(s:ay):List PV:=[.int .i64 r.wide, .int .i64 r.deep, .slice (r.ah.map aQ.row), .slice (r.ae.map aV.row), .slice (r.seen.map aG), .slice (r.aY.map aG), .slice (r.ai.map ak.row), .slice (s.ah.map aG), .slice (s.ao.map aF.row), .slice (s.ae.map br.row)]
theorem bz (a:ak):a.row=[.int .i64 a.aR, .int .i64 a.aO, .int .i64 a.kind, .int .i64 a.hand, .int .i64 a.a9, .int .i64 a.cell, .int .i64 a.other, .int .i64 a.cd, .int .i64 a.iv]:=rfl
theorem AU {r:aH}{s:ay}{w:Nat}{a:ak}(hw:w<s.ao.length)(h1:a.aO=w)(h2:a.hand=0∨a.hand=1)(hH:0<H.length):
  bM KC (aC KC) 154 [.pure (.agg (bA r s)), .pure (.agg a.row)] c H=some (.pure (.int .i64 (aX s.ao w a.hand)),H):=by
 refine aN (aJ KC au Tryz.func154 rfl rfl Ld (by simp) hH ?_);rw [bz];unfold bA aX;rw [bc hw];rcases h2 with h2|h2
 ·simp [h1,h2,hw,aF.row,aa]
 ·simp [h1,h2,hw,aF.row,aa]
theorem vF {r:aH}{s:ay}{w:Nat}{a:ak}(hw:w<s.ao.length)(h1:a.aO=w)(h2:a.hand=0∨a.hand=1)(hH:0<H.length):
  bM KC (aC KC) 153 [.pure (.agg (bA r s)), .pure (.agg a.row)] c H=some (.pure (.int .i64 (aX s.ao w (1-a.hand))),H):=by
 refine aN (aJ KC au Tryz.func153 rfl rfl Le (by simp) hH ?_);rw [bz];unfold bA aX;rw [bc hw];have w0:IntKind.i64.wrap (1-0)=1:=rfl;have w1:IntKind.i64.wrap (1-1)=0:=rfl;rcases h2 with h2|h2
 ·simp [h1,h2,hw,aF.row,aa,w0]
 ·simp [h1,h2,hw,aF.row,aa,w1]
theorem Io {r:aH}{s:ay}{t:Nat}{b:Int}(ht:t<s.ae.length)(hs:0≤(s.ae.getD t aU).state∧(s.ae.getD t aU).state<16)(hb:b=2∨b=4)(hH:0<H.length):
  bM KC (aC KC) 157 [.pure (.agg (bA r s)), .pure (.int .i64 t), .pure (.int .i64 b)] c H=some (.pure (.bool (fg s.ae t b)),H):=by
 refine aN (aJ KC au Tryz.func157 rfl rfl Lf (by simp) hH ?_);have hd:=iL s.ae t b;simp only [Int.toNat_natCast,bc ht]at hd hs;obtain⟨q,hq⟩:=Int.eq_ofNat_of_zero_le hs.1;have e:=Im ⟨q,by omega⟩ b (by simp;exact hb);simp only [←hq]at e;have h0:decide ((0:Int)≤t)=true:=(by simp);rw [h0,Bool.true_and,←e]at hd;unfold bA;simp [ht,br.row,aa,hd]
theorem AV (x:Int):(x=0∧x*x=0)∨(x=1∧x*x=1)∨(x= -1∧x*x=1)∨((x≠0∧x≠1∧x≠ -1)∧4≤x*x):=by
 by_cases h0:x=0
 ·subst h0;exact .inl ⟨rfl,rfl⟩
 by_cases h1:x=1
 ·subst h1;exact .inr (.inl ⟨rfl,rfl⟩)
 by_cases h2:x= -1
 ·subst h2;exact .inr (.inr (.inl ⟨rfl,rfl⟩))
 refine .inr (.inr (.inr ⟨⟨h0,h1,h2⟩, ?_⟩));rw [←Int.natAbs_mul_self];have:2≤x.natAbs:=(by omega);have:=Nat.mul_le_mul this this;omega
theorem PF {x:Int}{n:Nat}(h1: -(n:Int)≤x)(h2:x≤n):0≤x*x∧x*x≤((n*n:Nat):Int):=by
 rw [←Int.natAbs_mul_self];have:x.natAbs≤n:=(by omega);have:=Nat.mul_le_mul this this;omega
theorem Lh {w a b:Int}(hw:1≤w)(hw6:w≤1000)(ha:0≤a)(ha2:a<1000000)(hb:0≤b)(hb2:b<1000000):
  (IntKind.i64.wrap (IntKind.i64.wrap (IntKind.i64.wrap (a.tmod w-b.tmod w)*IntKind.i64.wrap (a.tmod w-b.tmod w))+IntKind.i64.wrap (IntKind.i64.wrap (IntKind.i64.wrap (a.tdiv w)-IntKind.i64.wrap (b.tdiv w))*IntKind.i64.wrap (IntKind.i64.wrap (a.tdiv w)-IntKind.i64.wrap (b.tdiv w))))==1)=ky w a b:=by
 rw [xZ];have h1:0≤a.tmod w:=Int.tmod_nonneg _ ha;have h2:a.tmod w<w:=Int.tmod_lt_of_pos _ (by omega);have h3:0≤b.tmod w:=Int.tmod_nonneg _ hb;have h4:b.tmod w<w:=Int.tmod_lt_of_pos _ (by omega);have h5:0≤a.tdiv w:=Int.tdiv_nonneg ha (by omega);have h6:a.tdiv w≤a:=Int.tdiv_le_self _ ha;have h7:0≤b.tdiv w:=Int.tdiv_nonneg hb (by omega);have h8:b.tdiv w≤b:=Int.tdiv_le_self _ hb;rw [cu (x:=a.tmod w-b.tmod w) (by omega) (by omega),cu (x:=a.tdiv w) (by omega) (by omega),cu (x:=b.tdiv w) (by omega) (by omega),cu (x:=a.tdiv w-b.tdiv w) (by omega) (by omega)];have hx1: -(1000:Int)≤a.tmod w-b.tmod w:=(by omega);have hx2:a.tmod w-b.tmod w≤1000:=(by omega);have hy1: -(1000000:Int)≤a.tdiv w-b.tdiv w:=(by omega);have hy2:a.tdiv w-b.tdiv w≤1000000:=(by omega);generalize a.tmod w-b.tmod w=x at hx1 hx2⊢;generalize a.tdiv w-b.tdiv w=y at hy1 hy2⊢;have qx:=PF (n:=1000) hx1 hx2;have qy:=PF (n:=1000000) hy1 hy2;rw [cu (x:=x*x) (by omega) (by omega),cu (x:=y*y) (by omega) (by omega),cu (x:=x*x+y*y) (by omega) (by omega)];have cx:=AV x;have cy:=AV y;rw [Bool.eq_iff_iff];simp only [Bool.or_eq_true,Bool.and_eq_true,beq_iff_eq];omega
theorem FK {w d a b:Int}{x1 x2 x3 x4 x5:PV}(hw:1≤w)(hw6:w≤1000)(ha:0≤a)(ha2:a<1000000)(hb:0≤b)(hb2:b<1000000)(hH:0<H.length):
  bM KC (aC KC) 155 [.pure (.agg [.int .i64 w, .int .i64 d,x1,x2,x3,x4,x5]), .pure (.int .i64 a), .pure (.int .i64 b)] c H=some (.pure (.bool (ky w a b)),H):=by
 refine aN (aJ KC au Tryz.func155 rfl rfl Li (by simp) hH ?_);have e:=Lh hw hw6 ha ha2 hb hb2;have w0: ¬w=0:=(by omega);simp [w0,aa];exact e
theorem AW {w d a b:Int}{x1 x2 x3 x4 x5:PV}(hw:1≤w)(hw6:w≤1000)(ha:0≤a)(ha2:a<1000000)(hb:0≤b)(hb2:b<1000000)(hH:0<H.length):
  aI KC (aC KC) 155 [.pure (.agg [.int .i64 w, .int .i64 d,x1,x2,x3,x4,x5]), .pure (.int .i64 a), .pure (.int .i64 b)] c H=some (.pure (.bool (ky w a b)),H):=
 dq rfl rfl rfl rfl rfl hH fun H hH=>FK hw hw6 ha ha2 hb hb2 hH
noncomputable def Ip:List Int→Int→Int:=na fun l x=>oD (fun j=>l.getD j 0==x) l.length 0
theorem vG (l:List Int)(x:Int):Ip l x=oD (fun j=>l.getD j 0==x) l.length 0:=by rw [Ip,cO]
theorem CJ (l:List Int)(x:Int)(hn:l.length≤1000000)(Q:GX→bP→Prop)(hH:0<H.length): ∀k i:Nat,i+k=l.length→
  (oD (fun j=>l.getD j 0==x) k i= -1→Q (.exit 0) ⟨[(4,aP)],H,19⟩)→(0≤oD (fun j=>l.getD j 0==x) k i→Q .ret ⟨[(4, .pure (.int .i64 (oD (fun j=>l.getD j 0==x) k i)))],H,19⟩)→
  fL KC au 131 (lp Tryz.f131 0) [0,1,7,8] [4] Q [(0, .pure (.slice (l.map aG))),(1, .pure (.int .i64 x)),(7, .pure (.int .i64 l.length)),(8, .pure (.int .i64 i))] H 19:=by
 intro k
 induction k with
 |zero=>
  intro i hi h1 h2;apply aw;conv=>arg 4;whnf
  have: ¬i<l.length:=(by omega);simp [this,hH];exact h1 rfl
 |succ k ih=>
  intro i hi h1 h2;have hia:i<l.length:=(by omega);have hw:=cu (x:=(i:Int)+1) (by omega) (by omega);have ih':=ih (i+1) (by omega);have hg:l.getD i 0=l[i]:=bc hia;unfold oD at h1 h2;simp only [hg]at h1 h2;apply aw;conv=>arg 4;whnf
  by_cases he:x=l[i]
  ·have he2:(l[i]==x)=true:=(by simp [he]);simp only [he2,if_true]at h1 h2;simp [hia,hH,aG,he];exact h2 (by omega)
  ·have he':(x==l[i])=false:=(by simpa using he);have he2: ¬(l[i]==x)=true:=(by simp;exact fun e=>he e.symm);rw [if_neg he2]at h1 h2;simp [hia,hH,aG,he',hw];simpa [aG]using ih' h1 h2
theorem rF (l:List Int)(x:Int)(hn:l.length≤1000000)(hH:0<H.length):aI KC (aC KC) 131 [.pure (.slice (l.map aG)), .pure (.int .i64 x)] c H=some (.pure (.int .i64 (Ip l x)),H):=by
 refine dq rfl rfl rfl rfl rfl hH fun H hH=> ?_;refine aN (aJ KC au Tryz.func131 rfl rfl Lj (by simp) hH ?_);have hd:=vG l x;simp;refine CJ (H:=[]::H) l x hn _ (by simp) l.length 0 (by omega) (fun h=> ?_) (fun h=> ?_)
 ·rw [←hd]at h;simp [h,aa]
 ·rw [←hd];simp [aa]
theorem uN (l:List Int)(x:Int)(hn:l.length≤1000000)(hH:0<H.length):aI KC (aC KC) 115 [.pure (.slice (l.map aG)), .pure (.int .i64 x)] c H=some (.pure (.bool (l.contains x)),H):=by
 refine dq rfl rfl rfl rfl rfl hH fun H hH=> ?_;refine aN (aJ KC au Tryz.func115 rfl rfl Lk (by simp) hH ?_);have I:=fun c (H:aj) (hH:0<H.length)=>rF (c:=c) (H:=H) l x hn hH;have e:decide (0≤Ip l x)=l.contains x:=by
  rw [vG,Bool.eq_iff_iff,decide_eq_true_eq,oE,List.contains_iff_mem];constructor
  ·rintro⟨j,_,h2,h3⟩;have hj:j<l.length:=(by omega);rw [bc hj]at h3;have:l[j]=x:=(by simpa using h3);exact this▸List.getElem_mem hj
  ·intro h;obtain⟨j,hj,rfl⟩:=List.getElem_of_mem h;exact⟨j,by omega,by omega,by rw [bc hj];simp⟩
 simp only [List.contains_eq_mem]at e;simp [I,aa];simpa using e
theorem AX {r:aH}{s:ay}{w:Nat}(hw:w<s.ao.length)(hH:0<H.length):
  bM KC (aC KC) 156 [.pure (.agg (bA r s)), .pure (.int .i64 w)] c H=some (.pure (.int .i64 (eA s.ao w)),H):=by
 refine aN (aJ KC au Tryz.func156 rfl rfl Ll (by simp) hH ?_);have I:=fun c (H:aj) (hH:0<H.length)=>rF (c:=c) (H:=H) [s.ao[w].l,s.ao[w].r] (-1) (by simp) hH;have e:Ip [s.ao[w].l,s.ao[w].r] (-1)=eA s.ao w:=by
  rw [vG];unfold eA;rw [bc hw];simp [oD]
 rw [e]at I;simp [aG]at I;have gs: ∀a b:PV,km KC 84 (.dN [a,b]) none none none=some (.pure (.slice [[a],[b]])):=fun a b=>by
  have t53:uO Tryz.prog 84=some (2,3):=(by kernel_rfl);unfold km;simp [chunks,t53]
 unfold bA;simp [hw,aF.row,gs,I,aa]
end
section
variable {c:Nat} {H:aj}
structure WB (r:aH):Prop where
 w1:1≤r.wide
 w6:r.wide≤1000
 n6:r.wide*r.deep<1000000
 pl:r.ah.length≤1000000
 tl:r.ae.length≤1000000
section
variable {r:aH} {s:ay} {w:Nat} {a:ak}
theorem lV (hS:FF r s)(hA:AB r w a)(hH:0<H.length):aI KC (aC KC) 154 [.pure (.agg (bA r s)), .pure (.agg a.row)] c H=some (.pure (.int .i64 (aX s.ao w a.hand)),H):=
 dq rfl rfl rfl rfl rfl hH fun H hH=>AU (by rw [hS.hl];exact hA.wl) hA.aO hA.hand hH
theorem sN (hS:FF r s)(hA:AB r w a)(hH:0<H.length):aI KC (aC KC) 153 [.pure (.agg (bA r s)), .pure (.agg a.row)] c H=some (.pure (.int .i64 (aX s.ao w (1-a.hand))),H):=
 dq rfl rfl rfl rfl rfl hH fun H hH=>vF (by rw [hS.hl];exact hA.wl) hA.aO hA.hand hH
theorem vH (hS:jd r s){t:Nat}{b:Int}(ht:t<s.ae.length)(hb:b=2∨b=4)(hH:0<H.length):aI KC (aC KC) 157 [.pure (.agg (bA r s)), .pure (.int .i64 t), .pure (.int .i64 b)] c H=some (.pure (.bool (fg s.ae t b)),H):=
 dq rfl rfl rfl rfl rfl hH fun H hH=>Io ht (hS.st t ht) hb hH
theorem Lm {o:Nat}(ho:o<s.ao.length)(hH:0<H.length):aI KC (aC KC) 156 [.pure (.agg (bA r s)), .pure (.int .i64 o)] c H=some (.pure (.int .i64 (eA s.ao o)),H):=
 dq rfl rfl rfl rfl rfl hH fun H hH=>AX ho hH
theorem CK (hS:jd r s)(hW:WB r)(hA:AB r w a)(hk:a.kind=1)(hH:0<H.length):
  aI KC (aC KC) 135 [.pure (.agg (bA r s)), .pure (.agg a.row)] c H=some (.pure (.bool (dy r s w a)),H):=by
 refine dq rfl rfl rfl rfl rfl hH fun H hH=> ?_;refine aN (aJ KC au Tryz.func135 rfl rfl Ln (by simp) hH ?_);have hwp:w<s.ah.length:=(by rw [hS.pl];exact hA.wl);have C1:=cell_of hS hA.wl;have C2:=hA.step hk;have n6:=hW.n6;have hd:=zi (r:=r) (s:=s) (w:=w) hk;rw [bc hwp]at hd C1;have N:=fun c (H:aj) (hH:0<H.length)=>AW (c:=c) (H:=H) (w:=r.wide) (d:=r.deep) (a:=s.ah[w]) (b:=a.cell) (x1:= .slice (r.ah.map aQ.row)) (x2:= .slice (r.ae.map aV.row)) (x3:= .slice (r.seen.map aG)) (x4:= .slice (r.aY.map aG)) (x5:= .slice (r.ai.map ak.row)) hW.w1 hW.w6 C1.1 (by omega) C2.1 (by omega) hH;have CT:=fun c (H:aj) (hH:0<H.length)=>uN (c:=c) (H:=H) s.ah a.cell (by rw [hS.pl];exact hW.pl) hH;rw [bz];unfold bA
 cases hn:ky r.wide s.ah[w] a.cell with
 |false=>
  simp [hn]at hd;simp [hA.aO,hwp,aG,N,hn,aa,hd]
 |true=>
  rw [hn,Bool.and_true]at hd
  cases hc:s.ah.contains a.cell with
  |false=>
   rw [hc]at hd CT;simp [hA.aO,hwp,aG,N,hn,CT,aa,hd]
  |true=>
   rw [hc]at hd CT;simp [hA.aO,hwp,aG,N,hn,CT,aa,hd]
theorem CL (hS:jd r s)(hA:AB r w a)(hk:a.kind=2)(hH:0<H.length):
  aI KC (aC KC) 137 [.pure (.agg (bA r s)), .pure (.agg a.row)] c H=some (.pure (.bool (dy r s w a)),H):=by
 refine dq rfl rfl rfl rfl rfl hH fun H hH=> ?_;refine aN (aJ KC au Tryz.func137 rfl rfl Lo (by simp) hH ?_);have hwp:w<s.ah.length:=(by rw [hS.pl];exact hA.wl);obtain⟨t,ht,htl⟩:=hA.take hk;have htl':t<s.ae.length:=(by rw [hS.tl];exact htl);have R:=ic hS.toFF (w:=w) (hand:=a.hand) hA.wl;have hd:=CI (r:=r) (s:=s) (w:=w) hk;rw [bc hwp,ht,Int.toNat_natCast,bc htl']at hd;have E:=fun c (H:aj) (hH:0<H.length)=>lV (c:=c) (H:=H) hS.toFF hA hH;rw [bz]at E⊢;unfold bA at E⊢;by_cases h0:aX s.ao w a.hand<0
 ·have h1:aX s.ao w a.hand= -1:=(by omega);rw [h1]at hd E;simp at hd;simp [hA.aO,ht]at E;simp [hA.aO,hwp,aG,E,br.row,ht,htl',aa,hd]
 ·have h1: ¬aX s.ao w a.hand= -1:=(by omega);have h1':(aX s.ao w a.hand== -1)=false:=(by simpa using h1);rw [h1',Bool.false_and]at hd;simp [hA.aO,ht]at E;simp [hA.aO,ht,E,h0,aa,hd]
theorem FL (hS:jd r s)(hA:AB r w a)(hk:a.kind=3)(hH:0<H.length):
  aI KC (aC KC) 139 [.pure (.agg (bA r s)), .pure (.agg a.row)] c H=some (.pure (.bool (dy r s w a)),H):=by
 refine dq rfl rfl rfl rfl rfl hH fun H hH=> ?_;refine aN (aJ KC au Tryz.func139 rfl rfl Lp (by simp) hH ?_);have hd:=zj (r:=r) (s:=s) (w:=w) hk;have E:=fun c (H:aj) (hH:0<H.length)=>lV (c:=c) (H:=H) hS.toFF hA hH;rw [bz]at E⊢;unfold bA at E⊢;simp [E,aa,hd]
theorem CM (hS:jd r s)(hW:WB r)(hA:AB r w a)(hk:a.kind=4)(hH:0<H.length):
  aI KC (aC KC) 141 [.pure (.agg (bA r s)), .pure (.agg a.row)] c H=some (.pure (.bool (dy r s w a)),H):=by
 refine dq rfl rfl rfl rfl rfl hH fun H hH=> ?_;refine aN (aJ KC au Tryz.func141 rfl rfl Lq (by simp) hH ?_);have hwp:w<s.ah.length:=(by rw [hS.pl];exact hA.wl);obtain⟨o,ho,hol,_⟩:=hA.sM hk;have hop:o<s.ah.length:=(by rw [hS.pl];exact hol);have hoh:o<s.ao.length:=(by rw [hS.hl];exact hol);have C1:=cell_of hS hA.wl;have C2:=cell_of hS hol;have n6:=hW.n6;have hd:=zk (r:=r) (s:=s) (w:=w) hk;rw [bc hwp,ho,Int.toNat_natCast,bc hop]at hd;rw [bc hwp]at C1;rw [bc hop]at C2;have N:=fun c (H:aj) (hH:0<H.length)=>AW (c:=c) (H:=H) (w:=r.wide) (d:=r.deep) (a:=s.ah[w]) (b:=s.ah[o]) (x1:= .slice (r.ah.map aQ.row)) (x2:= .slice (r.ae.map aV.row)) (x3:= .slice (r.seen.map aG)) (x4:= .slice (r.aY.map aG)) (x5:= .slice (r.ai.map ak.row)) hW.w1 hW.w6 C1.1 (by omega) C2.1 (by omega) hH;have E:=fun c (H:aj) (hH:0<H.length)=>lV (c:=c) (H:=H) hS.toFF hA hH;have G:=fun c (H:aj) (hH:0<H.length)=>Lm (c:=c) (H:=H) (r:=r) hoh hH;rw [bz]at E⊢;unfold bA at E G⊢;by_cases h0:0≤aX s.ao w a.hand
 ·cases hn:ky r.wide s.ah[w] s.ah[o]with
  |false=>
   simp [hn]at hd;simp [hA.aO,ho]at E;simp [hA.aO,hwp,aG,E,h0,N,hn,ho,hop,aa,hd]
  |true=>
   simp [hn,h0]at hd;simp [hA.aO,ho]at E;simp [hA.aO,hwp,aG,E,h0,N,hn,ho,hop,G,aa,hd]
 ·simp [h0]at hd;simp [hA.aO,ho]at E;simp [hA.aO,ho,E,h0,aa,hd]
theorem CN (hS:jd r s)(hA:AB r w a)(hk:a.kind=5)(hH:0<H.length):
  aI KC (aC KC) 143 [.pure (.agg (bA r s)), .pure (.agg a.row)] c H=some (.pure (.bool (dy r s w a)),H):=by
 refine dq rfl rfl rfl rfl rfl hH fun H hH=> ?_;refine aN (aJ KC au Tryz.func143 rfl rfl Lr (by simp) hH ?_);have R:=ic hS.toFF (w:=w) (hand:=a.hand) hA.wl;have hd:=zl (r:=r) (s:=s) (w:=w) hk;have E:=fun c (H:aj) (hH:0<H.length)=>lV (c:=c) (H:=H) hS.toFF hA hH;have G:=fun c (H:aj) (hH:0<H.length)=>sN (c:=c) (H:=H) hS.toFF hA hH;rw [bz]at E G⊢;unfold bA at E G⊢;by_cases h0:0≤aX s.ao w a.hand
 ·obtain⟨t,ht⟩:=Int.eq_ofNat_of_zero_le h0;have htl:t<r.ae.length:=(by have:=hS.tl;omega);rw [ht,Int.toNat_natCast,bc htl]at hd;rw [ht]at E;have ht0:(0:Int)≤t:=by omega
  cases hc:r.ae[t].vC with
  |false=>
   simp [hc]at hd;simp [E,ht0,htl,aV.row,hc,aa,hd]
  |true=>
   simp [hc]at hd;simp [E,G,ht0,htl,aV.row,hc,aa,hd]
 ·simp [h0]at hd;simp [E,h0,aa,hd]
theorem CO (hS:jd r s)(hA:AB r w a)(hk:a.kind=6)(hH:0<H.length):
  aI KC (aC KC) 145 [.pure (.agg (bA r s)), .pure (.agg a.row)] c H=some (.pure (.bool (dy r s w a)),H):=by
 refine dq rfl rfl rfl rfl rfl hH fun H hH=> ?_;refine aN (aJ KC au Tryz.func145 rfl rfl Ls (by simp) hH ?_);have R:=ic hS.toFF (w:=w) (hand:=a.hand) hA.wl;have R2:=ic hS.toFF (w:=w) (hand:=1-a.hand) hA.wl;have hd:=vD (r:=r) (s:=s) (w:=w) hk;have E:=fun c (H:aj) (hH:0<H.length)=>lV (c:=c) (H:=H) hS.toFF hA hH;have G:=fun c (H:aj) (hH:0<H.length)=>sN (c:=c) (H:=H) hS.toFF hA hH;have V:=fun(t:Nat) (ht:t<s.ae.length) (b:Int) (hb:b=2∨b=4) c (H:aj) (hH:0<H.length)=>vH (c:=c) (H:=H) hS ht hb hH;rw [bz]at E G⊢;unfold bA at E G V⊢;have neg: ∀x b:Int,¬0≤x→fg s.ae x b=false:=fun x b h=>(by rw [iL,decide_eq_false h];rfl);by_cases h0:0≤aX s.ao w a.hand
 ·obtain⟨t,ht⟩:=Int.eq_ofNat_of_zero_le h0;have htl:t<s.ae.length:=(by omega);rw [ht]at hd E;have ht0:(0:Int)≤t:=(by omega);have V1:=V t htl 2 (.inl rfl);have V2:=V t htl 4 (.inr rfl);by_cases k0:0≤aX s.ao w (1-a.hand)
  ·obtain⟨u,hu⟩:=Int.eq_ofNat_of_zero_le k0;have hul:u<s.ae.length:=(by omega);rw [hu]at hd G;have hu0:(0:Int)≤u:=(by omega);have V3:=V u hul 2 (.inl rfl);have V4:=V u hul 4 (.inr rfl)
   cases x1:fg s.ae t 2 with
   |false=>
    rw [x1]at hd V1;simp at hd;simp [E,G,ht0,hu0,V1,aa,hd]
   |true=>
    cases x2:fg s.ae t 4 with
    |true=>
     rw [x1,x2]at hd;rw [x1]at V1;rw [x2]at V2;simp at hd;simp [E,G,ht0,hu0,V1,V2,aa,hd]
    |false=>
     cases x3:fg s.ae u 2 with
     |true=>
      rw [x1,x2,x3]at hd;rw [x1]at V1;rw [x2]at V2;rw [x3]at V3;simp at hd;simp [E,G,ht0,hu0,V1,V2,V3,aa,hd]
     |false=>
      rw [x1,x2,x3]at hd;rw [x1]at V1;rw [x2]at V2;rw [x3]at V3;simp at hd;simp [E,G,ht0,hu0,V1,V2,V3,V4,aa,hd]
  ·simp [k0]at hd;simp [E,G,ht0,k0,aa,hd]
 ·rw [neg _ _ h0]at hd;simp at hd;simp [E,h0,aa,hd]
theorem AY (hS:jd r s)(hA:AB r w a)(hk:a.kind=7)(hH:0<H.length):
  aI KC (aC KC) 147 [.pure (.agg (bA r s)), .pure (.agg a.row)] c H=some (.pure (.bool (dy r s w a)),H):=by
 refine dq rfl rfl rfl rfl rfl hH fun H hH=> ?_;refine aN (aJ KC au Tryz.func147 rfl rfl Lt (by simp) hH ?_);have R:=ic hS.toFF (w:=w) (hand:=a.hand) hA.wl;have hd:=zm (r:=r) (s:=s) (w:=w) hk;have E:=fun c (H:aj) (hH:0<H.length)=>lV (c:=c) (H:=H) hS.toFF hA hH;have V:=fun(t:Nat) (ht:t<s.ae.length) c (H:aj) (hH:0<H.length)=>vH (c:=c) (H:=H) hS ht (b:=4) (.inr rfl) hH;rw [bz]at E⊢;unfold bA at E V⊢;by_cases h0:0≤aX s.ao w a.hand
 ·obtain⟨t,ht⟩:=Int.eq_ofNat_of_zero_le h0;have htl:t<s.ae.length:=(by omega);rw [ht]at hd E;have ht0:(0:Int)≤t:=(by omega);have V1:=V t htl;simp at hd;simp [E,ht0,V1,aa,hd]
 ·simp [h0]at hd;simp [E,h0,aa,hd]
theorem CP (hS:jd r s)(hA:AB r w a)(hk:a.kind=8)(hH:0<H.length):
  aI KC (aC KC) 149 [.pure (.agg (bA r s)), .pure (.agg a.row)] c H=some (.pure (.bool (dy r s w a)),H):=by
 refine dq rfl rfl rfl rfl rfl hH fun H hH=> ?_;refine aN (aJ KC au Tryz.func149 rfl rfl Lu (by simp) hH ?_);have R:=ic hS.toFF (w:=w) (hand:=a.hand) hA.wl;have hd:=zn (r:=r) (s:=s) (w:=w) hk;have E:=fun c (H:aj) (hH:0<H.length)=>lV (c:=c) (H:=H) hS.toFF hA hH;have V:=fun(t:Nat) (ht:t<s.ae.length) c (H:aj) (hH:0<H.length)=>vH (c:=c) (H:=H) hS ht (b:=4) (.inr rfl) hH;rw [bz]at E⊢;unfold bA at E V⊢;by_cases h0:0≤aX s.ao w a.hand
 ·obtain⟨t,ht⟩:=Int.eq_ofNat_of_zero_le h0;have htl:t<s.ae.length:=(by omega);rw [ht]at hd E;have ht0:(0:Int)≤t:=(by omega);have V1:=V t htl;simp [E,ht0,V1,aa,hd]
 ·rw [iL,decide_eq_false h0]at hd;simp at hd;simp [E,h0,aa,hd]
theorem CQ {k:Nat}(hk:1≤k∧k≤8)(hH:0<H.length):aI KC (aC KC) 127 [.pure (.int .i64 k)] c H=some (.pure (.agg [.fn (135+2*(k-1)), .fn (136+2*(k-1))]),H):=by
 refine aN (bj KC au Tryz.func127 rfl rfl Lv rfl rfl rfl (by simp) hH ?_);obtain⟨k1,k8⟩:=hk
 match k,k1,k8 with
 |1,_,_=>simp [aa]
 |2,_,_=>simp [aa]
 |3,_,_=>simp [aa]
 |4,_,_=>simp [aa]
 |5,_,_=>simp [aa]
 |6,_,_=>simp [aa]
 |7,_,_=>simp [aa]
 |8,_,_=>simp [aa]
end
end
theorem AZ {l m:List Int}:iw l m=true↔ ∃x,x∈l∧x∈m:=by
 rw [tL];simp
theorem xw {l m:List Int}:iw l m=false↔ ∀x,x∈l→x∉m:=by
 rw [←Bool.not_eq_true,AZ];constructor
 ·intro h x h1 h2;exact h ⟨x,h1,h2⟩
 ·rintro h ⟨x,h1,h2⟩;exact h x h1 h2
structure Kl (t u:Touch):Prop where
 ap: ∀x,x∈t.ah→x∉u.ah
 aR: ∀x,x∈t.ae→x∉u.ae
 ac: ∀x,x∈t.cells→x∉u.cells
theorem Kl.symm {t u:Touch}(h:Kl t u):Kl u t:=⟨fun x a b=>h.ap x b a,fun x a b=>h.aR x b a,fun x a b=>h.ac x b a⟩
theorem sO {t u:Touch}:pW t u=false↔Kl t u:=by
 rw [x6];simp only [Bool.or_eq_false_iff,xw];exact⟨fun h=>⟨h.1,h.2.1,h.2.2⟩,fun h=>⟨h.ap,h.aR,h.ac⟩⟩
theorem FN {s:ay}{w v:Nat}{a b:ak}:qv s w a v b=true↔Kl (bW s w a) (bW s v b):=by
 rw [vI,←sO];simp
theorem oG {s:ay}{w:Nat}{a:ak}(h:a.kind=1):bW s w a=⟨[a.aO],[],[s.ah.getD w 0,a.cell]⟩:=by rw [eT,if_pos h]
theorem vJ {s:ay}{w:Nat}{a:ak}(h:a.kind=2):bW s w a=⟨[a.aO],[a.a9],[]⟩:=by rw [eT,if_neg (by omega),if_pos h]
theorem vK {s:ay}{w:Nat}{a:ak}(h:a.kind=4):bW s w a=⟨[a.aO,a.other],[aX s.ao w a.hand],[]⟩:=by rw [eT,if_neg (by omega),if_neg (by omega),if_pos h];rfl
theorem kP {s:ay}{w:Nat}{a:ak}(h:a.kind=5∨a.kind=6):bW s w a=⟨[a.aO],[aX s.ao w a.hand,aX s.ao w (1-a.hand)],[]⟩:=by rw [eT,if_neg (by omega),if_neg (by omega),if_neg (by omega),if_pos h];rfl
theorem gD {s:ay}{w:Nat}{a:ak}(h:a.kind=3∨a.kind=7∨a.kind=8):bW s w a=⟨[a.aO],[aX s.ao w a.hand],[]⟩:=by rw [eT,if_neg (by omega),if_neg (by omega),if_neg (by omega),if_neg (by omega)];rfl
theorem iy {α:Type}{l:List α}{i j:Nat}{x d:α}:(l.set i x).getD j d=if i=j∧j<l.length then x else l.getD j d:=by
 simp only [List.getD_eq_getElem?_getD,List.getElem?_set];by_cases h:i=j
 ·subst h;by_cases h2:i<l.length
  ·simp [h2]
  ·simp [h2]
 ·simp [h]
theorem gX {ts:List br}{t u:Nat}{bit:Int}{on:Bool}:(dJ ts t bit on).getD u aU=if u=t∧u<ts.length then (dJ ts t bit on).getD t aU else ts.getD u aU:=by
 rw [jk];by_cases h:fg ts t bit=on
 ·rw [if_pos h];split
  ·rename_i e;rw [e.1]
  ·rfl
 ·rw [if_neg h,iy,iy];by_cases e:u=t
  ·subst e;by_cases h2:u<ts.length<;>simp [h2]
  ·have: ¬t=u:=fun x=>e x.symm;simp [e,this]
theorem iX {ts us:List br}{t:Nat}{b:Int}(h:us.getD t aU=ts.getD t aU):fg us t b=fg ts t b:=by
 rw [iL,iL];simp only [Int.toNat_natCast,h]
theorem ng {ts us:List br}{t:Nat}{b:Int}{on:Bool}(hl:us.length=ts.length)(h:us.getD t aU=ts.getD t aU):(dJ us t b on).getD t aU=(dJ ts t b on).getD t aU:=by
 rw [jk,jk,iX h];split
 ·exact h
 ·rw [iy,iy,h,hl]
structure Ag (s s':ay)(P T:List Int):Prop where
 pl:s'.ah.length=s.ah.length
 hl:s'.ao.length=s.ao.length
 tl:s'.ae.length=s.ae.length
 pp: ∀i:Nat,(i:Int)∈P→s'.ah.getD i 0=s.ah.getD i 0
 ph: ∀i:Nat,(i:Int)∈P→s'.ao.getD i bH=s.ao.getD i bH
 tt: ∀i:Nat,(i:Int)∈T→s'.ae.getD i aU=s.ae.getD i aU
theorem iR {s:ay}{w:Nat}{a:ak}(hk:1≤a.kind∧a.kind≤8):(gM s w a).ah.length=s.ah.length∧(gM s w a).ao.length=s.ao.length∧(gM s w a).ae.length=s.ae.length:=by
 rcases nf hk with k|k|k|k|k|k|k|k
 ·rw [lg k];simp
 ·rw [ov k];simp [jV]
 ·rw [mG k];simp [jV]
 ·rw [ow k];simp [jV]
 ·rw [oy k];simp [dU]
 ·rw [oz k];simp [dU]
 ·rw [oA k];simp [dU]
 ·rw [oB k];simp [dU]
theorem FO {s:ay}{w:Nat}{a:ak}(D:Ex s w a):
  (∀i:Nat,(i:Int)∉(bW s w a).ah→(gM s w a).ah.getD i 0=s.ah.getD i 0∧(gM s w a).ao.getD i bH=s.ao.getD i bH)∧
  (∀i:Nat,(i:Int)∉(bW s w a).ae→(gM s w a).ae.getD i aU=s.ae.getD i aU):=by
 have hw:=D.aO;have hh:=D.hh;have ne: ∀i:Nat,¬(i:Int)=a.aO→ ¬i=w:=fun i h e=>h (by rw [hw,e]);have ne': ∀i:Nat,¬(i:Int)=a.aO→ ¬w=i:=fun i h e=>h (by rw [hw,e]);rcases nf D.kind with k|k|k|k|k|k|k|k
 ·rw [lg k,oG k];refine⟨fun i hi=> ?_,fun i hi=>rfl⟩;simp only [List.mem_singleton]at hi;exact⟨by show (s.ah.set w a.cell).getD i 0=_;rw [iy,if_neg (fun h=>ne' i hi h.1)],rfl⟩
 ·obtain⟨t,e,_⟩:=D.take k;rw [ov k,vJ k];refine⟨fun i hi=> ?_,fun i hi=> ?_⟩
  ·simp only [List.mem_singleton]at hi;exact⟨rfl,by show (bB s.ao w a.hand a.a9).getD i bH=_;rw [fb i hh,if_neg (ne i hi)]⟩
  ·simp only [List.mem_singleton,e]at hi;show (s.ae.set a.a9.toNat _).getD i aU=_
   rw [iy,e,if_neg (fun h=>hi (by have:=h.1;omega))]
 ·obtain⟨t,e,_⟩:=D.held (by omega);rw [cB]at e;rw [mG k,gD (.inl k)];refine⟨fun i hi=> ?_,fun i hi=> ?_⟩
  ·simp only [List.mem_singleton]at hi;exact⟨rfl,by show (bB s.ao w a.hand (-1)).getD i bH=_;rw [fb i hh,if_neg (ne i hi)]⟩
  ·simp only [List.mem_singleton,e]at hi;show (s.ae.set (aX s.ao w a.hand).toNat _).getD i aU=_
   rw [iy,e,if_neg (fun h=>hi (by have:=h.1;omega))]
 ·obtain⟨o,e,o2,o3,o4⟩:=D.sM k;rw [ow k,vK k];refine⟨fun i hi=> ?_,fun i hi=>rfl⟩;simp only [List.mem_cons,List.not_mem_nil,or_false,not_or]at hi;refine⟨rfl, ?_⟩;show (bB (bB s.ao a.other.toNat _ _) w a.hand (-1)).getD i bH=_
  have: ¬i=a.other.toNat:=fun h=>hi.2 (by rw [h,e];simp);rw [fb i (by rw [jV];exact hh),if_neg (ne i hi.1),fb i (by rw [e];simpa using o2),if_neg this]
 ·obtain⟨t,e,_⟩:=D.xY (.inl k);rw [cB]at e;rw [oy k,kP (.inl k)];refine⟨fun i hi=>⟨rfl,rfl⟩,fun i hi=> ?_⟩;simp only [List.mem_cons,List.not_mem_nil,or_false,not_or,e]at hi;show (dJ s.ae (aX s.ao w (1-a.hand)).toNat 1 true).getD i aU=_
  rw [gX,e,if_neg (fun h=>hi.2 (by rw [h.1];simp))]
 ·obtain⟨t,e,_⟩:=D.held (by omega);obtain⟨q,f,_⟩:=D.xY (.inr k);rw [cB]at e f;rw [oz k,kP (.inr k)];refine⟨fun i hi=>⟨rfl,rfl⟩,fun i hi=> ?_⟩;simp only [List.mem_cons,List.not_mem_nil,or_false,not_or,e,f]at hi;have h1: ¬i=t:=fun h=>hi.1 (by rw [h]);have h2: ¬i=q:=fun h=>hi.2 (by rw [h]);simp only [e,f,Int.toNat_natCast];rw [gX,if_neg (fun h=>h2 h.1),gX,if_neg (fun h=>h1 h.1),gX,if_neg (fun h=>h1 h.1)]
 ·obtain⟨t,e,_⟩:=D.held (by omega);rw [cB]at e;rw [oA k,gD (.inr (.inl k))];refine⟨fun i hi=>⟨rfl,rfl⟩,fun i hi=> ?_⟩;simp only [List.mem_singleton,e]at hi;have h1: ¬i=t:=fun h=>hi (by rw [h]);simp only [e,Int.toNat_natCast];rw [gX,if_neg (fun h=>h1 h.1)]
 ·obtain⟨t,e,_⟩:=D.held (by omega);rw [cB]at e;rw [oB k,gD (.inr (.inr k))];refine⟨fun i hi=>⟨rfl,rfl⟩,fun i hi=> ?_⟩;simp only [List.mem_singleton,e]at hi;have h1: ¬i=t:=fun h=>hi (by rw [h]);simp only [e,Int.toNat_natCast];rw [gX,if_neg (fun h=>h1 h.1)]
theorem cH {hs hs':List aF}{w:Nat}{hand:Int}(h:hs'.getD w bH=hs.getD w bH):aX hs' w hand=aX hs w hand:=by
 unfold aX;rw [h]
theorem rG {hs hs':List aF}{w:Nat}(h:hs'.getD w bH=hs.getD w bH):eA hs' w=eA hs w:=by
 unfold eA;rw [h]
theorem FP {r:aH}{s s':ay}{w:Nat}{a:ak}(D:Ex s w a)(h:Ag s s' (bW s w a).ah (bW s w a).ae)(hw:w<r.ah.length):
  bW s' w a=bW s w a∧((a.kind=1→a.cell∉s'.ah)→dy r s w a=true→dy r s' w a=true)∧
  Ag (gM s w a) (gM s' w a) (bW s w a).ah (bW s w a).ae:=by
 have hwho:=D.aO;have hh:=D.hh;have hh':w<s'.ao.length:=(by rw [h.hl];exact hh);have wp:(w:Int)∈(bW s w a).ah→s'.ah.getD w 0=s.ah.getD w 0∧s'.ao.getD w bH=s.ao.getD w bH:=fun x=>⟨h.pp w x,h.ph w x⟩;have L:=iR (s:=s) (w:=w) D.kind;have L':=iR (s:=s') (w:=w) D.kind;have e1:=L'.1.trans (h.pl.trans L.1.symm);have e2:=L'.2.1.trans (h.hl.trans L.2.1.symm);have e3:=L'.2.2.trans (h.tl.trans L.2.2.symm);rcases nf D.kind with k|k|k|k|k|k|k|k
 ·rw [oG (s:=s) k]at wp h⊢;obtain⟨wp,wh⟩:=wp (by simp [hwho]);refine⟨by rw [oG k,wp],fun hc hp=> ?_,⟨e1,e2,e3,fun i hi=> ?_,fun i hi=> ?_,fun i hi=> ?_⟩⟩
  ·rw [zi k]at hp⊢;rw [wp];simp only [Bool.and_eq_true]at hp⊢;exact⟨by simpa using hc k,hp.2⟩
  ·rw [lg k,lg k];show (s'.ah.set w a.cell).getD i 0=(s.ah.set w a.cell).getD i 0
   rw [iy,iy,h.pl,h.pp i hi]
  ·rw [lg k,lg k];exact h.ph i hi
  ·rw [lg k,lg k];exact h.tt i hi
 ·obtain⟨t,e,_⟩:=D.take k;rw [vJ (s:=s) k]at wp h⊢;obtain⟨wp,wh⟩:=wp (by simp [hwho]);have ht:s'.ae.getD t aU=s.ae.getD t aU:=h.tt t (by simp [e]);refine⟨by rw [vJ k],fun hc hp=> ?_,⟨e1,e2,e3,fun i hi=> ?_,fun i hi=> ?_,fun i hi=> ?_⟩⟩
  ·rw [CI k,e,Int.toNat_natCast]at hp⊢;rw [wp,cH wh,ht];exact hp
  ·rw [ov k,ov k];exact h.pp i hi
  ·rw [ov k,ov k];show (bB s'.ao w a.hand a.a9).getD i bH=(bB s.ao w a.hand a.a9).getD i bH
   rw [fb i hh',fb i hh,wh,h.ph i hi]
  ·rw [ov k,ov k];show (s'.ae.set a.a9.toNat _).getD i aU=(s.ae.set a.a9.toNat _).getD i aU
   rw [iy,iy,h.tl,h.tt i hi,e,Int.toNat_natCast,ht]
 ·obtain⟨t,e,_⟩:=D.held (by omega);rw [cB]at e;rw [gD (s:=s) (.inl k)]at wp h⊢;obtain⟨wp,wh⟩:=wp (by simp [hwho]);have ht:s'.ae.getD t aU=s.ae.getD t aU:=h.tt t (by simp [e]);have e':aX s'.ao w a.hand=t:=(cH wh).trans e;refine⟨by rw [gD (.inl k),e,e'],fun hc hp=> ?_,⟨e1,e2,e3,fun i hi=> ?_,fun i hi=> ?_,fun i hi=> ?_⟩⟩
  ·rw [zj k]at hp⊢;rw [cH wh];exact hp
  ·rw [mG k,mG k];exact h.pp i hi
  ·rw [mG k,mG k];show (bB s'.ao w a.hand (-1)).getD i bH=(bB s.ao w a.hand (-1)).getD i bH
   rw [fb i hh',fb i hh,wh,h.ph i hi]
  ·rw [mG k,mG k];show (s'.ae.set (aX s'.ao w a.hand).toNat _).getD i aU=(s.ae.set (aX s.ao w a.hand).toNat _).getD i aU
   rw [iy,iy,h.tl,h.tt i hi,e,e',Int.toNat_natCast,ht,wp]
 ·obtain⟨o,e,o2,o3,o4⟩:=D.sM k;rw [vK (s:=s) k]at wp h⊢;obtain⟨wp,wh⟩:=wp (by simp [hwho]);have op:s'.ah.getD o 0=s.ah.getD o 0:=h.pp o (by simp [e]);have oh:s'.ao.getD o bH=s.ao.getD o bH:=h.ph o (by simp [e]);refine⟨by rw [vK k,cH wh],fun hc hp=> ?_,⟨e1,e2,e3,fun i hi=> ?_,fun i hi=> ?_,fun i hi=> ?_⟩⟩
  ·rw [zk k,e,Int.toNat_natCast]at hp⊢;rw [cH wh,wp,op,rG oh];exact hp
  ·rw [ow k,ow k];exact h.pp i hi
  ·rw [ow k,ow k];simp only [e,Int.toNat_natCast];have o2':o<s'.ao.length:=(by rw [h.hl];exact o2);have a1:w<(bB s'.ao o (eA s'.ao o) (aX s'.ao w a.hand)).length:=(by rw [jV];exact hh');have a2:w<(bB s.ao o (eA s.ao o) (aX s.ao w a.hand)).length:=(by rw [jV];exact hh);rw [fb i a1,fb i a2,fb i o2',fb i o2,fb w o2',fb w o2,wh,oh,rG oh,cH wh,h.ph i hi]
  ·rw [ow k,ow k];exact h.tt i hi
 ·obtain⟨t,e,_⟩:=D.xY (.inl k);rw [cB]at e;rw [kP (s:=s) (.inl k)]at wp h⊢;obtain⟨wp,wh⟩:=wp (by simp [hwho]);have ht:s'.ae.getD t aU=s.ae.getD t aU:=h.tt t (by simp [e]);have e':aX s'.ao w (1-a.hand)=t:=(cH wh).trans e;refine⟨by rw [kP (.inl k),cH wh,e',e],fun hc hp=> ?_,⟨e1,e2,e3,fun i hi=> ?_,fun i hi=> ?_,fun i hi=> ?_⟩⟩
  ·rw [zl k]at hp⊢;rw [cH wh,cH wh];exact hp
  ·rw [oy k,oy k];exact h.pp i hi
  ·rw [oy k,oy k];exact h.ph i hi
  ·rw [oy k,oy k];simp only [e,e',Int.toNat_natCast];rw [gX,gX (ts:=s.ae),h.tl,ng h.tl ht,h.tt i hi]
 ·obtain⟨t,e,_⟩:=D.held (by omega);obtain⟨q,f,_⟩:=D.xY (.inr k);rw [cB]at e f;rw [kP (s:=s) (.inr k)]at wp h⊢;obtain⟨wp,wh⟩:=wp (by simp [hwho]);have ht:s'.ae.getD t aU=s.ae.getD t aU:=h.tt t (by simp [e]);have hq:s'.ae.getD q aU=s.ae.getD q aU:=h.tt q (by simp [f]);have e':aX s'.ao w a.hand=t:=(cH wh).trans e;have f':aX s'.ao w (1-a.hand)=q:=(cH wh).trans f;refine⟨by rw [kP (.inr k),e,e',f,f'],fun hc hp=> ?_,⟨e1,e2,e3,fun i hi=> ?_,fun i hi=> ?_,fun i hi=> ?_⟩⟩
  ·rw [vD k,e,f]at hp;rw [vD k,e',f',iX ht,iX ht,iX hq,iX hq];exact hp
  ·rw [oz k,oz k];exact h.pp i hi
  ·rw [oz k,oz k];exact h.ph i hi
  ·rw [oz k,oz k];simp only [e,e',f,f',Int.toNat_natCast];have one: ∀(us ts:List br),us.length=ts.length→ ∀(p:Nat) (b:Int) (on:Bool) (j:Nat),us.getD p aU=ts.getD p aU→us.getD j aU=ts.getD j aU→(dJ us p b on).getD j aU=(dJ ts p b on).getD j aU:=fun us ts hl p b on j hp hj=>by
    rw [gX,gX (ts:=ts),hl,ng hl hp,hj]
   have l1:(dJ s'.ae t 2 false).length=(dJ s.ae t 2 false).length:=(by simp only [dU,h.tl]);have l2:(dJ (dJ s'.ae t 2 false) t 1 false).length=(dJ (dJ s.ae t 2 false) t 1 false).length:=by simp only [dU,h.tl]
   have all: ∀j,s'.ae.getD j aU=s.ae.getD j aU→(dJ (dJ s'.ae t 2 false) t 1 false).getD j aU=(dJ (dJ s.ae t 2 false) t 1 false).getD j aU:=fun j hj=>
    one _ _ l1 t 1 false j (one _ _ h.tl t 2 false t ht ht) (one _ _ h.tl t 2 false j ht hj)
   exact one _ _ l2 q 2 true i (all q hq) (all i (h.tt i hi))
 ·obtain⟨t,e,_⟩:=D.held (by omega);rw [cB]at e;rw [gD (s:=s) (.inr (.inl k))]at wp h⊢;obtain⟨wp,wh⟩:=wp (by simp [hwho]);have ht:s'.ae.getD t aU=s.ae.getD t aU:=h.tt t (by simp [e]);have e':aX s'.ao w a.hand=t:=(cH wh).trans e;refine⟨by rw [gD (.inr (.inl k)),e',e],fun hc hp=> ?_,⟨e1,e2,e3,fun i hi=> ?_,fun i hi=> ?_,fun i hi=> ?_⟩⟩
  ·rw [zm k,e]at hp;rw [zm k,e',iX ht];exact hp
  ·rw [oA k,oA k];exact h.pp i hi
  ·rw [oA k,oA k];exact h.ph i hi
  ·rw [oA k,oA k];simp only [e,e',Int.toNat_natCast];rw [gX,gX (ts:=s.ae),h.tl,ng h.tl ht,h.tt i hi]
 ·obtain⟨t,e,_⟩:=D.held (by omega);rw [cB]at e;rw [gD (s:=s) (.inr (.inr k))]at wp h⊢;obtain⟨wp,wh⟩:=wp (by simp [hwho]);have ht:s'.ae.getD t aU=s.ae.getD t aU:=h.tt t (by simp [e]);have e':aX s'.ao w a.hand=t:=(cH wh).trans e;refine⟨by rw [gD (.inr (.inr k)),e',e],fun hc hp=> ?_,⟨e1,e2,e3,fun i hi=> ?_,fun i hi=> ?_,fun i hi=> ?_⟩⟩
  ·rw [zn k,e]at hp;rw [zn k,e',iX ht];exact hp
  ·rw [oB k,oB k];exact h.pp i hi
  ·rw [oB k,oB k];exact h.ph i hi
  ·rw [oB k,oB k];simp only [e,e',Int.toNat_natCast];rw [gX,gX (ts:=s.ae),h.tl,ng h.tl ht,h.tt i hi]
section
theorem CR {s:ay}{w:Nat}{a:ak}(hk:1≤a.kind∧a.kind≤8)(h1:a.kind≠1):(gM s w a).ah=s.ah:=by
 rcases nf hk with k|k|k|k|k|k|k|k
 ·exact absurd k h1
 ·rw [ov k]
 ·rw [mG k]
 ·rw [ow k]
 ·rw [oy k]
 ·rw [oz k]
 ·rw [oA k]
 ·rw [oB k]
theorem aav {s:ay}{v:Nat}{b:ak}{t:Touch}(D:Ex s v b)(h:Kl t (bW s v b)):Ag s (gM s v b) t.ah t.ae:=by
 have L:=iR (s:=s) (w:=v) D.kind;have F:=FO D;exact⟨L.1,L.2.1,L.2.2,fun i hi=>(F.1 i (h.ap _ hi)).1,fun i hi=>(F.1 i (h.ap _ hi)).2,fun i hi=>F.2 i (h.aR _ hi)⟩
section
variable {r:aH} {s:ay} {w v:Nat} {a b:ak}
theorem x7 (hS:jd r s)(hA:AB r w a)(hB:AB r v b)(pa:dy r s w a=true)(pb:dy r s v b=true)(h:Kl (bW s w a) (bW s v b)):
  bW (gM s w a) v b=bW s v b∧dy r (gM s w a) v b=true∧Ag (gM s v b) (gM (gM s w a) v b) (bW s v b).ah (bW s v b).ae:=by
 have DA:=mc hS hA pa;have DB:=mc hS hB pb;obtain⟨l1,l2,l3⟩:=FP (r:=r) DB (aav DA h.symm) hB.wl;refine⟨l1,l2 (fun k hin=> ?_) pb,l3⟩;rw [zi k]at pb;simp at pb;by_cases k1:a.kind=1
 ·rw [lg k1]at hin;rcases List.mem_or_eq_of_mem_set hin with x|x
  ·exact pb.1 x
  ·rw [oG k1,oG k]at h;exact h.ac a.cell (by simp) (by simp [x])
 ·rw [CR hA.kind k1]at hin;exact pb.1 hin
end
noncomputable def my (s:ay)(g:List ak):ay:=g.foldl (fun s a=>gM s a.aO.toNat a) s
theorem zo (s:ay):my s []=s:=rfl
theorem rH (s:ay)(a:ak)(g:List ak):my s (a::g)=my (gM s a.aO.toNat a) g:=rfl
theorem iY (s:ay)(g h:List ak):my s (g++h)=my (my s g) h:=List.foldl_append ..
noncomputable def tch (s:ay)(a:ak):Touch:=bW s a.aO.toNat a
structure pX (r:aH)(s:ay)(g:List ak):Prop where
 ab: ∀a∈g,AB r a.aO.toNat a∧dy r s a.aO.toNat a=true
 ap:g.Pairwise fun a b=>Kl (tch s a) (tch s b)
theorem pX.tail {r:aH}{s:ay}{a:ak}{g:List ak}(hS:jd r s)(h:pX r s (a::g)):jd r (gM s a.aO.toNat a)∧pX r (gM s a.aO.toNat a) g:=by
 obtain⟨hA,pa⟩:=h.ab a (List.mem_cons_self ..);have hp:=List.pairwise_cons.1 h.ap;have one:=fun b (hb:b∈g)=>x7 hS hA (h.ab b (List.mem_cons_of_mem _ hb)).1 pa (h.ab b (List.mem_cons_of_mem _ hb)).2 (hp.1 b hb);refine⟨hS.doA hA pa,⟨fun b hb=>⟨(h.ab b (List.mem_cons_of_mem _ hb)).1,(one b hb).2.1⟩, ?_⟩⟩;refine hp.2.imp_of_mem fun {x y} hx hy q=> ?_;unfold tch at q⊢;rw [(one x hx).1,(one y hy).1];exact q
theorem pX.snd {r:aH}: ∀{g:List ak} {s:ay},jd r s→pX r s g→jd r (my s g)
 | [],s,hS,_=>hS
 |a::g,s,hS,h=>by
  obtain⟨h1,h2⟩:=h.tail hS;show jd r (my (gM s a.aO.toNat a) g)
  exact pX.snd h1 h2
end
section
variable {c:Nat} {H:aj}
section
variable {r:aH} {s:ay} {w:Nat} {a:ak}
theorem CU (hS:jd r s)(hW:WB r)(hA:AB r w a)(hH:0<H.length):
  aI KC (aC KC) 105 [.pure (.agg (bA r s)), .pure (.agg a.row)] c H=some (.pure (.bool (dy r s w a)),H):=by
 refine dq rfl rfl rfl rfl rfl hH fun H hH=> ?_;refine aN (aJ KC au Tryz.func105 rfl rfl Lw (by simp) hH ?_);have W:=fun(k:Nat) (hk:1≤k∧k≤8) c (H:aj) (hH:0<H.length)=>CQ (c:=c) (H:=H) hk hH;have W1:=W 1 (by omega);have W2:=W 2 (by omega);have W3:=W 3 (by omega);have W4:=W 4 (by omega);have W5:=W 5 (by omega);have W6:=W 6 (by omega);have W7:=W 7 (by omega);have W8:=W 8 (by omega);simp at W1 W2 W3 W4 W5 W6 W7 W8;rcases nf hA.kind with k|k|k|k|k|k|k|k
 ·have M:=fun c (H:aj) (hH:0<H.length)=>CK (c:=c) (H:=H) hS hW hA k hH;rw [bz,k]at M⊢;unfold bA at M⊢;simp [W1,M,aa]
 ·have M:=fun c (H:aj) (hH:0<H.length)=>CL (c:=c) (H:=H) hS hA k hH;rw [bz,k]at M⊢;unfold bA at M⊢;simp [W2,M,aa]
 ·have M:=fun c (H:aj) (hH:0<H.length)=>FL (c:=c) (H:=H) hS hA k hH;rw [bz,k]at M⊢;unfold bA at M⊢;simp [W3,M,aa]
 ·have M:=fun c (H:aj) (hH:0<H.length)=>CM (c:=c) (H:=H) hS hW hA k hH;rw [bz,k]at M⊢;unfold bA at M⊢;simp [W4,M,aa]
 ·have M:=fun c (H:aj) (hH:0<H.length)=>CN (c:=c) (H:=H) hS hA k hH;rw [bz,k]at M⊢;unfold bA at M⊢;simp [W5,M,aa]
 ·have M:=fun c (H:aj) (hH:0<H.length)=>CO (c:=c) (H:=H) hS hA k hH;rw [bz,k]at M⊢;unfold bA at M⊢;simp [W6,M,aa]
 ·have M:=fun c (H:aj) (hH:0<H.length)=>AY (c:=c) (H:=H) hS hA k hH;rw [bz,k]at M⊢;unfold bA at M⊢;simp [W7,M,aa]
 ·have M:=fun c (H:aj) (hH:0<H.length)=>CP (c:=c) (H:=H) hS hA k hH;rw [bz,k]at M⊢;unfold bA at M⊢;simp [W8,M,aa]
def eI (s:ay)(w:Nat)(a:ak):List (Int×Int):=
 if a.kind=1 then [(0,a.aO),(2,s.ah.getD w 0),(2,a.cell)]
 else if a.kind=2 then [(0,a.aO),(1,a.a9)]
 else if a.kind=4 then [(0,a.aO),(0,a.other),(1,aX s.ao w a.hand)]
 else if a.kind=5∨a.kind=6 then [(0,a.aO),(1,aX s.ao w (1-a.hand)),(1,aX s.ao w a.hand)]
 else [(0,a.aO),(1,aX s.ao w a.hand)]
def dP (x:Int×Int):List PV:=[.int .i64 x.1, .int .i64 x.2]
theorem tM (hS:jd r s)(hA:AB r w a)(hH:0<H.length):
  aI KC (aC KC) 134 [.pure (.agg (bA r s)), .pure (.agg a.row)] c H=some (.pure (.slice ((eI s w a).map dP)),H):=by
 refine aN (bj KC au Tryz.func134 rfl rfl Lx rfl rfl rfl (by simp) hH ?_);have hwp:w<s.ah.length:=(by rw [hS.pl];exact hA.wl);have E:=fun c (H:aj) (hH:0<H.length)=>lV (c:=c) (H:=H) hS.toFF hA hH;have G:=fun c (H:aj) (hH:0<H.length)=>sN (c:=c) (H:=H) hS.toFF hA hH;have hnl: ¬H.length≤H.length-1:=(by omega);have hp:=bc (d:=0) hwp;unfold eI;rcases nf hA.kind with k|k|k|k|k|k|k|k
 ·rw [bz,k]at E G⊢;unfold bA at E G⊢;simp [hA.aO]at E G;simp [hA.aO,hwp,aG,E,G,dP,hp,aa,hnl]
 ·rw [bz,k]at E G⊢;unfold bA at E G⊢;simp [hA.aO]at E G;simp [hA.aO,hwp,aG,E,G,dP,hp,aa,hnl]
 ·rw [bz,k]at E G⊢;unfold bA at E G⊢;simp [hA.aO]at E G;simp [hA.aO,hwp,aG,E,G,dP,hp,aa,hnl]
 ·rw [bz,k]at E G⊢;unfold bA at E G⊢;simp [hA.aO]at E G;simp [hA.aO,hwp,aG,E,G,dP,hp,aa,hnl]
 ·rw [bz,k]at E G⊢;unfold bA at E G⊢;simp [hA.aO]at E G;simp [hA.aO,hwp,aG,E,G,dP,hp,aa,hnl]
 ·rw [bz,k]at E G⊢;unfold bA at E G⊢;simp [hA.aO]at E G;simp [hA.aO,hwp,aG,E,G,dP,hp,aa,hnl]
 ·rw [bz,k]at E G⊢;unfold bA at E G⊢;simp [hA.aO]at E G;simp [hA.aO,hwp,aG,E,G,dP,hp,aa,hnl]
 ·rw [bz,k]at E G⊢;unfold bA at E G⊢;simp [hA.aO]at E G;simp [hA.aO,hwp,aG,E,G,dP,hp,aa,hnl]
theorem qB {s:ay}{w v:Nat}{a b:ak}:Kl (bW s w a) (bW s v b)↔ ∀x∈eI s w a,x∉eI s v b:=by
 have mem: ∀(w:Nat) (a:ak) (x:Int×Int),x∈eI s w a↔(x.1=0∧x.2∈(bW s w a).ah)∨(x.1=1∧x.2∈(bW s w a).ae)∨(x.1=2∧x.2∈(bW s w a).cells):=fun w a x=>by
  obtain⟨p,q⟩:=x;unfold eI;rw [eT];simp only [cB]
  repeat' split
  all_goals simp only [List.mem_cons,List.not_mem_nil,or_false,Prod.mk.injEq]
  all_goals grind
 constructor
 ·intro h x hx hy;rw [mem]at hx hy;rcases hx with ⟨e,hx⟩|⟨e,hx⟩|⟨e,hx⟩
  ·rcases hy with ⟨_,hy⟩|⟨e',hy⟩|⟨e',hy⟩
   ·exact h.ap _ hx hy
   ·omega
   ·omega
  ·rcases hy with ⟨e',hy⟩|⟨_,hy⟩|⟨e',hy⟩
   ·omega
   ·exact h.aR _ hx hy
   ·omega
  ·rcases hy with ⟨e',hy⟩|⟨e',hy⟩|⟨_,hy⟩
   ·omega
   ·omega
   ·exact h.ac _ hx hy
 ·intro h;refine⟨fun x h1 h2=>h (0,x) ((mem _ _ _).2 (.inl ⟨rfl,h1⟩)) ((mem _ _ _).2 (.inl ⟨rfl,h2⟩)),fun x h1 h2=>h (1,x) ((mem _ _ _).2 (.inr (.inl ⟨rfl,h1⟩))) ((mem _ _ _).2 (.inr (.inl ⟨rfl,h2⟩))),fun x h1 h2=>h (2,x) ((mem _ _ _).2 (.inr (.inr ⟨rfl,h1⟩))) ((mem _ _ _).2 (.inr (.inr ⟨rfl,h2⟩)))⟩
end
end
section
variable {c:Nat} {H:aj}
theorem Ly: ∀q:Fin 16,∀b∈[(1:Int),2,4],Aw .i64 ((q.1:Nat):Int) b=if ((IntKind.i64.wrap (((q.1:Nat):Int).tdiv b)).tmod 2==1)then ((q.1:Nat):Int)else IntKind.i64.wrap (((q.1:Nat):Int)+b):=by decide+kernel
theorem FQ: ∀q:Fin 16,∀b∈[(1:Int),2,4],lU ((q.1:Nat):Int) b=if ((IntKind.i64.wrap (((q.1:Nat):Int).tdiv b)).tmod 2==1)then IntKind.i64.wrap (((q.1:Nat):Int)-b)else ((q.1:Nat):Int):=by decide+kernel
theorem Tp: ∀q:Fin 16,lU ((q.1:Nat):Int) 3=lU (lU ((q.1:Nat):Int) 2) 1∧0≤lU ((q.1:Nat):Int) 2∧lU ((q.1:Nat):Int) 2<16:=by decide+kernel
section
variable {ts:List br} {t:Nat} {b:Int}
theorem zp (ht:t<ts.length)(hs:0≤(ts.getD t aU).state∧(ts.getD t aU).state<16)(hb:b=1∨b=2∨b=4):
  dJ ts t b true=ts.set t ⟨(ts.getD t aU).cell,Aw .i64 (ts.getD t aU).state b⟩:=by
 obtain⟨q,hq⟩:=Int.eq_ofNat_of_zero_le hs.1;have B:=Ly ⟨q,by omega⟩ b (by simp;exact hb);simp only [←hq]at B;have h0:decide ((0:Int)≤t)=true:=(by simp);rw [jk,iL,h0,Bool.true_and];simp only [Int.toNat_natCast];rw [B];by_cases h:((IntKind.i64.wrap ((ts.getD t aU).state.tdiv b)).tmod 2==1)=true
 ·rw [if_pos h,if_pos h];exact(vB ts t aU).symm
 ·rw [if_neg h,if_neg h];simp
theorem vL (ht:t<ts.length)(hs:0≤(ts.getD t aU).state∧(ts.getD t aU).state<16)(hb:b=1∨b=2∨b=4):
  dJ ts t b false=ts.set t ⟨(ts.getD t aU).cell,lU (ts.getD t aU).state b⟩:=by
 obtain⟨q,hq⟩:=Int.eq_ofNat_of_zero_le hs.1;have B:=FQ ⟨q,by omega⟩ b (by simp;exact hb);simp only [←hq]at B;have h0:decide ((0:Int)≤t)=true:=(by simp);rw [jk,iL,h0,Bool.true_and];simp only [Int.toNat_natCast];rw [B];split
 ·rename_i h;have h': ¬((IntKind.i64.wrap ((ts.getD t aU).state.tdiv b)).tmod 2==1)=true:=(by rw [h];simp);rw [if_neg h'];exact(vB ts t aU).symm
 ·rename_i h;have h':((IntKind.i64.wrap ((ts.getD t aU).state.tdiv b)).tmod 2==1)=true:=(by simpa using h);rw [if_pos h'];rfl
theorem FR (ht:t<ts.length)(hs:0≤(ts.getD t aU).state∧(ts.getD t aU).state<16):
  dJ (dJ ts t 2 false) t 1 false=ts.set t ⟨(ts.getD t aU).cell,lU (ts.getD t aU).state 3⟩:=by
 obtain⟨q,hq⟩:=Int.eq_ofNat_of_zero_le hs.1;obtain⟨b1,b2,b3⟩:=Tp ⟨q,by omega⟩;simp only [←hq]at b1 b2 b3;rw [vL ht hs (.inr (.inl rfl))];have e:(ts.set t ⟨(ts.getD t aU).cell,lU (ts.getD t aU).state 2⟩).getD t aU=⟨(ts.getD t aU).cell,lU (ts.getD t aU).state 2⟩:=(by rw [vE ht,if_pos rfl]);rw [vL (by simpa using ht) (by rw [e];exact⟨b2,b3⟩) (.inl rfl),e,b1];simp
end
def uP (r:aH)(n1 n2 n3:Nm)(s:ay):GV:= .agg [.pure (.int .i64 r.wide), .pure (.int .i64 r.deep), .pure (.slice (r.ah.map aQ.row)), .pure (.slice (r.ae.map aV.row)), .pure (.slice (r.seen.map aG)), .pure (.slice (r.aY.map aG)), .pure (.slice (r.ai.map ak.row)), .aW n1 1 s.ah.length 0 s.ah.length, .aW n2 2 s.ao.length 0 s.ao.length, .aW n3 2 s.ae.length 0 s.ae.length]
section
variable {r:aH} {s:ay} {w:Nat} {a:ak} {n1 n2 n3:Nm} {v1 v2 v3:Nat}
theorem CV (h:mD H n1 n2 n3 v1 v2 v3 s):nd H (uP r n1 n2 n3 s) (.agg (bA r s)):=by
 unfold uP bA;rw [rB];simp only [om,rA,og,and_true,true_and];exact⟨⟨_,v1,false,h.g1,h.e1,by simp,rfl,rfl,rfl⟩,⟨_,v2,false,h.g2,h.e2,by simp,rfl,rfl,rfl⟩,⟨_,v3,false,h.g3,h.e3,by simp,rfl,rfl,rfl⟩⟩
theorem Iq (h:mD H n1 n2 n3 v1 v2 v3 s)(hw:w<s.ao.length)(h1:a.aO=w)(h2:a.hand=0∨a.hand=1)(hH:0<H.length):
  aI KC (aC KC) 154 [uP r n1 n2 n3 s, .pure (.agg a.row)] c H=some (.pure (.int .i64 (aX s.ao w a.hand)),H):=
 gL KC rfl rfl (Lb (CV h) (show nd H (.pure (.agg a.row)) (.agg a.row)from rfl)) rfl hH (fun H hH=>AU (c:=c) hw h1 h2 hH) rfl
theorem vM (h:mD H n1 n2 n3 v1 v2 v3 s)(hw:w<s.ao.length)(h1:a.aO=w)(h2:a.hand=0∨a.hand=1)(hH:0<H.length):
  aI KC (aC KC) 153 [uP r n1 n2 n3 s, .pure (.agg a.row)] c H=some (.pure (.int .i64 (aX s.ao w (1-a.hand))),H):=
 gL KC rfl rfl (Lb (CV h) (show nd H (.pure (.agg a.row)) (.agg a.row)from rfl)) rfl hH (fun H hH=>vF (c:=c) hw h1 h2 hH) rfl
theorem Ir (h:mD H n1 n2 n3 v1 v2 v3 s){o:Nat}(ho:o<s.ao.length)(hH:0<H.length):
  aI KC (aC KC) 156 [uP r n1 n2 n3 s, .pure (.int .i64 o)] c H=some (.pure (.int .i64 (eA s.ao o)),H):=
 gL KC rfl rfl (Lb (CV h) (show nd H (.pure (.int .i64 o)) (.int .i64 o)from rfl)) rfl hH (fun H hH=>AX (c:=c) ho hH) rfl
def Lz (H:aj)(f:Nat)(r:aH)(n1 n2 n3:Nm)(s:ay)(w:Nat)(a:ak)(c:Nat):Prop:=
 ∃v1' v2' v3',v1'≤s.ah.length∧v2'≤s.ao.length∧v3'≤s.ae.length∧
  aI KC (aC KC) f [uP r n1 n2 n3 s, .pure (.agg a.row)] c H=some (.pure (.tuple []),cr H n1 n2 n3 v1' v2' v3' (gM s w a))
theorem Tq (h:me H n1 n2 n3 v1 v2 v3 s)(hb:Ex s w a)(hst: ∀t:Nat,t<s.ae.length→0≤(s.ae.getD t aU).state∧(s.ae.getD t aU).state<16)(hH:0<H.length):
  (a.kind=1→Lz H 136 r n1 n2 n3 s w a c)∧(a.kind=2→Lz H 138 r n1 n2 n3 s w a c)∧(a.kind=3→Lz H 140 r n1 n2 n3 s w a c)∧(a.kind=4→Lz H 142 r n1 n2 n3 s w a c)∧
  (a.kind=5→Lz H 144 r n1 n2 n3 s w a c)∧(a.kind=6→Lz H 146 r n1 n2 n3 s w a c)∧(a.kind=7→Lz H 148 r n1 n2 n3 s w a c)∧(a.kind=8→Lz H 150 r n1 n2 n3 s w a c):=by
 have l1:=aj.bS h.g1;have l2:=aj.bS h.g2;have l3:=aj.bS h.g3;have d1: ¬n1.1=H.length:=(by omega);have d2: ¬n2.1=H.length:=(by omega);have d3: ¬n3.1=H.length:=(by omega);have hp:=hb.hp;have hh:=hb.hh;have hwho:=hb.aO;have hg:s.ao.getD w bH=s.ao[w]:=bc hh;have hgp:s.ah.getD w 0=s.ah[w]:=bc hp;have G23: ∀b,(H.set n2 b).get n3=H.get n3:=fun b=>aj.aL b h.kD.symm;have G32: ∀b,(H.set n3 b).get n2=H.get n2:=fun b=>aj.aL b h.kD;have C32: ∀x y,(H.set n3 x).set n2 y=(H.set n2 y).set n3 x:=fun x y=>aj.set_comm h.kD.symm;have G31: ∀b,(H.set n3 b).get n1=H.get n1:=fun b=>aj.aL b h.lR;have S2: ∀x,(H.set n1 x).set n2 (.arr 2 (s.ao.map aF.row) v2 false)=H.set n1 x:=fun x=>(by rw [aj.set_comm h.kx,h.s2]);have S3: ∀x,(H.set n1 x).set n3 (.arr 2 (s.ae.map br.row) v3 false)=H.set n1 x:=fun x=>(by rw [aj.set_comm h.lR,h.s3]);have S4: ∀x,(H.set n2 x).set n3 (.arr 2 (s.ae.map br.row) v3 false)=H.set n2 x:=fun x=>(by rw [aj.set_comm h.kD,h.s3]);have s1:=h.s1;have s2:=h.s2;have s3:=h.s3;have G22: ∀b,(H.set n2 b).get n2=some b:=fun b=>aj.fZ l2;have G33: ∀b,(H.set n3 b).get n3=some b:=fun b=>aj.fZ l3;have E:=fun c (f:Fr)=>Iq (r:=r) (c:=c) (a:=a) (mD.up (fr:=f) h.tomD) hh hwho hb.hand (by simp);have G:=fun c (f:Fr)=>vM (r:=r) (c:=c) (a:=a) (mD.up (fr:=f) h.tomD) hh hwho hb.hand (by simp);have heq:aX s.ao w 0=s.ao[w].l∧aX s.ao w 1=s.ao[w].r:=(by unfold aX;rw [hg];simp);refine⟨fun k=> ?_,fun k=> ?_,fun k=> ?_,fun k=> ?_,fun k=> ?_,fun k=> ?_,fun k=> ?_,fun k=> ?_⟩
 ·have hd:=lg (s:=s) (w:=w) k;refine⟨s.ah.length,v2,v3,Nat.le_refl _,h.e2,h.e3,aN (a8 KC au Tryz.func136 rfl rfl Ey rfl rfl rfl (by simp) hH ?_)⟩;rw [bz];unfold uP;simp [d1,d2,d3,h.g1,h.g2,h.g3,h.e1,h.e2,h.e3,hp,hh,hwho,aG,aE,aa,hd,cr,S2,S3]
 ·obtain⟨t,et,ht⟩:=hb.take k;have hd:=ov (s:=s) (w:=w) k;have hgt:=bc (d:=aU) ht;rw [et,Int.toNat_natCast,hgt]at hd;simp only [bB,hg]at hd;refine⟨v1,s.ao.length,s.ae.length,h.e1,Nat.le_refl _,Nat.le_refl _,aN (a8 KC au Tryz.func138 rfl rfl LA rfl rfl rfl (by simp) hH ?_)⟩;rw [bz];unfold uP;rcases hb.hand with z|z
  ·rw [z]at hd;simp at hd;simp [d1,d2,d3,h.g1,h.g2,h.g3,h.e1,h.e2,h.e3,hp,hh,hwho,et,z,ht,aF.row,br.row,aE,aa,hd,cr,G23,s1]
  ·rw [z]at hd;simp at hd;simp [d1,d2,d3,h.g1,h.g2,h.g3,h.e1,h.e2,h.e3,hp,hh,hwho,et,z,ht,aF.row,br.row,aE,aa,hd,cr,G23,s1]
 ·obtain⟨t,et,ht⟩:=hb.held (by omega);rw [cB]at et;have hd:=mG (s:=s) (w:=w) k;have hgt:=bc (d:=aU) ht;rw [et,Int.toNat_natCast,hgt,hgp]at hd;simp only [bB,hg]at hd;refine⟨v1,s.ao.length,s.ae.length,h.e1,Nat.le_refl _,Nat.le_refl _,aN (a8 KC au Tryz.func140 rfl rfl LB rfl rfl rfl (by simp) hH ?_)⟩;rw [et,bz]at E;rw [bz];unfold uP at E⊢;simp [hwho]at E;rcases hb.hand with z|z
  ·rw [z]at hd E;simp at hd;simp [d1,d2,d3,h.g1,h.g2,h.g3,h.e1,h.e2,h.e3,hp,hh,hwho,E,z,ht,aG,aF.row,br.row,aE,aa,hd,cr,G32,C32,s1]
  ·rw [z]at hd E;simp at hd;simp [d1,d2,d3,h.g1,h.g2,h.g3,h.e1,h.e2,h.e3,hp,hh,hwho,E,z,ht,aG,aF.row,br.row,aE,aa,hd,cr,G32,C32,s1]
 ·obtain⟨t,et,ht⟩:=hb.held (by omega);rw [cB]at et;obtain⟨o,eo,ho,how,htk⟩:=hb.sM k;have hgo:=bc (d:=bH) ho;have hsw: ∀x,(s.ao.set o x).getD w bH=s.ao[w]:=fun x=>(by rw [vE hh,if_neg how,hg]);have hd:=ow (s:=s) (w:=w) k;rw [et,eo,Int.toNat_natCast]at hd;have T:=fun c (f:Fr)=>Ir (r:=r) (c:=c) (mD.up (fr:=f) h.tomD) ho (by simp);rw [et,bz]at E;unfold uP at E T;simp [hwho,eo]at E;simp only [bB,hgo,hsw]at hd;rcases htk with y|y
  ·rw [y]at hd T;refine⟨v1,s.ao.length,v3,h.e1,Nat.le_refl _,h.e3,aN (a8 KC au Tryz.func142 rfl rfl Ez rfl rfl rfl (by simp) hH ?_)⟩;rw [bz];unfold uP;rcases hb.hand with z|z
   ·rw [z]at hd E;simp at hd;simp [d1,d2,d3,h.g1,h.g2,h.g3,h.e1,h.e2,h.e3,hp,hh,hwho,eo,E,T,z,ht,ho,aG,aF.row,br.row,aE,aa,hd,cr,G22,G23,s1,S4,how,List.getElem_set_ne]
   ·rw [z]at hd E;simp at hd;simp [d1,d2,d3,h.g1,h.g2,h.g3,h.e1,h.e2,h.e3,hp,hh,hwho,eo,E,T,z,ht,ho,aG,aF.row,br.row,aE,aa,hd,cr,G22,G23,s1,S4,how,List.getElem_set_ne]
  ·rw [y]at hd T;refine⟨v1,s.ao.length,v3,h.e1,Nat.le_refl _,h.e3,aN (a8 KC au Tryz.func142 rfl rfl Ez rfl rfl rfl (by simp) hH ?_)⟩;rw [bz];unfold uP;rcases hb.hand with z|z
   ·rw [z]at hd E;simp at hd;simp [d1,d2,d3,h.g1,h.g2,h.g3,h.e1,h.e2,h.e3,hp,hh,hwho,eo,E,T,z,ht,ho,aG,aF.row,br.row,aE,aa,hd,cr,G22,G23,s1,S4,how,List.getElem_set_ne]
   ·rw [z]at hd E;simp at hd;simp [d1,d2,d3,h.g1,h.g2,h.g3,h.e1,h.e2,h.e3,hp,hh,hwho,eo,E,T,z,ht,ho,aG,aF.row,br.row,aE,aa,hd,cr,G22,G23,s1,S4,how,List.getElem_set_ne]
 ·obtain⟨u,eu,hu⟩:=hb.xY (.inl k);rw [cB]at eu;have hd:=oy (s:=s) (w:=w) k;have hgt:=bc (d:=aU) hu;rw [eu,Int.toNat_natCast,zp hu (hst u hu) (.inl rfl),hgt]at hd;rw [eu,bz]at G;unfold uP at G;refine⟨v1,v2,s.ae.length,h.e1,h.e2,Nat.le_refl _,aN (a8 KC au Tryz.func144 rfl rfl LC rfl rfl rfl (by simp) hH ?_)⟩;rw [bz];unfold uP;simp [d1,d2,d3,h.g1,h.g2,h.g3,h.e1,h.e2,h.e3,hp,hh,G,hu,br.row,aE,aa,hd,cr,s1,s2]
 ·obtain⟨t,et,ht⟩:=hb.held (by omega);rw [cB]at et;obtain⟨u,eu,hu⟩:=hb.xY (.inr k);rw [cB]at eu;have hd:=oz (s:=s) (w:=w) k;have hgt:=bc (d:=aU) ht;have hst2:=hst;have S:=qA (t:=t) (bit:=2) (on:=false) hst ht (.inr (.inl rfl));have S':=qA (ts:=dJ s.ae t 2 false) (t:=t) (bit:=1) (on:=false) (fun j hj=>(S.2 j (by rw [S.1]at hj;exact hj)).2) (by rw [S.1];exact ht) (.inl rfl);rw [et,eu,Int.toNat_natCast,Int.toNat_natCast,zp (by rw [S'.1,S.1];exact hu) (S'.2 u (by rw [S.1];exact hu)).2 (.inr (.inl rfl)),FR ht (hst t ht),hgt]at hd;rw [et,bz]at E;unfold uP at E;obtain⟨X,hX⟩: ∃X,s.ae.set t ⟨s.ae[t].cell,lU s.ae[t].state 3⟩=X:=⟨_,rfl⟩;have hXl:X.length=s.ae.length:=(by rw [←hX];simp);have huX:u<X.length:=(by omega);rw [hX,bc huX]at hd;have hXr:(s.ae.map br.row).set t [.int .i64 s.ae[t].cell, .int .i64 (lU s.ae[t].state 3)]=X.map br.row:=by
   rw [←hX,List.map_set];rfl
  have SX:mD (H.set n3 (.arr 2 (X.map br.row) s.ae.length false)) n1 n2 n3 v1 v2 s.ae.length {s with ae:=X}:=
   ⟨h.kx,h.lR,h.kD,(G31 _).trans h.g1,(G32 _).trans h.g2,G33 _,h.e1,h.e2,by show s.ae.length≤X.length;omega⟩
  have G':=fun c (f:Fr)=>vM (r:=r) (c:=c) (a:=a) (mD.up (fr:=f) SX) hh hwho hb.hand (by simp);simp only [eu]at G';rw [bz]at G';unfold uP at G';simp only [hXl]at G';refine⟨v1,v2,s.ae.length,h.e1,h.e2,Nat.le_refl _,aN (a8 KC au Tryz.func146 rfl rfl LF rfl rfl rfl (by simp) hH ?_)⟩;rw [bz];unfold uP;simp [d1,d2,d3,h.g1,h.g2,h.g3,h.e1,h.e2,h.e3,hp,hh,E,ht,hXr,G',G33,hu,huX,hXl,br.row,aE,aa,hd,cr,s1,s2]
 ·obtain⟨t,et,ht⟩:=hb.held (by omega);rw [cB]at et;have hd:=oA (s:=s) (w:=w) k;have hgt:=bc (d:=aU) ht;rw [et,Int.toNat_natCast,zp ht (hst t ht) (.inr (.inr rfl)),hgt]at hd;rw [et,bz]at E;unfold uP at E;refine⟨v1,v2,s.ae.length,h.e1,h.e2,Nat.le_refl _,aN (a8 KC au Tryz.func148 rfl rfl LG rfl rfl rfl (by simp) hH ?_)⟩;rw [bz];unfold uP;simp [d1,d2,d3,h.g1,h.g2,h.g3,h.e1,h.e2,h.e3,hp,hh,E,ht,br.row,aE,aa,hd,cr,s1,s2]
 ·obtain⟨t,et,ht⟩:=hb.held (by omega);rw [cB]at et;have hd:=oB (s:=s) (w:=w) k;have hgt:=bc (d:=aU) ht;rw [et,Int.toNat_natCast,vL ht (hst t ht) (.inr (.inr rfl)),hgt]at hd;rw [et,bz]at E;unfold uP at E;refine⟨v1,v2,s.ae.length,h.e1,h.e2,Nat.le_refl _,aN (a8 KC au Tryz.func150 rfl rfl LI rfl rfl rfl (by simp) hH ?_)⟩;rw [bz];unfold uP;simp [d1,d2,d3,h.g1,h.g2,h.g3,h.e1,h.e2,h.e3,hp,hh,E,ht,br.row,aE,aa,hd,cr,s1,s2]
end
end
def Fr.ia (f:Fr):Prop:=(f.map (·.1)).Pairwise (· < ·)
theorem Fr.pF {q : Nat} {b : dM} {x : Nat × dM} : ∀ {f : Fr}, f.ia → x ∈ f.ins q b → x = (q, b) ∨ (x ∈ f ∧ x.1 ≠ q)
  | [], _, h => by simp at h; exact .inl h
  | (k, c) :: r, hs, h => by
    unfold Fr.ia at hs
    rw [List.map_cons, List.pairwise_cons] at hs
    simp only [Fr.rI] at h
    have hlt : ∀ y ∈ r, k < y.1 := fun y hy => hs.1 y.1 (List.mem_map_of_mem hy)
    split at h
    · rename_i e; subst e
      rcases List.mem_cons.1 h with h | h
      · exact .inl h
      · exact .inr ⟨List.mem_cons_of_mem _ h, fun e => by have := hlt x h; omega⟩
    · rename_i ne
      split at h
      · rename_i lt
        rcases List.mem_cons.1 h with h | h
        · exact .inl h
        · refine .inr ⟨h, fun e => ?_⟩
          rcases List.mem_cons.1 h with h | h
          · subst h; exact ne e.symm
          · have := hlt x h; omega
      · rcases List.mem_cons.1 h with h | h
        · subst h; exact .inr ⟨List.mem_cons_self .., fun e => ne e.symm⟩
        · rcases Fr.pF (f := r) hs.2 h with h | h
          · exact .inl h
          · exact .inr ⟨List.mem_cons_of_mem _ h.1, h.2⟩
theorem Fr.A0 {q : Nat} {b : dM} : ∀ {f : Fr} {k : Nat}, k ∈ (f.ins q b).map (·.1) → k = q ∨ k ∈ f.map (·.1)
  | [], k, h => by simp at h; exact .inl h
  | (k0, c) :: r, k, h => by
    simp only [Fr.rI] at h
    split at h
    · rename_i e; subst e
      simp only [List.map_cons, List.mem_cons] at h ⊢
      exact .inr h
    · split at h
      · simp only [List.map_cons, List.mem_cons] at h ⊢
        exact h
      · simp only [List.map_cons, List.mem_cons] at h ⊢
        rcases h with h | h
        · exact .inr (.inl h)
        · rcases Fr.A0 h with h | h
          · exact .inl h
          · exact .inr (.inr h)
theorem Fr.cW {q : Nat} {b : dM} : ∀ {f : Fr}, f.ia → (f.ins q b).ia
  | [], _ => by simp [Fr.ia]
  | (k, c) :: r, hs => by
    unfold Fr.ia at hs ⊢
    rw [List.map_cons, List.pairwise_cons] at hs
    simp only [Fr.rI]
    split
    · rename_i e; subst e
      rw [List.map_cons, List.pairwise_cons]; exact hs
    · rename_i ne
      split
      · rename_i lt
        rw [List.map_cons, List.pairwise_cons, List.map_cons, List.pairwise_cons]
        refine ⟨fun y hy => ?_, hs⟩
        rcases List.mem_cons.1 hy with h | h
        · subst h; exact lt
        · have := hs.1 y h; simp only at *; omega
      · rw [List.map_cons, List.pairwise_cons]
        refine ⟨fun y hy => ?_, Fr.cW (f := r) hs.2⟩
        rcases Fr.A0 hy with h | h
        · subst h; simp only at *; omega
        · exact hs.1 y h
theorem Fr.get_mem {q : Nat} {b : dM} : ∀ {f : Fr}, f.get q = some b → (q, b) ∈ f
  | [], h => by simp at h
  | (k, c) :: r, h => by
    simp only [Fr.cS] at h
    split at h
    · rename_i e; subst e; cases h; exact List.mem_cons_self ..
    · exact List.mem_cons_of_mem _ (Fr.get_mem h)
theorem Fr.EA {q : Nat} {b : dM} : ∀ {f : Fr}, f.ia → (q, b) ∈ f → f.get q = some b
  | [], _, h => by simp at h
  | (k, c) :: r, hs, h => by
    unfold Fr.ia at hs
    rw [List.map_cons, List.pairwise_cons] at hs
    simp only [Fr.cS]
    rcases List.mem_cons.1 h with h | h
    · cases h; simp
    · have := hs.1 q (List.mem_map_of_mem (f := (·.1)) h)
      rw [if_neg (by simp only at this; omega)]
      exact Fr.EA hs.2 h
theorem Fr.zq {q : Nat} : ∀ {f : Fr}, (f.del q).Sublist f
  | [] => .slnil
  | (k, c) :: r => by
    unfold Fr.del
    split
    · exact Fr.zq.cons _
    · exact Fr.zq.cons_cons _
theorem qC: ∀{l:List Nat} {f:Fr},(gb l f).Sublist f
 | [],f=>List.Sublist.refl f
 |q::l,f=>(qC (l:=l)).trans Fr.zq
theorem CW {l:List Nat}{f:Fr}(h:f.ia):(gb l f).ia:=h.sublist ((qC (l:=l) (f:=f)).map _)
theorem nh {p:Nat}: ∀{l:List Nat} {f:Fr},(gb l f).get p=if p∈l then none else f.get p
 | [],f=>by simp [gb]
 |q::l,f=>by
  unfold gb;rw [nh,Fr.u0];by_cases h1:p∈l
  ·simp [h1]
  ·by_cases h2:p=q
   ·simp [h1,h2]
   ·simp [h1,h2]
theorem qD {nm:Nm}: ∀{f:Fr},iE nm f=true↔ ∀x∈f,gE nm x.2=true
 | []=>by simp [iE]
 |x::r=>by simp [iE,qD (f:=r)]
theorem jm {L:Nat}{s:bd}{fr:Fr}{p:Nat}: ∀{g:Fr},p∈gN L s fr g↔(∃b,(p,b)∈g)∧gF p=true∧jo (L,p) s=true∧iE (L,p) fr=true
 | []=>by simp [gN]
 |x::r=>by
  obtain⟨k,b⟩:=x;simp only [gN];by_cases h:(gF k && jo (L,k) s && iE (L,k) fr)=true
  ·rw [if_pos h,List.mem_cons,jm];simp only [Bool.and_eq_true]at h;constructor
   ·rintro(rfl|⟨⟨b',hb⟩,h2⟩)
    ·exact⟨⟨b,List.mem_cons_self ..⟩,h.1.1,h.1.2,h.2⟩
    ·exact⟨⟨b',List.mem_cons_of_mem _ hb⟩,h2⟩
   ·rintro⟨⟨b',hb⟩,h2⟩;rcases List.mem_cons.1 hb with e|e
    ·cases e;exact .inl rfl
    ·exact .inr ⟨⟨b',e⟩,h2⟩
  ·rw [if_neg h,jm];constructor
   ·rintro⟨⟨b',hb⟩,h2⟩;exact⟨⟨b',List.mem_cons_of_mem _ hb⟩,h2⟩
   ·rintro⟨⟨b',hb⟩,h2⟩;rcases List.mem_cons.1 hb with e|e
    ·cases e;exact absurd (by simp [h2]) h
    ·exact⟨⟨b',e⟩,h2⟩
theorem Tr {s:bd}{F:Fr}{H:aj}{nt:Nat}(hH:0<H.length): ∃F',qE ⟨s,F::H,nt⟩=some ⟨s,F'::H,nt⟩∧(F.ia→F'.ia)∧(∀x∈F',x∈F)∧
  (∀k,gF k=false→F'.get k=F.get k)∧(∀k x,x∈F→gE (H.length,k) x.2=false→F'.get k=F.get k)∧
  (∀k,gF k=true→jo (H.length,k) s=true→(∀x∈F,gE (H.length,k) x.2=true)→F'.get k=none):=by
 refine⟨gb (gN H.length s F F) F, ?_,CW,fun x hx=>qC.subset hx,fun k hk=> ?_,fun k x hx hr=> ?_,fun k hk hs hr=> ?_⟩
 ·unfold qE;simp only;rw [if_neg (by omega)]
 ·rw [nh,if_neg];rw [jm];rintro⟨_,h,_⟩;rw [hk]at h;cases h
 ·rw [nh,if_neg];rw [jm];rintro⟨_,_,_,h⟩;rw [qD]at h;rw [h x hx]at hr;cases hr
 ·rw [nh];by_cases h:k∈gN H.length s F F
  ·rw [if_pos h]
  ·rw [if_neg h]
   cases hg:F.get k with
   |none=>rfl
   |some b=>exact absurd (jm.2 ⟨⟨b,Fr.get_mem hg⟩,hk,hs,qD.2 hr⟩) h
end Go.Gh
