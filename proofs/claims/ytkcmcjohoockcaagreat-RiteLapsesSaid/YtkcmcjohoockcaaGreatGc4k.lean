/- Texts joined: the evaluator over ghost values, its soundness, the walks. Spaces struck and names made short by a program, for the size. -/
import Derived.Test.YtkcmcjohoockcaaGreatGc4j
import Derived.Test.YtkcmcjohoockcaaGreatGc4i
namespace Go.Gh
open Go.Proofs
set_option linter.unusedVariables false
set_option linter.unusedSimpArgs false
set_option linter.unnecessarySimpa false
set_option maxRecDepth 100000
set_option maxHeartbeats 8000000
section
variable {c:Nat} {H:aj}
theorem GQ {L R:List ak} (hL:L.Pairwise fun a b=>a.aR≤b.aR) (hR:R.Pairwise fun a b=>a.aR≤b.aR) {i j:Nat} (hi:i≤L.length) (hj:j≤R.length)
  (c1: ∀(h:0<i) (h2:j<R.length),(L[i-1]'(by omega)).aR≤R[j].aR) (c2: ∀(h:i<L.length) (h2:0<j),(R[j-1]'(by omega)).aR<L[i].aR):
  a7 (L++R)=a7 (L.take i++R.take j)++a7 (L.drop i++R.drop j):=by
 have sp:=fun {T:List ak} (hT:T.Pairwise fun a b=>a.aR≤b.aR) (n:Nat)=>(List.pairwise_append.1 (by rw [List.take_append_drop n T];exact hT:(T.take n++T.drop n).Pairwise fun a b=>a.aR≤b.aR)).2.2;have:=ui (L1:=L.take i) (L2:=L.drop i) (R1:=R.take j) (R2:=R.drop j) (fun l hl r hr=>by
   obtain⟨p,hp,rfl⟩:=List.getElem_of_mem hl;obtain⟨q,hq,rfl⟩:=List.getElem_of_mem hr;rw [List.length_drop]at hp;rw [List.length_take]at hq;rw [List.getElem_drop,List.getElem_take];have h1:=c2 (by omega) (by omega);have h2:=nX hR (i:=q) (j:=j-1) (by omega) (by omega) (by omega);have h3:=nX hL (i:=i) (j:=i+p) (by omega) (by omega) (by omega);omega) (sp hL i) (sp hR j) (fun l hl r hr=>by
   obtain⟨p,hp,rfl⟩:=List.getElem_of_mem hl;obtain⟨q,hq,rfl⟩:=List.getElem_of_mem hr;rw [List.length_take]at hp;rw [List.length_drop]at hq;rw [List.getElem_drop,List.getElem_take];have h1:=c1 (by omega) (by omega);have h2:=nX hL (i:=p) (j:=i-1) (by omega) (by omega) (by omega);have h3:=nX hR (i:=j) (j:=j+q) (by omega) (by omega) (by omega);omega)
 rw [List.take_append_drop,List.take_append_drop]at this;exact this
theorem EU {P L R Q:List ak}{q:Nat}(h1:P.length≤q)(h2:q<P.length+L.length):qd (P++L++R++Q) q=(L[q-P.length]'(by omega)).aR:=by
 unfold qd;have:(P++L++R++Q)[q]? =some (L[q-P.length]'(by omega)):=by
  rw [List.append_assoc,List.append_assoc,List.getElem?_append_right h1,List.getElem?_append_left (by omega),List.getElem?_eq_getElem]
 rw [List.getD_eq_getElem?_getD,this];rfl
theorem EW {P L R Q:List ak}{q:Nat}(h1:P.length+L.length≤q)(h2:q<P.length+L.length+R.length):qd (P++L++R++Q) q=(R[q-(P.length+L.length)]'(by omega)).aR:=by
 unfold qd;have:(P++L++R++Q)[q]? =some (R[q-(P.length+L.length)]'(by omega)):=by
  rw [List.append_assoc,List.getElem?_append_right (by rw [List.length_append];exact h1),List.length_append,List.getElem?_append_left (by omega),List.getElem?_eq_getElem]
 rw [List.getD_eq_getElem?_getD,this];rfl
structure Cut (A M B mid s0 r0:Nat):Prop where
 le:s0≤r0
 a:A≤s0
 m:r0≤M
 d:r0≤mid
 e:mid+M-s0≤B
 s:s0=A∨mid+M-s0=B
 r:r0=M∨r0=mid
theorem abY {A M B mid:Nat}(h1:A+2≤M)(h2:M+2≤B)(hm:mid=(A+B)/2)(h:mid<M):Cut A M B mid (mid+M-B) mid:=by
 constructor<;>omega
theorem abZ {A M B mid:Nat}(h1:A+2≤M)(h2:M+2≤B)(hm:mid=(A+B)/2)(h: ¬mid<M):Cut A M B mid A M:=by
 constructor<;>omega
theorem Jp {P L R Q:List ak}{M B mid s0 r0:Nat}(hL:L.Pairwise fun a b=>a.aR≤b.aR)(hR:R.Pairwise fun a b=>a.aR≤b.aR)(hM:M=P.length+L.length)(hB:B=P.length+L.length+R.length)(hc:Cut P.length M B mid s0 r0):
  ∀q q',s0≤q→q≤q'→q'<r0→qd (P++L++R++Q) q≤qd (P++L++R++Q) q'∧qd (P++L++R++Q) (mid+M-1-q')≤qd (P++L++R++Q) (mid+M-1-q):=fun q q' h1 h2 h3=>by
 have:=hc.a;have:=hc.m;have:=hc.d;have:=hc.e;rw [EU (by omega) (by omega),EU (by omega) (by omega),EW (by omega) (by omega),EW (by omega) (by omega)];exact⟨nX hL _ _ (by omega),nX hR _ _ (by omega)⟩
theorem Jq {P L R Q:List ak} {M B mid s0 r0 s:Nat} (hL:L.Pairwise fun a b=>a.aR≤b.aR) (hR:R.Pairwise fun a b=>a.aR≤b.aR) (hM:M=P.length+L.length) (hB:B=P.length+L.length+R.length) (hc:Cut P.length M B mid s0 r0) (hs:s0≤s) (hr:s≤r0)
  (lo:s0<s→qd (P++L++R++Q) (s-1)≤qd (P++L++R++Q) (mid+M-s)) (hi:s<r0→qd (P++L++R++Q) (mid+M-1-s)<qd (P++L++R++Q) s):
  a7 (L++R)=a7 (L.take (s-P.length)++R.take (mid-s))++a7 (L.drop (s-P.length)++R.drop (mid-s)):=by
 have h1:=hc.a;have h2:=hc.m;have h3:=hc.d;have h4:=hc.e;have h5:=hc.s;have h6:=hc.r;refine GQ hL hR (by omega) (by omega) (fun a b=> ?_) (fun a b=> ?_)
 ·have:=lo (by omega);rw [EU (by omega) (by omega),EW (by omega) (by omega)]at this;have e1:s-1-P.length=s-P.length-1:=(by omega);have e2:mid+M-s-(P.length+L.length)=mid-s:=(by omega);simp only [e1,e2]at this;exact this
 ·have:=hi (by omega);rw [EW (by omega) (by omega),EU (by omega) (by omega)]at this;have e2:mid+M-1-s-(P.length+L.length)=mid-s-1:=(by omega);simp only [e2]at this;exact this
structure ab0 (H:aj)(nm:Nm)(N v A M B mid s e:Nat)(X0 X1 X2 X3:List (List PV))(v1 v2 v3:Nat):Prop where
 r1:s<M→mid<e
 Sb: ¬s<M→ ¬mid<e
 r2:s<mid→M<e
 Sc: ¬s<mid→ ¬M<e
 ZE:s<M→s<mid→aI KC (aC KC) 158 [.aW nm 9 N 0 N, .pure (.int .i64 s), .pure (.int .i64 M), .pure (.int .i64 e), .pure (.fn 107)] 191 ([]::H.set nm (.arr 9 X0 v false))=some (.pure (.tuple []),[]::H.set nm (.arr 9 X1 v1 false))
 GR:A<s→s<mid→aI KC (aC KC) 152 [.aW nm 9 N 0 N, .pure (.int .i64 A), .pure (.int .i64 s), .pure (.int .i64 mid), .pure (.fn 107)] 205 ([]::H.set nm (.arr 9 X1 v1 false))=some (.pure (.tuple []),[]::H.set nm (.arr 9 X2 v2 false))
 GS:s<M→e<B→aI KC (aC KC) 152 [.aW nm 9 N 0 N, .pure (.int .i64 mid), .pure (.int .i64 e), .pure (.int .i64 B), .pure (.fn 107)] 219 ([]::H.set nm (.arr 9 X2 v2 false))=some (.pure (.tuple []),[]::H.set nm (.arr 9 X3 v3 false))
 q1: ¬(s<M∧s<mid)→X0=X1∧v=v1
 q2: ¬(A<s∧s<mid)→X1=X2∧v1=v2
 q3: ¬(s<M∧e<B)→X2=X3∧v2=v3
theorem uu {T:List ak}(hT:T.Pairwise fun a b=>a.aR≤b.aR)(n:Nat):(T.take n).Pairwise fun a b=>a.aR≤b.aR:=hT.sublist (List.take_sublist n T)
theorem uv {T:List ak}(hT:T.Pairwise fun a b=>a.aR≤b.aR)(n:Nat):(T.drop n).Pairwise fun a b=>a.aR≤b.aR:=hT.sublist (List.drop_sublist n T)
theorem wO {p:Prop}{Q R:Nat→Prop}{v:Nat}{E:Prop}(h:p→ ∃v',Q v'∧R v')(h2:Q v)(hE: ¬p→E): ∃v',Q v'∧(p→R v')∧(¬p→E∧v=v'):=by
 by_cases hp:p
 ·obtain⟨v',a,b⟩:=h hp;exact⟨v',a,fun _=>b,fun h=>absurd hp h⟩
 ·exact⟨v,h2,fun h=>absurd h hp,fun _=>⟨hE hp,rfl⟩⟩
theorem Jr {nm:Nm} {N k:Nat} (hn:N≤1000000) (hnm:nm.1<H.length)
  (IH: ∀(H:aj) (c:Nat) (P L R Q:List ak) (v:Nat) (a m b:Int),nm.1<H.length→L.length+R.length≤k→0<L.length→0<R.length→L.Pairwise (fun a b=>a.aR≤b.aR)→R.Pairwise (fun a b=>a.aR≤b.aR)→P.length+L.length+R.length+Q.length=N→v≤N→a=P.length→m=(P.length+L.length:Nat)→b=(P.length+L.length+R.length:Nat)→
   ∃v',v'≤N∧aI KC (aC KC) 152 [.aW nm 9 N 0 N, .pure (.int .i64 a), .pure (.int .i64 m), .pure (.int .i64 b), .pure (.fn 107)] c (H.set nm (.arr 9 ((P++L++R++Q).map ak.row) v false))=
    some (.pure (.tuple []),H.set nm (.arr 9 ((P++a7 (L++R)++Q).map ak.row) v' false)))
  (P L R Q:List ak) (hk:L.length+R.length≤k+1) (h2L:2≤L.length) (h2R:2≤R.length) (hL:L.Pairwise fun a b=>a.aR≤b.aR) (hR:R.Pairwise fun a b=>a.aR≤b.aR) (hl:P.length+L.length+R.length+Q.length=N) {v:Nat} (hv:v≤N) {A M B mid s e:Nat} (hA:P.length=A) (hM:P.length+L.length=M) (hB:P.length+L.length+R.length=B)
  (s1:A≤s) (s2:s≤M) (s3:s≤mid) (s4:e≤B) (s5:mid<B) (s6:A<mid) (hse:s+e=mid+M) (CS:a7 (L++R)=a7 (L.take (s-P.length)++R.take (mid-s))++a7 (L.drop (s-P.length)++R.drop (mid-s))):
  ∃v3,v3≤N∧ ∃(X1 X2:List (List PV)) (v1 v2:Nat),ab0 H nm N v A M B mid s e ((P++L++R++Q).map ak.row) X1 X2 ((P++a7 (L++R)++Q).map ak.row) v1 v2 v3:=by
 have up: ∀b,aj.set ([]::H) nm b=[]::H.set nm b:=fun b=>by
  show (if nm.1=H.length then _ else _)=_
  rw [if_neg (by omega)]
 obtain⟨L1,hL1⟩: ∃L1,L.take (s-P.length)=L1:=⟨_,rfl⟩;obtain⟨L2,hL2⟩: ∃L2,L.drop (s-P.length)=L2:=⟨_,rfl⟩;obtain⟨R1,hR1⟩: ∃R1,R.take (mid-s)=R1:=⟨_,rfl⟩;obtain⟨R2,hR2⟩: ∃R2,R.drop (mid-s)=R2:=⟨_,rfl⟩;have l1:L1.length=s-A:=(by rw [←hL1,List.length_take];omega);have l2:L2.length=M-s:=(by rw [←hL2,List.length_drop];omega);have l3:R1.length=mid-s:=(by rw [←hR1,List.length_take];omega);have l4:R2.length=B-e:=(by rw [←hR2,List.length_drop];omega);have so1:=hL1▸uu hL (s-P.length);have so2:=hL2▸uv hL (s-P.length);have so3:=hR1▸uu hR (mid-s);have so4:=hR2▸uv hR (mid-s);have eL:L1++L2=L:=(by rw [←hL1,←hL2,List.take_append_drop]);have eR:R1++R2=R:=(by rw [←hR1,←hR2,List.take_append_drop]);rw [hL1,hL2,hR1,hR2]at CS;have eX:P++L++R++Q=(P++L1)++L2++R1++(R2++Q):=(by rw [←eL,←eR];simp);obtain⟨v1,a1,b1,c1⟩:=wO (p:=s<M∧s<mid) (Q:=fun v=>v≤N) (E:=(P++L++R++Q).map ak.row=(P++L1++R1++(L2++R2++Q)).map ak.row) (R:=fun v1=>aI KC (aC KC) 158 [.aW nm 9 N 0 N, .pure (.int .i64 s), .pure (.int .i64 M), .pure (.int .i64 e), .pure (.fn 107)] 191 ([]::H.set nm (.arr 9 ((P++L++R++Q).map ak.row) v false))=some (.pure (.tuple []),[]::H.set nm (.arr 9 ((P++L1++R1++(L2++R2++Q)).map ak.row) v1 false))) (fun hp=>by
  have:=Tx (c:=191) (H:=[]::H) (nm:=nm) (N:=N) (v:=v) hn (by simp;omega) (P++L1) L2 R1 (R2++Q) (by omega) (by omega) (by rw [List.length_append,List.length_append];omega) hv s M e (by rw [List.length_append];omega) (by rw [List.length_append];omega) (by rw [List.length_append];omega);rw [←eX]at this;simp only [up]at this;rw [show P++L1++R1++(L2++R2++Q)=P++L1++R1++L2++(R2++Q)by simp]
  exact this) hv (fun hp=>by
  have h:s=M∨s=mid:=(by omega);rw [eX];congr 1;rcases h with h|h
  ·obtain rfl:L2=[]:=List.length_eq_zero_iff.1 (by omega);simp
  ·obtain rfl:R1=[]:=List.length_eq_zero_iff.1 (by omega);simp)
 obtain⟨v2,a2,b2,c2⟩:=wO (p:=A<s∧s<mid) (Q:=fun v=>v≤N) (E:=(P++L1++R1++(L2++R2++Q)).map ak.row=((P++a7 (L1++R1))++L2++R2++Q).map ak.row) (R:=fun v2=>aI KC (aC KC) 152 [.aW nm 9 N 0 N, .pure (.int .i64 A), .pure (.int .i64 s), .pure (.int .i64 mid), .pure (.fn 107)] 205 ([]::H.set nm (.arr 9 ((P++L1++R1++(L2++R2++Q)).map ak.row) v1 false))=some (.pure (.tuple []),[]::H.set nm (.arr 9 (((P++a7 (L1++R1))++L2++R2++Q).map ak.row) v2 false))) (fun hp=>by
  have:=IH ([]::H) 205 P L1 R1 (L2++R2++Q) v1 A s mid (by simp;omega) (by omega) (by omega) (by omega) so1 so3 (by rw [List.length_append,List.length_append];omega) a1 (by omega) (by omega) (by omega);simp only [up]at this;rw [show (P++a7 (L1++R1))++L2++R2++Q=P++a7 (L1++R1)++(L2++R2++Q)by simp]
  exact this) a1 (fun hp=>by
  have h:A=s∨s=mid:=(by omega);have hs:a7 (L1++R1)=L1++R1:=by
   rcases h with h|h
   ·obtain rfl:L1=[]:=List.length_eq_zero_iff.1 (by omega);exact dD so3
   ·obtain rfl:R1=[]:=List.length_eq_zero_iff.1 (by omega);rw [List.append_nil];exact dD so1
  rw [hs];congr 1;simp)
 obtain⟨v3,a3,b3,c3⟩:=wO (p:=s<M∧e<B) (Q:=fun v=>v≤N) (E:=((P++a7 (L1++R1))++L2++R2++Q).map ak.row=(P++a7 (L++R)++Q).map ak.row) (R:=fun v3=>aI KC (aC KC) 152 [.aW nm 9 N 0 N, .pure (.int .i64 mid), .pure (.int .i64 e), .pure (.int .i64 B), .pure (.fn 107)] 219 ([]::H.set nm (.arr 9 (((P++a7 (L1++R1))++L2++R2++Q).map ak.row) v2 false))=some (.pure (.tuple []),[]::H.set nm (.arr 9 ((P++a7 (L++R)++Q).map ak.row) v3 false))) (fun hp=>by
  have:=IH ([]::H) 219 (P++a7 (L1++R1)) L2 R2 Q v2 mid e B (by simp;omega) (by omega) (by omega) (by omega) so2 so4 (by rw [List.length_append,bF,List.length_append];omega) a2 (by rw [List.length_append,bF,List.length_append];omega) (by rw [List.length_append,bF,List.length_append];omega) (by rw [List.length_append,bF,List.length_append];omega);simp only [up]at this;rw [CS,show P++(a7 (L1++R1)++a7 (L2++R2))++Q=P++a7 (L1++R1)++a7 (L2++R2)++Q by simp]
  exact this) a2 (fun hp=>by
  have h:s=M∨e=B:=(by omega);have hs:a7 (L2++R2)=L2++R2:=by
   rcases h with h|h
   ·obtain rfl:L2=[]:=List.length_eq_zero_iff.1 (by omega);exact dD so4
   ·obtain rfl:R2=[]:=List.length_eq_zero_iff.1 (by omega);rw [List.append_nil];exact dD so2
  rw [CS,hs];congr 1;simp)
 exact⟨v3,a3,_,_,v1,v2,by omega,by omega,by omega,by omega,fun x y=>b1 ⟨x,y⟩,fun x y=>b2 ⟨x,y⟩,fun x y=>b3 ⟨x,y⟩,c1,c2,c3⟩
theorem aer {nm:Nm} {N k:Nat} (hn:N≤1000000) (hnm:nm.1<H.length)
  (IH: ∀(H:aj) (c:Nat) (P L R Q:List ak) (v:Nat) (a m b:Int),nm.1<H.length→L.length+R.length≤k→0<L.length→0<R.length→L.Pairwise (fun a b=>a.aR≤b.aR)→R.Pairwise (fun a b=>a.aR≤b.aR)→P.length+L.length+R.length+Q.length=N→v≤N→a=P.length→m=(P.length+L.length:Nat)→b=(P.length+L.length+R.length:Nat)→
   ∃v',v'≤N∧aI KC (aC KC) 152 [.aW nm 9 N 0 N, .pure (.int .i64 a), .pure (.int .i64 m), .pure (.int .i64 b), .pure (.fn 107)] c (H.set nm (.arr 9 ((P++L++R++Q).map ak.row) v false))=
    some (.pure (.tuple []),H.set nm (.arr 9 ((P++a7 (L++R)++Q).map ak.row) v' false)))
  (P L R Q:List ak) (hk:L.length+R.length≤k+1) (h2L:2≤L.length) (h2R:2≤R.length) (hL:L.Pairwise fun a b=>a.aR≤b.aR) (hR:R.Pairwise fun a b=>a.aR≤b.aR) (hl:P.length+L.length+R.length+Q.length=N) {v:Nat} (hv:v≤N) (a m b:Int) (ha:a=P.length) (hm:m=(P.length+L.length:Nat)) (hb:b=(P.length+L.length+R.length:Nat)):
  ∃v',v'≤N∧aI KC (aC KC) 152 [.aW nm 9 N 0 N, .pure (.int .i64 a), .pure (.int .i64 m), .pure (.int .i64 b), .pure (.fn 107)] c (H.set nm (.arr 9 ((P++L++R++Q).map ak.row) v false))=
   some (.pure (.tuple []),H.set nm (.arr 9 ((P++a7 (L++R)++Q).map ak.row) v' false)):=by
 suffices hs:ku (aI KC (aC KC) 152 [.aW nm 9 N 0 N, .pure (.int .i64 a), .pure (.int .i64 m), .pure (.int .i64 b), .pure (.fn 107)] c (H.set nm (.arr 9 ((P++L++R++Q).map ak.row) v false))) (fun r=> ∃v',v'≤N∧r=(.pure (.tuple []),H.set nm (.arr 9 ((P++a7 (L++R)++Q).map ak.row) v' false)))by
  obtain⟨r,hx,v',h1,h2⟩:=hs;exact⟨v',h1,by rw [hx,h2]⟩
 have hH:0<(H.set nm (.arr 9 ((P++L++R++Q).map ak.row) v false)).length:=(by rw [aj.length_set];omega);obtain⟨A,hA⟩: ∃A,P.length=A:=⟨_,rfl⟩;obtain⟨M,hM⟩: ∃M,P.length+L.length=M:=⟨_,rfl⟩;obtain⟨B,hB⟩: ∃B,P.length+L.length+R.length=B:=⟨_,rfl⟩;obtain⟨mid,hmid⟩: ∃mid,(A+B)/2=mid:=⟨_,rfl⟩;obtain⟨s0,r0,hcut,hs0⟩: ∃s0 r0,Cut A M B mid s0 r0∧((mid<M∧s0=mid+M-B∧r0=mid)∨(¬mid<M∧s0=A∧r0=M)):=by
  by_cases h:mid<M
  ·exact⟨_,_,abY (by omega) (by omega) hmid.symm h, .inl ⟨h,rfl,rfl⟩⟩
  ·exact⟨_,_,abZ (by omega) (by omega) hmid.symm h, .inr ⟨h,rfl,rfl⟩⟩
 rw [←hA]at hcut;have k1:=hcut.a;have k2:=hcut.m;have k3:=hcut.d;have k4:=hcut.e;have k5:=hcut.le;have BS:=fun Q' h1=>IS (H:=H) (nm:=nm) (N:=N) hn hnm (P++L++R++Q) (by simp only [List.length_append];omega) hv (a:=A) (m:=M) (b:=B) (mid:=mid) (n:=mid+M) (s0:=s0) (r0:=r0) (by omega) (by omega) (fun q h1 h2=>by omega) (Jp hL hR hM.symm hB.symm hcut) Q' h1 (r0-s0) s0 r0 (Nat.le_refl _) (Nat.le_refl _) k5 (Nat.le_refl _) (fun h=>absurd h (Nat.lt_irrefl _)) (fun h=>absurd h (Nat.lt_irrefl _));have CS:=fun s=>Jq (P:=P) (L:=L) (R:=R) (Q:=Q) (s:=s) hL hR hM.symm hB.symm hcut;have w1:IntKind.i64.wrap ((M:Int)-A)=L.length:=(by rw [cu (by omega) (by omega)];omega);have w2:IntKind.i64.wrap ((B:Int)-M)=R.length:=(by rw [cu (by omega) (by omega)];omega);have hL1: ¬(L.length:Int)=1:=(by omega);have hR1: ¬(R.length:Int)=1:=(by omega);have hL2: ¬L.length=1:=(by omega);have hR2: ¬R.length=1:=(by omega);have hf:=u7 (x:=(A:Int)+B) (n:=A+B) (by omega) (by omega);rw [hmid]at hf;have w3:=cu (x:=(mid:Int)+M) (by omega) (by omega);have w4:=cu (x:=(mid:Int)+M-1) (by omega) (by omega);have d1: ¬nm.1=H.length:=(by omega);have d4:nm.1≤H.length:=(by omega);have TAIL:=fun s (h1:s0≤s) (h2:s≤r0) lo hi (e:Nat) (he:mid+M-s=e)=>Jr (nm:=nm) (N:=N) (k:=k) (H:=H) hn hnm IH P L R Q hk h2L h2R hL hR hl hv hA hM hB (by omega:A≤s) (by omega:s≤M) (by omega:s≤mid) (by omega:e≤B) (by omega:mid<B) (by omega:A<mid) (by omega:s+e=mid+M) (CS s h1 h2 lo hi);generalize hX:P++L++R++Q=X at BS CS hH TAIL⊢;generalize hY:P++a7 (L++R)++Q=Y at TAIL⊢;rw [hM]at hm;rw [hB]at hb;rw [hA]at ha;subst ha hm hb;have e0:((mid+M-1:Nat):Int)=(mid:Int)+M-1:=(by omega);rw [e0]at BS;generalize hXr:X.map ak.row=X0 at BS hH TAIL⊢;generalize hYr:Y.map ak.row=Y0 at TAIL⊢;refine a8 KC au Tryz.func152 rfl rfl zQ rfl rfl rfl (by simp) hH ?_;have FIN: ∀s,s0≤s→s≤r0→(s0<s→qd X (s-1)≤qd X (mid+M-s))→(s<r0→qd X (mid+M-1-s)<qd X s)→ ∃(e v':Nat),v'≤N∧IntKind.i64.wrap ((mid:Int)+M-s)=(e:Int)∧ ∃(X1 X2:List (List PV)) (v1 v2:Nat),ab0 H nm N v A M B mid s e X0 X1 X2 Y0 v1 v2 v':=fun s h1 h2 lo hi=>by
  obtain⟨v',hv',X1,X2,v1,v2,T⟩:=TAIL s h1 h2 lo hi _ rfl;exact⟨mid+M-s,v',hv',by rw [cu (by omega) (by omega)];omega,X1,X2,v1,v2,T⟩
 simp at BS;rcases hs0 with ⟨hcase,e1,e2⟩|⟨hcase,e1,e2⟩
 ·have w5:IntKind.i64.wrap ((mid:Int)+M-B)=(s0:Int):=(by rw [cu (by omega) (by omega)];omega);rw [e2]at BS FIN;simp [w1,w2,hL1,hR1,hL2,hR2,hf,w3,w4,w5,hcase];refine BS _ fun s h1 h2 lo hi=> ?_;obtain⟨e,v',hv',we,X1,X2,v1,v2,T⟩:=FIN s h1 h2 lo hi;by_cases p1:s<M
  ·have r1:mid<e:=T.r1 p1;by_cases p2:s<mid
   ·have r2:M<e:=T.r2 p2;by_cases p3:A<s
    ·by_cases p4:e<B
     ·simp [we,d1,d4,p1,p2,p3,p4,r1,r2,T.ZE p1 p2,T.GR p3 p2,T.GS p1 p4,aa,aj.length_set];exact⟨v',hv',rfl⟩
     ·obtain⟨q3,z3⟩:=T.q3 (fun h=>p4 h.2);have p4':B≤e:=(by omega);simp [we,p4',d1,d4,p1,p2,p3,p4,r1,r2,T.ZE p1 p2,T.GR p3 p2,aa,aj.length_set];exact⟨v',hv',by rw [q3,z3]⟩
    ·obtain⟨q2,z2⟩:=T.q2 (fun h=>p3 h.1);have p3':s≤A:=(by omega);have R1:=T.ZE p1 p2;rw [q2,z2]at R1;by_cases p4:e<B
     ·simp [we,d1,d4,p1,p2,p3,p4,r1,r2,R1,T.GS p1 p4,aa,aj.length_set];exact⟨v',hv',rfl⟩
     ·obtain⟨q3,z3⟩:=T.q3 (fun h=>p4 h.2);have p4':B≤e:=(by omega);simp [we,p3',p4',d1,d4,p1,p2,p3,p4,r1,r2,R1,aa,aj.length_set];exact⟨v',hv',by rw [q3,z3]⟩
   ·have r2: ¬M<e:=T.Sc p2;have p2':mid≤s:=(by omega);have Sc:e≤M:=(by omega);obtain⟨q1,z1⟩:=T.q1 (fun h=>p2 h.2);obtain⟨q2,z2⟩:=T.q2 (fun h=>p2 h.2);rw [q1,q2,z1,z2];by_cases p4:e<B
    ·rcases(by omega:(A<s∧ ¬s≤A)∨(¬A<s∧s≤A))with ⟨p3,p3'⟩|⟨p3,p3'⟩<;>
     ·simp [we,p3,p3',d1,d4,p1,p2,p2',Sc,p4,r1,r2,T.GS p1 p4,aa,aj.length_set];exact⟨v',hv',rfl⟩
    ·obtain⟨q3,z3⟩:=T.q3 (fun h=>p4 h.2);have p4':B≤e:=(by omega);rcases(by omega:(A<s∧ ¬s≤A)∨(¬A<s∧s≤A))with ⟨p3,p3'⟩|⟨p3,p3'⟩<;>
     ·simp [we,p3,p3',p2',Sc,p4',d1,d4,p1,p2,p4,r1,r2,aa,aj.length_set];exact⟨v',hv',by rw [q3,z3]⟩
  ·have r1: ¬mid<e:=T.Sb p1;have p1':M≤s:=(by omega);have Sb:e≤mid:=(by omega);obtain⟨q1,z1⟩:=T.q1 (fun h=>p1 h.1);obtain⟨q3,z3⟩:=T.q3 (fun h=>p1 h.1);rw [q1,z1];by_cases p2:s<mid
   ·by_cases p3:A<s
    ·simp [we,d1,d4,p1,p2,p3,r1,T.GR p3 p2,aa,aj.length_set];exact⟨v',hv',by rw [q3,z3]⟩
    ·obtain⟨q2,z2⟩:=T.q2 (fun h=>p3 h.1);have p3':s≤A:=(by omega);rw [q2,z2];simp [we,p1',Sb,p3',d1,d4,p1,p2,p3,r1,aa,aj.length_set];exact⟨v',hv',by rw [q3,z3]⟩
   ·obtain⟨q2,z2⟩:=T.q2 (fun h=>p2 h.2);have p2':mid≤s:=(by omega);rw [q2,z2];rcases(by omega:(A<s∧ ¬s≤A)∨(¬A<s∧s≤A))with ⟨p3,p3'⟩|⟨p3,p3'⟩<;>
    ·simp [we,p3,p3',p1',Sb,p2',d1,d4,p1,p2,r1,aa,aj.length_set];exact⟨v',hv',by rw [q3,z3]⟩
 ·rw [e1,e2]at BS FIN;simp [w1,w2,hL1,hR1,hL2,hR2,hf,w3,w4,hcase];refine BS _ fun s h1 h2 lo hi=> ?_;obtain⟨e,v',hv',we,X1,X2,v1,v2,T⟩:=FIN s h1 h2 lo hi;by_cases p1:s<M
  ·have r1:mid<e:=T.r1 p1;by_cases p2:s<mid
   ·have r2:M<e:=T.r2 p2;by_cases p3:A<s
    ·by_cases p4:e<B
     ·simp [we,d1,d4,p1,p2,p3,p4,r1,r2,T.ZE p1 p2,T.GR p3 p2,T.GS p1 p4,aa,aj.length_set];exact⟨v',hv',rfl⟩
     ·obtain⟨q3,z3⟩:=T.q3 (fun h=>p4 h.2);have p4':B≤e:=(by omega);simp [we,p4',d1,d4,p1,p2,p3,p4,r1,r2,T.ZE p1 p2,T.GR p3 p2,aa,aj.length_set];exact⟨v',hv',by rw [q3,z3]⟩
    ·obtain⟨q2,z2⟩:=T.q2 (fun h=>p3 h.1);have p3':s≤A:=(by omega);have R1:=T.ZE p1 p2;rw [q2,z2]at R1;by_cases p4:e<B
     ·simp [we,d1,d4,p1,p2,p3,p4,r1,r2,R1,T.GS p1 p4,aa,aj.length_set];exact⟨v',hv',rfl⟩
     ·obtain⟨q3,z3⟩:=T.q3 (fun h=>p4 h.2);have p4':B≤e:=(by omega);simp [we,p3',p4',d1,d4,p1,p2,p3,p4,r1,r2,R1,aa,aj.length_set];exact⟨v',hv',by rw [q3,z3]⟩
   ·have r2: ¬M<e:=T.Sc p2;have p2':mid≤s:=(by omega);have Sc:e≤M:=(by omega);obtain⟨q1,z1⟩:=T.q1 (fun h=>p2 h.2);obtain⟨q2,z2⟩:=T.q2 (fun h=>p2 h.2);rw [q1,q2,z1,z2];by_cases p4:e<B
    ·rcases(by omega:(A<s∧ ¬s≤A)∨(¬A<s∧s≤A))with ⟨p3,p3'⟩|⟨p3,p3'⟩<;>
     ·simp [we,p3,p3',d1,d4,p1,p2,p2',Sc,p4,r1,r2,T.GS p1 p4,aa,aj.length_set];exact⟨v',hv',rfl⟩
    ·obtain⟨q3,z3⟩:=T.q3 (fun h=>p4 h.2);have p4':B≤e:=(by omega);rcases(by omega:(A<s∧ ¬s≤A)∨(¬A<s∧s≤A))with ⟨p3,p3'⟩|⟨p3,p3'⟩<;>
     ·simp [we,p3,p3',p2',Sc,p4',d1,d4,p1,p2,p4,r1,r2,aa,aj.length_set];exact⟨v',hv',by rw [q3,z3]⟩
  ·have r1: ¬mid<e:=T.Sb p1;have p1':M≤s:=(by omega);have Sb:e≤mid:=(by omega);obtain⟨q1,z1⟩:=T.q1 (fun h=>p1 h.1);obtain⟨q3,z3⟩:=T.q3 (fun h=>p1 h.1);rw [q1,z1];by_cases p2:s<mid
   ·by_cases p3:A<s
    ·simp [we,d1,d4,p1,p2,p3,r1,T.GR p3 p2,aa,aj.length_set];exact⟨v',hv',by rw [q3,z3]⟩
    ·obtain⟨q2,z2⟩:=T.q2 (fun h=>p3 h.1);have p3':s≤A:=(by omega);rw [q2,z2];simp [we,p1',Sb,p3',d1,d4,p1,p2,p3,r1,aa,aj.length_set];exact⟨v',hv',by rw [q3,z3]⟩
   ·obtain⟨q2,z2⟩:=T.q2 (fun h=>p2 h.2);have p2':mid≤s:=(by omega);rw [q2,z2];rcases(by omega:(A<s∧ ¬s≤A)∨(¬A<s∧s≤A))with ⟨p3,p3'⟩|⟨p3,p3'⟩<;>
    ·simp [we,p3,p3',p1',Sb,p2',d1,d4,p1,p2,r1,aa,aj.length_set];exact⟨v',hv',by rw [q3,z3]⟩
theorem EX {nm:Nm}{N:Nat}(hn:N≤1000000): ∀(k:Nat) (H:aj) (c:Nat) (P L R Q:List ak) (v:Nat) (a m b:Int),nm.1<H.length→L.length+R.length≤k→0<L.length→0<R.length→L.Pairwise (fun a b=>a.aR≤b.aR)→R.Pairwise (fun a b=>a.aR≤b.aR)→P.length+L.length+R.length+Q.length=N→v≤N→a=P.length→m=(P.length+L.length:Nat)→b=(P.length+L.length+R.length:Nat)→
      ∃v',v'≤N∧aI KC (aC KC) 152 [.aW nm 9 N 0 N, .pure (.int .i64 a), .pure (.int .i64 m), .pure (.int .i64 b), .pure (.fn 107)] c (H.set nm (.arr 9 ((P++L++R++Q).map ak.row) v false))=
        some (.pure (.tuple []),H.set nm (.arr 9 ((P++a7 (L++R)++Q).map ak.row) v' false)):=by
  intro k
  induction k with
  |zero=>intro H c P L R Q v a m b _ h h1;omega
  |succ k ih=>
    intro H c P L R Q v a m b hnm hk h1 h2 hL hR hl hv ha hm hb;by_cases e1:L.length=1
    · obtain⟨x,rfl⟩:=List.length_eq_one_iff.1 e1
      have:=ad1 (c:=c) (H:=H) (nm:=nm) hn hnm P x R Q (by simpa using hl) hR hv a m b ha (by rw [hm];simp) (by rw [hb];simp);rw [show P++x::(R++Q)=P++[x]++R++Q by simp,show P++(a7 ([x]++R)++Q)=P++a7 ([x]++R)++Q by simp]at this
      exact this
    · by_cases e2:R.length=1
      · obtain⟨x,rfl⟩:=List.length_eq_one_iff.1 e2
        have:=ad2 (c:=c) (H:=H) (nm:=nm) hn hnm P x L Q (by omega) (by simpa using hl) hL hv a m b ha (by rw [hm];simp) (by rw [hb];simp);rw [show P++L++x::Q=P++L++[x]++Q by simp,show P++(a7 (L++[x])++Q)=P++a7 (L++[x])++Q by simp]at this
        exact this
      · exact aer (c:=c) (H:=H) hn hnm ih P L R Q hk (by omega) (by omega) hL hR hl hv a m b ha hm hb
end
section
variable {c:Nat} {H:aj}
theorem gI {nm:Nm}{P Q:List (List PV)}{N a' v:Nat}(X:List ak)(hn:N≤1000000)(hnm:nm.1<H.length)(hP:P.length=a')(hl:P.length+X.length+Q.length=N)(hv:v≤N):
  ∃v',v'≤N∧aI KC (aC KC) 151 [.aW nm 9 N 0 N, .pure (.int .i64 a'), .pure (.int .i64 ((a'+X.length:Nat):Int)), .pure (.fn 107)] c (H.set nm (.arr 9 (P++X.map ak.row++Q) v false))=
   some (.pure (.tuple []),H.set nm (.arr 9 (P++(a7 X).map ak.row++Q) v' false)):=by
 suffices hs:ku (aI KC (aC KC) 151 [.aW nm 9 N 0 N, .pure (.int .i64 a'), .pure (.int .i64 ((a'+X.length:Nat):Int)), .pure (.fn 107)] c (H.set nm (.arr 9 (P++X.map ak.row++Q) v false))) (fun x=> ∃v',v'≤N∧x=(.pure (.tuple []),H.set nm (.arr 9 (P++(a7 X).map ak.row++Q) v' false)))by
  obtain⟨x,hx,v',h1,h2⟩:=hs;exact⟨v',h1,by rw [hx,h2]⟩
 have hH:0<(H.set nm (.arr 9 (P++X.map ak.row++Q) v false)).length:=(by rw [aj.length_set];omega);refine a8 KC au Tryz.func151 rfl rfl Oo rfl rfl rfl (by simp) hH ?_;by_cases hX:X=[]
 ·subst hX;have hw:=cu (x:=(a':Int)+1) (by omega) (by omega);have hlt: ¬(a':Int)+1<a':=(by omega);simp [hw];apply aw;conv=>arg 4;whnf
  simp [hlt,aa,aj.length_set];exact⟨v,hv,by simp [a7]⟩
 ·have hx1:1≤X.length:=List.length_pos_iff.2 hX;have hw:=cu (x:=(a':Int)+1) (by omega) (by omega);obtain⟨m,hm⟩: ∃m,1+m=X.length:=⟨X.length-1,by omega⟩;have e1:P++(a7 (X.take 1)).map ak.row++((X.drop 1).map ak.row++Q)=P++X.map ak.row++Q:=by
   cases X with
   |nil=>exact absurd rfl hX
   |cons x X=>simp [a7,fO]
  have L:=fun Q' h1=>Gy (H:=H) (nm:=nm) (P:=P) (Q:=Q) (N:=N) (a':=a') X hn hnm hP hl Q' h1 m 1 v hm hv;rw [e1]at L;have ec:((a'+1:Nat):Int)=(a':Int)+1:=(by omega);have ec2:((a'+X.length:Nat):Int)=(a':Int)+X.length:=(by omega);rw [ec,ec2]at L;rw [ec2];simp [hw];simp at L;refine L _ fun v' hv'=> ?_;simp [aa,aj.length_set];exact⟨v',hv',rfl⟩
theorem DP {nm:Nm}{N v:Nat}(X:List ak)(hN:X.length=N)(hn:N≤40)(hnm:nm.1<H.length)(hv:v≤N):
  ∃v',v'≤N∧aI KC (aC KC) 128 [.aW nm 9 N 0 N, .pure (.int .i64 N), .pure (.fn 107)] c (H.set nm (.arr 9 (X.map ak.row) v false))=
   some (.pure (.tuple []),H.set nm (.arr 9 ((a7 X).map ak.row) v' false)):=by
 have hl: ∀b,(H.set nm b).length=H.length:=fun b=>aj.length_set _ _ _;have hH:0<(H.set nm (.arr 9 (X.map ak.row) v false)).length:=by rw [hl];omega
 suffices hs:ku (aI KC (aC KC) 128 [.aW nm 9 N 0 N, .pure (.int .i64 N), .pure (.fn 107)] c (H.set nm (.arr 9 (X.map ak.row) v false))) (fun x=> ∃v',v'≤N∧x=(.pure (.tuple []),H.set nm (.arr 9 ((a7 X).map ak.row) v' false)))by
  obtain⟨x,hx,v',h1,h2⟩:=hs;exact⟨v',h1,by rw [hx,h2]⟩
 have d1: ¬nm.1=H.length:=(by omega);have up: ∀f b,aj.set (f::H) nm b=f::H.set nm b:=fun f b=>by
  show (if nm.1=H.length then _ else _)=_
  rw [if_neg d1]
 refine a8 KC au Tryz.func128 rfl rfl Om rfl rfl rfl (by simp) hH ?_;have d2: ¬nm.1=H.length+1:=(by omega);have d4:nm.1≤H.length:=(by omega);have d5:nm.1≤H.length+1:=(by omega);by_cases h20:N=20
 ·obtain⟨v1,a1,b1⟩:=gI (c:=18) (H:=[]::[]::H) (nm:=nm) (P:=[]) (Q:=[]) (N:=N) (a':=0) (v:=v) X (by omega) (by simp;omega) rfl (by simpa using hN) hv;obtain⟨v2,a2,b2⟩:=gI (c:=27) (H:=[]::H) (nm:=nm) (P:=(a7 X).map ak.row) (Q:=[]) (N:=N) (a':=N) (v:=v1) [] (by omega) (by simp;omega) (by rw [List.length_map,bF,hN]) (by rw [List.length_map,bF,hN];simp) a1;subst h20;simp [d1,d2,hN]at b1 b2;have es:a7 ([]:List ak)=[]:=rfl;rw [es]at b2;simp at b2;have w40:IntKind.i64.wrap 40=40:=(by decide);simp;apply aw;conv=>arg 4;whnf
  simp [d1,d2,d4,d5,b1,w40];apply aw;conv=>arg 4;whnf
  simp [d1,d2,d4,d5,b2];apply aw;conv=>arg 4;whnf
  simp [aa,hl];exact⟨v2,a2,rfl⟩
 by_cases h20':N<20
 ·obtain⟨v2,a2,b2⟩:=gI (c:=27) (H:=[]::H) (nm:=nm) (P:=[]) (Q:=[]) (N:=N) (a':=0) (v:=v) X (by omega) (by simp;omega) rfl (by simpa using hN) hv;have hlt: ¬(20:Int)<N:=(by omega);have hle: ¬(20:Int)≤N:=(by omega);simp [d1,hN]at b2;simp;apply aw;conv=>arg 4;whnf
  simp [hle,b2,d1,d4];apply aw;conv=>arg 4;whnf
  simp [hlt,aa,hl];exact⟨v2,a2,rfl⟩
 ·have l1:(X.take 20).length=20:=(by rw [List.length_take];omega);have l2:(X.drop 20).length=N-20:=(by rw [List.length_drop];omega);have hle:(20:Int)≤N:=(by omega);have hle':20≤N:=(by omega);have w40:IntKind.i64.wrap 40=40:=(by decide);have w60:IntKind.i64.wrap 60=60:=(by decide);have w80:IntKind.i64.wrap 80=80:=(by decide);have w20:IntKind.i64.wrap 20=20:=(by decide);have hlt:(20:Int)<N:=(by omega);have hlt':20<N:=(by omega);have e0:a7 (a7 (X.take 20)++a7 (X.drop 20))=a7 X:=(by rw [GA,List.take_append_drop]);obtain⟨v1,a1,b1⟩:=gI (c:=18) (H:=[]::[]::H) (nm:=nm) (P:=[]) (Q:=(X.drop 20).map ak.row) (N:=N) (a':=0) (v:=v) (X.take 20) (by omega) (by simp;omega) rfl (by rw [List.length_map];simp only [List.length_nil];omega) hv;have er:([]:List (List PV))++(X.take 20).map ak.row++(X.drop 20).map ak.row=X.map ak.row:=(by rw [List.nil_append,←List.map_append,List.take_append_drop]);rw [er,l1,List.nil_append]at b1;obtain⟨R0,hR0⟩: ∃R0,X.map ak.row=R0:=⟨_,rfl⟩;obtain⟨R1,hR1⟩: ∃R1,(a7 (X.take 20)).map ak.row++(X.drop 20).map ak.row=R1:=⟨_,rfl⟩;obtain⟨R2,hR2⟩: ∃R2,(a7 (X.take 20)++a7 (X.drop 20)).map ak.row=R2:=⟨_,rfl⟩;obtain⟨R3,hR3⟩: ∃R3,(a7 X).map ak.row=R3:=⟨_,rfl⟩;rw [hR0,hR1]at b1;by_cases h40:N=40
  ·obtain⟨v2,a2,b2⟩:=gI (c:=18) (H:=[]::[]::H) (nm:=nm) (P:=(a7 (X.take 20)).map ak.row) (Q:=[]) (N:=N) (a':=20) (v:=v1) (X.drop 20) (by omega) (by simp;omega) (by rw [List.length_map,bF,l1]) (by rw [List.length_map,bF,l1,l2];simp only [List.length_nil];omega) a1;obtain⟨v3,a3,b3⟩:=gI (c:=27) (H:=[]::H) (nm:=nm) (P:=R2) (Q:=[]) (N:=N) (a':=N) (v:=v2) [] (by omega) (by simp;omega) (by rw [←hR2,List.length_map,List.length_append,bF,bF,l1,l2];omega) (by rw [←hR2,List.length_map,List.length_append,bF,bF,l1,l2];simp only [List.length_nil];omega) a2;obtain⟨v4,a4,b4⟩:=EX (nm:=nm) (N:=N) (by omega) N ([]::[]::[]::H) 43 [] (a7 (X.take 20)) (a7 (X.drop 20)) [] v3 0 20 40 (by simp;omega) (by rw [bF,bF];omega) (by rw [bF];omega) (by rw [bF];omega) (oV _) (oV _) (by rw [bF,bF];simp only [List.length_nil];omega) a3 rfl (by rw [bF,l1];rfl) (by rw [bF,bF,l1,l2,h40];rfl);rw [List.append_nil,hR1,List.append_nil,←List.map_append,hR2,l2]at b2;have es:a7 ([]:List ak)=[]:=rfl;rw [es]at b3;rw [e0]at b4;simp only [List.append_nil,List.nil_append,hR2,hR3,List.map_nil,List.length_nil,Nat.add_zero]at b3 b4;rw [hR0,hR3];subst h40;simp [d1,d2]at b1 b2 b3 b4;have d3: ¬nm.1=H.length+2:=(by omega);have d6:nm.1≤H.length+2:=(by omega);simp [d3]at b4;simp;apply aw;conv=>arg 4;whnf
   simp [d1,d2,d4,d5,b1,w40,w20];apply aw;conv=>arg 4;whnf
   simp [d1,d2,d4,d5,b2,w60];apply aw;conv=>arg 4;whnf
   simp [d1,d2,d4,d5,b3];apply aw;conv=>arg 4;whnf
   simp [d1,d2,d4,d5,w40];apply aw;conv=>arg 4;whnf
   simp [d1,d2,d3,d4,d5,d6,b4,w20,w40,w80];apply aw;conv=>arg 4;whnf
   simp [d1,d2,d4,d5,w60,w40];apply aw;conv=>arg 4;whnf
   simp [aa,hl];exact⟨v4,a4,rfl⟩
  ·obtain⟨v2,a2,b2⟩:=gI (c:=27) (H:=[]::H) (nm:=nm) (P:=(a7 (X.take 20)).map ak.row) (Q:=[]) (N:=N) (a':=20) (v:=v1) (X.drop 20) (by omega) (by simp;omega) (by rw [List.length_map,bF,l1]) (by rw [List.length_map,bF,l1,l2];simp only [List.length_nil];omega) a1;obtain⟨v3,a3,b3⟩:=EX (nm:=nm) (N:=N) (by omega) N ([]::[]::H) 60 [] (a7 (X.take 20)) (a7 (X.drop 20)) [] v2 0 20 N (by simp;omega) (by rw [bF,bF];omega) (by rw [bF];omega) (by rw [bF];omega) (oV _) (oV _) (by rw [bF,bF];simp only [List.length_nil];omega) a2 rfl (by rw [bF,l1];rfl) (by rw [bF,bF,l1,l2];simp only [List.length_nil];omega);rw [List.append_nil,hR1,List.append_nil,←List.map_append,hR2,l2,show 20+(N-20)=N by omega]at b2
   rw [e0]at b3;simp only [List.append_nil,List.nil_append,hR2,hR3]at b3;rw [hR0,hR3];have Js: ¬(40:Int)≤N:=(by omega);have n40b: ¬(40:Int)<N:=(by omega);have n40c: ¬40≤N:=(by omega);have n40d: ¬40<N:=(by omega);simp [d1,d2]at b1 b2 b3;simp;apply aw;conv=>arg 4;whnf
   simp [d1,d2,d4,d5,b1,w40,w20,hle,hle'];apply aw;conv=>arg 4;whnf
   simp [d1,d2,d4,d5,b2,Js,n40c];apply aw;conv=>arg 4;whnf
   simp [d1,d2,d4,d5,w40,hlt,hlt'];apply aw;conv=>arg 4;whnf
   simp [d1,d2,d4,d5,Js,n40c,w20,w40,hlt,hlt',b3];apply aw;conv=>arg 4;whnf
   simp [n40b,n40d,aa,hl];exact⟨v3,a3,rfl⟩
theorem GU {nm:Nm}{N v:Nat}(X:List ak)(hN:X.length=N)(hn:N≤40)(hnm:nm.1<H.length)(hv:v≤N):
  ∃v',v'≤N∧aI KC (aC KC) 106 [.aW nm 9 N 0 N, .pure (.fn 107)] c (H.set nm (.arr 9 (X.map ak.row) v false))=
   some (.pure (.tuple []),H.set nm (.arr 9 ((a7 X).map ak.row) v' false)):=by
 have hl: ∀b,(H.set nm b).length=H.length:=fun b=>aj.length_set _ _ _;have hH:0<(H.set nm (.arr 9 (X.map ak.row) v false)).length:=(by rw [hl];omega);have d1: ¬nm.1=H.length:=(by omega);have d4:nm.1≤H.length:=(by omega);obtain⟨v2,a2,b2⟩:=DP (c:=8) (H:=[]::H) (nm:=nm) (v:=v) X hN hn (by simp;omega) hv;refine⟨v2,a2,aN (a8 KC au Tryz.func106 rfl rfl N9 rfl rfl rfl (by simp) hH ?_)⟩;simp [d1]at b2;simp [b2,d1,d4,aa,hl]
end
section
variable {c:Nat} {H:aj}
theorem Jt (r:aH) {act:Nat} (h:act<r.ai.length) (hp:r.ai.Pairwise fun a b=>a.aR≤b.aR) (hn:r.ai.length≤1000000) (Q:GX→bP→Prop)
  (h1:Q (.exit 0) ⟨[(2, .aD (H.length,2) 0),(4, .aD (H.length,4) 0),(5, .pure (.int .i64 ((kb r.ai r.ai[act]).length:Nat)))],[(2,aA r),(4,oT)]::H,42⟩): ∀(k n:Nat),n=(kb r.ai r.ai[act]).length+k→n≤act→
  fL KC au 104 (lp Tryz.f104 0) [1,2,4,5] [2,4,5] Q [(1, .pure (.int .i64 act)),(2, .aD (H.length,2) 0),(4, .aD (H.length,4) 0),(5, .pure (.int .i64 n))] ([(2,aA r),(4,oT)]::H) 42:=by
 obtain⟨f1,f2,f3⟩:=wy h hp;intro k
 induction k with
 |zero=>
  intro n hk hna;rw [Nat.add_zero]at hk;rw [←hk]at h1 f2
  cases n with
  |zero=>
   apply aw;conv=>arg 4;whnf
   simp [aA,oT];simpa [aA,oT]using h1
  |succ n=>
   have hlt:n<r.ai.length:=(by omega);have:=f2 n hlt (by omega);have hne:(r.ai[n].aR==r.ai[act].aR)=false:=by
    have: ¬r.ai[n].aR=r.ai[act].aR:=(by omega);simpa using this
   have gt:(0:Int)<(n:Int)+1:=(by omega);have w2:=cu (x:=(n:Int)) (by omega) (by omega);apply aw;conv=>arg 4;whnf
   simp [aA,oT,gt,w2,hlt,h,ak.row,hne];simpa [aA,oT]using h1
 |succ k ih=>
  intro n hk hna;obtain⟨n',rfl⟩: ∃n',n=n'+1:=⟨n-1,by omega⟩;have hlt:n'<r.ai.length:=(by omega);have:=f3 n' hlt (by omega) (by omega);have heq:(r.ai[n'].aR==r.ai[act].aR)=true:=(by simpa using this);have gt:(0:Int)<(n':Int)+1:=(by omega);have w2:=cu (x:=(n':Int)) (by omega) (by omega);have ih':=ih n' (by omega) (by omega);apply aw;conv=>arg 4;whnf
  simp [aA,oT,gt,w2,hlt,h,ak.row,heq];simpa [aA,oT]using ih'
theorem GW {r:aH}(hr:Dv r){act:Nat}(h:act<r.ai.length)(hp:r.ai.Pairwise fun a b=>a.aR≤b.aR)(hH:0<H.length):
  aI KC (aC KC) 104 [.pure (.agg r.row), .pure (.int .i64 act)] c H=some (.pure (.agg (bA r (xG r r.ai[act]))),H):=by
 refine aN (bj KC au Tryz.func104 rfl rfl N8 rfl rfl rfl (by simp) hH ?_);obtain⟨f1,f2,f3⟩:=wy h hp;have C:=fun c (H:aj) (hH:0<H.length)=>yu (c:=c) (H:=H) r hr.w.pl hr.w.tl hH;have hF:Full (az r):=⟨by simpa [az]using hr.p0,by simpa [az]using hr.p0,by simp [az];exact hr.w.pl,by simp [az];exact hr.w.pl,by simp [az];exact hr.w.tl⟩;obtain⟨m,hm⟩: ∃m,(kb r.ai r.ai[act]).length=m:=⟨_,rfl⟩;have hbt:kb r.ai r.ai[act]=r.ai.take m:=(by rw [←hm];exact wx _ _);have hal:=hr.al;have R:=fun(F:Fr)=>EL (c:=37) hr.w (yw r (F::H) (by simp)) (r.ai.take m) (by rw [List.length_take];omega) (fun a ha=>hr.ab a (List.mem_of_mem_take ha)) hr.snd hF;have hml:(r.ai.take m).length=m:=by rw [List.length_take];omega
 have R2: ∀F:Fr,∃y z,aI KC (aC KC) 93 [.pure (.agg (bA r (az r))), .pure (.slice (List.take m (r.ai.map ak.row))), .pure (.fn 59)] 37 (F::H)=
   some (.pure (.tuple [.agg (bA r (xG r r.ai[act])), .int .i64 y, .int .i64 z]),F::H):=fun F=>by
  refine⟨(cj r (r.ai.take m).length (az r) (r.ai.take m) 0).2.2.1,(cj r (r.ai.take m).length (az r) (r.ai.take m) 0).2.2.2, ?_⟩;rw [gR rfl rfl rfl];have e:=R F;rw [List.map_take]at e;have eb:xG r r.ai[act]=(cj r (r.ai.take m).length (az r) (r.ai.take m) 0).2.1:=(by unfold xG;rw [hbt]);rw [eb];exact e
 have L:=fun Q h1=>Jt (H:=H) r h hp hr.al Q h1 (act-m) act (by omega) (Nat.le_refl _);rw [cQ]at C⊢;rw [hm]at L;simp [aA,oT]at L;simp;refine L _ ?_;obtain⟨y,z,e⟩:=R2 [(2,aA r),(4,oT)];simp only [bA,aA,oT]at C e;have hmn:m≤r.ai.length:=(by omega);have hmi: ¬(m:Int)<0:=(by omega);have hall: ∀x:ak,x.row.length=9:=fun _=>rfl;simp [C,e,hmn,hmi,aE,hall];rw [aa (by simp)];simp [bA]
end
section
variable {c:Nat} {H:aj}
theorem Ju (r:aH) (ai:List ak) (m:Int) (hn:ai.length≤1000000) (Q:GX→bP→Prop)
  (h1:Q (.exit 0) ⟨[(8, .pure (.int .i64 m)),(9, .pure (.int .i64 (eF m ai).length))],[(4,aA r)]::H,37⟩): ∀(k n:Nat),n+k=(eF m ai).length→
  fL KC au 74 (lp Tryz.f74 0) [3,8,9] [8,9] Q [(3, .pure (.slice (ai.map ak.row))),(8, .pure (.int .i64 m)),(9, .pure (.int .i64 n))] ([(4,aA r)]::H) 37:=by
 have hle:(eF m ai).length≤ai.length:=(List.takeWhile_sublist _).length_le;intro k
 induction k with
 |zero=>
  intro n hk;have e:n=(eF m ai).length:=(by omega);rw [←e]at h1;by_cases hl:n<ai.length
  ·have hout:=pL (fun a:ak=>decide (a.aR≤m)) ai (by rw [show (ai.takeWhile fun a:ak=>decide (a.aR≤m)).length=n from e.symm];exact hl)
   have hout': ¬ai[n].aR≤m:=by
    have e2:(ai.takeWhile fun a:ak=>decide (a.aR≤m)).length=n:=e.symm;simp only [e2]at hout;simpa using hout
   apply aw;conv=>arg 4;whnf
   simp [hl,ak.row,hout'];exact h1
  ·apply aw;conv=>arg 4;whnf
   simp [hl];exact h1
 |succ k ih=>
  intro n hk;have hl:n<ai.length:=(by omega);have hin:=r5 (fun a:ak=>decide (a.aR≤m)) ai n hl (by show n<(eF m ai).length;omega)
  have hin':ai[n].aR≤m:=(by simpa using hin);have hw:=cu (x:=(n:Int)+1) (by omega) (by omega);have ih':=ih (n+1) (by omega);apply aw;conv=>arg 4;whnf
  simp [hl,ak.row,hin',hw];simpa using ih'
theorem GY {r:aH}{act:Nat}(h:act<r.ai.length)(hn:r.ai.length≤1000000)(ht:0≤r.ai[act].aR∧r.ai[act].aR≤1000000)(kind:Int)(ai:List ak)(hal:ai.length≤1000000)(hH:0<H.length):
  bM KC (aC KC) 74 [.pure (.agg r.row), .pure (.int .i64 act), .pure (.int .i64 kind), .pure (.slice (ai.map ak.row))] c H=
   some (.pure (.tuple [.int .i64 (kI r act kind), .int .i64 (eF (kI r act kind) ai).length]),H):=by
 refine aN (aJ KC au Tryz.func74 rfl rfl VD (by simp) hH ?_);have hl:=bc (d:=cn) h;have L:=fun m Q h1=>Ju (H:=H) r ai m hal Q h1 (eF m ai).length 0 (by omega);rw [cQ];unfold kI;rw [hl];by_cases hk:kind=3
 ·have hw:=cu (x:=r.ai[act].aR+1) (by omega) (by omega);have L1:=L (r.ai[act].aR+1);subst hk;simp [aA]at L1;simp [h,ak.row,hw];refine L1 _ ?_;simp;rw [aa (by simp)];simp
 ·have L1:=L r.ai[act].aR;have hk':(kind==3)=false:=(by simpa using hk);simp [aA]at L1;simp [h,ak.row,hk,hk'];refine L1 _ ?_;simp;rw [aa (by simp)];simp
theorem GZ {g:GV}{q:PV}(hg:xr H g q)(ps:List PV):(bm H (ps.map .pure++[g])).1.map canon=ps.map (fun p=>canon (.pure p))++[.pure q]:=by
 have h1: ∀ps:List PV,bm H (ps.map .pure++[g])=(ps.map .pure++[(dt H g).1],(dt H g).2):=fun ps=>by
  induction ps with
  |nil=>rfl
  |cons p ps ih=>
   rw [List.map_cons,List.cons_append];simp only [bm];have e:dt H (.pure p)=(.pure p,H):=rfl;rw [e];simp only [ih,List.cons_append]
 have h2:canon (dt H g).1= .pure q:=by
  have h3:=(qt hg).1
  cases g with
  |aW nm es top lo len=>
   show canon (dH H (.aW nm es top lo len)).1=_
   have e: ∃p,(dH H (.aW nm es top lo len)).1= .pure p:=⟨_,rfl⟩;obtain⟨p,hp⟩:=e;rw [hp]at h3⊢;have:p=q:=by
    have h4:cK (.pure p)=GV.pure p:=rfl;rw [h4]at h3;cases h3;rfl
   rw [this];obtain⟨rows,v,ro,a1,a2,a3,a4,a5,a6⟩:=hg;rw [a6];rfl
  |pure p=>cases hg;rfl
  |aS=>cases hg;rfl
  |_=>exact hg.elim
 rw [h1];simp [h2,Function.comp_def]
theorem Jv {r:aH}{act:Nat}(h:act<r.ai.length)(hn:r.ai.length≤1000000)(ht:0≤r.ai[act].aR∧r.ai[act].aR≤1000000)(kind:Int)(ai:List ak)(hal:ai.length≤1000000){g:GV}(hg:xr H g (.slice (ai.map ak.row)))(hH:0<H.length):
  aI KC (aC KC) 74 [.pure (.agg r.row), .pure (.int .i64 act), .pure (.int .i64 kind),g] c H=
   some (.pure (.tuple [.int .i64 (kI r act kind), .int .i64 (eF (kI r act kind) ai).length]),H):=
 gL KC rfl rfl (GZ hg [.agg r.row, .int .i64 act, .int .i64 kind]) rfl hH (fun H hH=>GY (c:=c) h hn ht kind ai hal hH) rfl
end
section
variable {c:Nat} {H:aj}
def kz (l:List ak)(act:Nat)(aO:Int):List ak:=l.take act++(l.drop act).map (late aO)
theorem kW (l:List ak)(act:Nat)(aO:Int)(h:act≤l.length):(kz l act aO).length=l.length:=by
 unfold kz;simp;omega
def gB (l:List ak)(act:Nat)(aO:Int)(i:Nat):List ak:=(kz l act aO).take i++l.drop i
theorem yG (l:List ak)(act:Nat)(aO:Int)(h:act≤l.length)(i:Nat)(hi:i≤l.length):(gB l act aO i).length=l.length:=by
 unfold gB;rw [List.length_append,List.length_take,List.length_drop,kW l act aO h];omega
theorem EY (l:List ak)(act:Nat)(aO:Int)(h:act≤l.length):gB l act aO act=l:=by
 unfold gB kz;rw [List.take_left' (by rw [List.length_take];omega),List.take_append_drop]
theorem EZ (l:List ak)(act:Nat)(aO:Int)(h:act≤l.length):gB l act aO l.length=kz l act aO:=by
 unfold gB;rw [List.take_of_length_le (by rw [kW l act aO h];exact Nat.le_refl _),List.drop_length,List.append_nil]
theorem G5 (l:List ak)(act:Nat)(aO:Int)(h:act≤l.length){i:Nat}(h1:act≤i)(h2:i<l.length):(kz l act aO)[i]? =some (late aO l[i]):=by
 unfold kz;rw [List.getElem?_append_right (by rw [List.length_take];omega),List.length_take,List.getElem?_map,List.getElem?_drop];rw [show act+(i-min act l.length)=i by omega,List.getElem?_eq_getElem h2]
 rfl
theorem yH (l:List ak)(act:Nat)(aO:Int)(h:act≤l.length){i:Nat}(h2:i<l.length):(gB l act aO i)[i]? =some l[i]:=by
 unfold gB;rw [List.getElem?_append_right (by rw [List.length_take,kW l act aO h];omega),List.length_take,kW l act aO h,List.getElem?_drop,show i+(i-min i l.length)=i by omega,List.getElem?_eq_getElem h2]
theorem wP (l:List ak)(act:Nat)(aO:Int)(h:act≤l.length){i:Nat}(h1:act≤i)(h2:i<l.length):(gB l act aO i).set i (late aO l[i])=gB l act aO (i+1):=by
 have hl:=kW l act aO h;have e:l.drop i=l[i]::l.drop (i+1):=List.drop_eq_getElem_cons h2;unfold gB;rw [List.set_append_right _ _ (by rw [List.length_take,hl];omega),List.length_take,hl,show i-min i l.length=0 by omega,e,List.set_cons_zero,List.take_add_one,G5 l act aO h h1 h2]
 simp
theorem Jw (r:aH) {act:Nat} (aO:Int) (h:act<r.ai.length) (hn:r.ai.length≤1000000) (tm: ∀a∈r.ai,0≤a.aR∧a.aR≤1000000) (Q:GX→bP→Prop)
  (h1: ∀v,v≤r.ai.length→Q (.exit 1) ⟨[(7, .aW (H.length,28685) 9 r.ai.length 0 r.ai.length)],[(3,aA r),(28685, .arr 9 ((kz r.ai act aO).map ak.row) v false)]::H,72⟩): ∀(k i v:Nat),i+k=r.ai.length→act≤i→v≤r.ai.length→
  fL KC au 70 (lp Tryz.f70 0) [7,8,9] [7] Q [(7, .aW (H.length,28685) 9 r.ai.length 0 r.ai.length),(8, .pure (.int .i64 aO)),(9, .pure (.int .i64 i))] ([(3,aA r),(28685, .arr 9 ((gB r.ai act aO i).map ak.row) v false)]::H) 72:=by
 intro k
 induction k with
 |zero=>
  intro i v hi ha hv;have e:i=r.ai.length:=(by omega);subst e;rw [EZ _ _ _ (by omega)];have h1':=h1 v hv;apply aw;conv=>arg 4;whnf
  simp;exact h1'
 |succ k ih=>
  intro i v hi ha hv;have hia:i<r.ai.length:=(by omega);have hw:=cu (x:=(i:Int)+1) (by omega) (by omega);have hml:=yG r.ai act aO (by omega) i (by omega);have g:=yH r.ai act aO (by omega) hia;have gs:=wP r.ai act aO (by omega) ha hia;have tmi:=tm _ (List.getElem_mem hia);have hwt:=cu (x:=r.ai[i].aR+1) (by omega) (by omega);have G: ∀h,(gB r.ai act aO i)[i]'h=r.ai[i]:=fun h=>(by rw [List.getElem?_eq_getElem h]at g;simpa using g);by_cases hwho:r.ai[i].aO=aO
  ·have ih':=ih (i+1) r.ai.length (by omega) (by omega) (Nat.le_refl _);rw [←gs]at ih';have el:late aO r.ai[i]={r.ai[i]with aR:=r.ai[i].aR+1}:=(by unfold late;rw [if_pos hwho]);rw [el]at ih';generalize gB r.ai act aO i=R at G hml ih'⊢;have hwb:(r.ai[i].aO==aO)=true:=(by simpa using hwho);apply aw;conv=>arg 4;whnf
   simp [hia,hml,hv,G,hw,hwt,hwb,hwho,ak.row,aE];simpa [ak.row,hwho,List.map_set]using ih'
  ·have ih':=ih (i+1) v (by omega) (by omega) hv;rw [←gs]at ih';have el:late aO r.ai[i]=r.ai[i]:=(by unfold late;rw [if_neg hwho]);rw [el]at ih';have es:(gB r.ai act aO i).set i r.ai[i]=gB r.ai act aO i:=by
    have hil:i<(gB r.ai act aO i).length:=(by omega);conv=>lhs;rw [←G hil]
    exact List.set_getElem_self hil
   rw [es]at ih';generalize gB r.ai act aO i=R at G hml ih'⊢;have hwb:(r.ai[i].aO==aO)=false:=(by simpa using hwho);apply aw;conv=>arg 4;whnf
   simp [hia,hml,hv,G,hw,hwb,ak.row];simpa using ih'
theorem DQ {a:ak}(h:a.kind≠1)(x:Int):mF {a with hand:=x}=mF a:=by
 unfold mF;simp [h]
theorem AB.flip {r:aH}{w:Nat}{a:ak}(h:AB r w a)(hk:a.kind≠1):AB r w {a with hand:=1-a.hand} where
 aO:=h.aO
 wl:=h.wl
 hand:=by rcases h.hand with e|e<;>simp [e]
 kind:=h.kind
 take:=h.take
 sM:=h.sM
 step:=h.step
 form:=by rw [DQ hk];exact h.form
theorem BT {r:aH}(hr:Dv r)(a:ak):jd r (xG r a):=
 (oU _ _ _ _ hr.snd (fun x hx=>hr.ab x ((List.takeWhile_sublist _).subset hx))).1
theorem uw {r:aH}(hr:Dv r){act:Nat}(h:act<r.ai.length)(hp:r.ai.Pairwise fun a b=>a.aR≤b.aR)(tm: ∀a∈r.ai,0≤a.aR∧a.aR≤1000000)(h20:r.ai.length≤40){kind:Int}(hk2:kind=2→r.ai[act].kind≠1)(hH:0<H.length):
  aI KC (aC KC) 70 [.pure (.agg r.row), .pure (.int .i64 act), .pure (.int .i64 kind)] c H=some (.pure (.slice ((iO r act kind).map ak.row)),H):=by
 have hne:r.ai≠[]:=fun e=>(by rw [e]at h;simp at h);have k1:aq 12 7=28685:=(by decide);have C:=ux (c:=12) (H:=[(3,aA r)]::H) r.ai hne (by omega) (by simp) (by simp [k1]);simp only [List.length_cons,Nat.add_sub_cancel,k1]at C;have hset:aj.set ([(3,aA r)]::H) (H.length,28685) (.arr 9 (r.ai.map ak.row) 0 false)=[(3,aA r),(28685, .arr 9 (r.ai.map ak.row) 0 false)]::H:=(by simp);rw [hset]at C;have hg:r.ai.getD act cn=r.ai[act]:=bc h
 have D: ∀(rows:List (List PV)) (v:Nat),rows.length=r.ai.length→v≤r.ai.length→(∀x∈rows,x.length=9)→aI KC (aC KC) 109 [.aW (H.length,28685) 9 r.ai.length 0 r.ai.length, .pure (.int .i64 act), .pure (.int .i64 (act+1))] 71 ([(3,aA r),(28685, .arr 9 rows v false)]::H)=
   some (.aW (H.length,28685) 9 r.ai.length 0 (r.ai.length-1),[(3,aA r),(28685, .arr 9 (rows.take act++rows.drop (act+1)++[BC]) r.ai.length false)]::H):=fun rows v hl hv hw=>by
  have:=Gu (c:=71) (H:=[(3,aA r),(28685, .arr 9 rows v false)]::H) (nm:=(H.length,28685)) (rows:=rows) (v:=v) (k:=act) hl (by simp) hv h hw (by omega) (by simp);simpa using this
 have w9: ∀l:List ak,∀x∈l.map ak.row,x.length=9:=fun l x hx=>by
  obtain⟨a,_,rfl⟩:=List.mem_map.1 hx;rfl
 refine aN (bj KC au Tryz.func70 rfl rfl Vz rfl rfl rfl (by simp) hH ?_);have hw:=cu (x:=(act:Int)+1) (by omega) (by omega);have hnl: ¬H.length≤H.length-1:=(by omega);rw [cQ];simp only [aA]at C D;unfold iO;rw [hg];by_cases e2:kind=2
 ·subst e2;have hab:=hr.ab _ (List.getElem_mem h);have hfl:=hab.flip (hk2 rfl);have hhand:r.ai[act].hand=0∨r.ai[act].hand=1:=hab.hand;have hwh:IntKind.i64.wrap (1-r.ai[act].hand)=1-r.ai[act].hand:=cu (by omega) (by omega);have B:=GW (c:=28) (H:=[(3,aA r),(28685, .arr 9 ((r.ai.map ak.row).set act ({r.ai[act]with hand:=1-r.ai[act].hand}:ak).row) r.ai.length false)]::H) hr h hp (by simp);have M:=fun c (H:aj) (hH:0<H.length)=>CU (c:=c) (H:=H) (BT hr r.ai[act]) hr.w hfl hH;rw [if_pos rfl];simp only [aA,ak.row]at B;rw [cQ]at B;obtain⟨a',ha'⟩: ∃a':ak,{r.ai[act]with hand:=1-r.ai[act].hand}=a':=⟨_,rfl⟩;have hrow:(r.ai.map ak.row).set act [.int .i64 r.ai[act].aR, .int .i64 r.ai[act].aO, .int .i64 r.ai[act].kind, .int .i64 (1-r.ai[act].hand), .int .i64 r.ai[act].a9, .int .i64 r.ai[act].cell, .int .i64 r.ai[act].other, .int .i64 r.ai[act].cd, .int .i64 r.ai[act].iv]=(r.ai.set act a').map ak.row:=by
   rw [List.map_set,←ha'];rfl
  obtain⟨T,hT⟩: ∃T,(r.ai.set act a').map ak.row=T:=⟨_,rfl⟩;have hTl:T.length=r.ai.length:=(by rw [←hT];simp);have hTg: ∀h,T[act]'h=a'.row:=fun h=>(by simp only [←hT,List.getElem_map,List.getElem_set_self]);have hT9:=w9 (r.ai.set act a');rw [hT]at hrow hT9;rw [hrow]at B;have D2:=D T r.ai.length hTl (Nat.le_refl _) hT9;have ee:r.ai.eraseIdx act=r.ai.take act++r.ai.drop (act+1):=List.eraseIdx_eq_take_drop_succ ..;have tkd:List.take act T=(r.ai.take act).map ak.row:=by
   rw [←hT,←List.map_take,List.take_set_of_le (Nat.le_refl _)]
  have drd:List.drop (act+1) T=(r.ai.drop (act+1)).map ak.row:=by
   rw [←hT,←List.map_drop,List.drop_set_of_lt (by omega)]
  rw [ha']at M⊢;simp only [ak.row]at M hTg
  cases hpos:dy r (xG r r.ai[act]) r.ai[act].aO.toNat a' with
  |true=>
   rw [hpos]at M;simp [C,ak.row,h,hwh,aE,hrow,B,M,hTl,hTg];rw [aa (by simp)];have tl:List.take r.ai.length T=(r.ai.set act a').map ak.row:=(by rw [hT];exact List.take_of_length_le (by omega));simp [hnl,hTl,tl];rfl
  |false=>
   rw [hpos]at M;simp [C,ak.row,h,hwh,aE,hrow,B,M,hTl,hTg,D2,hw];rw [aa (by simp)];have tl:List.take (r.ai.length-1) (List.take act T++(List.drop (act+1) T++[BC]))=(r.ai.eraseIdx act).map ak.row:=by
    rw [tkd,drd,ee,List.map_append,←List.append_assoc];exact List.take_left' (by simp only [List.length_append,List.length_map,List.length_take,List.length_drop];omega)
   have ml:min act r.ai.length+(r.ai.length-(act+1)+1)=r.ai.length:=(by omega);simp [hnl,tl,ml,hTl]
 ·have e2':(kind==2)=false:=(by simpa using e2);rw [if_neg e2];by_cases e3:kind=3
  ·subst e3;rw [if_pos rfl,show r.ai.take act++(r.ai.drop act).map (late r.ai[act].aO)=kz r.ai act r.ai[act].aO from rfl]
   have hn6:r.ai.length≤1000000:=(by omega);have hk6:act+(r.ai.length-act)=r.ai.length:=(by omega);have L:=fun Q h1=>Jw (H:=H) r (r.ai[act]'h).aO h hn6 tm Q h1 (r.ai.length-act) act 0 hk6 (Nat.le_refl _) (Nat.zero_le _);rw [EY _ _ _ (by omega)]at L;simp only [aA]at L;have hll:=kW r.ai act r.ai[act].aO (by omega);simp [C,h,ak.row];refine L _ fun v hv=> ?_;obtain⟨v',hv',S⟩:=GU (c:=65) (H:=[(3,aA r),(28685, .arr 9 ((kz r.ai act r.ai[act].aO).map ak.row) v false)]::H) (nm:=(H.length,28685)) (v:=v) (kz r.ai act r.ai[act].aO) hll h20 (by simp) hv;simp [aA]at S;simp [S];rw [aa (by simp)];have tl:List.take r.ai.length ((a7 (kz r.ai act r.ai[act].aO)).map ak.row)=(a7 (kz r.ai act r.ai[act].aO)).map ak.row:=List.take_of_length_le (by rw [List.length_map,bF,hll];exact Nat.le_refl _);have sl:(a7 (kz r.ai act r.ai[act].aO)).length=r.ai.length:=(by rw [bF,hll]);simp [hnl,tl,sl,hv']
  ·have e3':(kind==3)=false:=(by simpa using e3);rw [if_neg e3];have D1:=D (r.ai.map ak.row) 0 (by simp) (Nat.zero_le _) (w9 _);have ee:r.ai.eraseIdx act=r.ai.take act++r.ai.drop (act+1):=List.eraseIdx_eq_take_drop_succ ..;simp [C,D1,e2',e3',hw];rw [aa (by simp)];have tl:List.take (r.ai.length-1) (List.take act (r.ai.map ak.row)++(List.drop (act+1) (r.ai.map ak.row)++[BC]))=(r.ai.eraseIdx act).map ak.row:=by
    rw [ee,List.map_append,List.map_take,List.map_drop,←List.append_assoc];exact List.take_left' (by rw [List.length_append,List.length_take,List.length_drop,List.length_map];omega)
   have ml:min act r.ai.length+(r.ai.length-(act+1)+1)=r.ai.length:=(by omega);simp [hnl,tl,ml]
end
section
variable {c:Nat} {H:aj}
theorem Jx {ai:List ak} {i:Nat} (hi:i<ai.length) (hn:ai.length≤1000000) {out:List ak} {v:Nat} (ho:out.length≤1000000) (hv:v≤out.length) (Q:GX→bP→Prop)
  (h1: ∀A B,out=A++B→fO out ai[i]=A++ai[i]::B→Q (.exit 2) ⟨[(0, .pure (.slice (ai.map ak.row))),(3, .aW (H.length,36) 9 out.length 0 out.length),(4, .pure (.int .i64 i)),(5, .pure (.int .i64 A.length))],[]::[(36, .arr 9 (out.map ak.row) v false)]::H,61⟩): ∀(k:Nat) (A B:List ak),A.length=k→out=A++B→(∀b∈B,ai[i].aR<b.aR)→
  fL KC au 111 (lp Tryz.f111 1) [0,3,4,5] [0,3,4,5] Q [(0, .pure (.slice (ai.map ak.row))),(3, .aW (H.length,36) 9 out.length 0 out.length),(4, .pure (.int .i64 i)),(5, .pure (.int .i64 A.length))] ([]::[(36, .arr 9 (out.map ak.row) v false)]::H) 61:=by
 intro k
 induction k with
 |zero=>
  intro A B hA hAB hB;obtain rfl:A=[]:=List.length_eq_zero_iff.1 hA;have e:fO out ai[i]=[]++ai[i]::B:=(by rw [hAB];exact fP hB (fun a h=>by simp at h));have h1':=h1 [] B hAB e;apply aw;conv=>arg 4;whnf
  simp;simpa using h1'
 |succ k ih=>
  intro A B hA hAB hB;obtain⟨A',y,rfl⟩: ∃A' y,A=A'++[y]:=by
   have hne:A≠[]:=fun e=>(by rw [e]at hA;simp at hA);exact⟨A.dropLast,A.getLast hne,(List.dropLast_concat_getLast hne).symm⟩
  have hA':A'.length=k:=(by simpa using hA);have hol:k+1≤out.length:=(by rw [hAB];simp;omega);have hyo: ∀h,out[k]'h=y:=fun h=>by
   have e:out=A'++(y::B):=(by rw [hAB];simp);simp only [e];rw [List.getElem_append_right (by omega)];simp [hA']
  have hkl:k<out.length:=(by omega);have gt:(0:Int)<(k:Int)+1:=(by omega);have w1:=cu (x:=(k:Int)) (by omega) (by omega);by_cases hlt:ai[i].aR<y.aR
  ·have ih':=ih A' (y::B) hA' (by rw [hAB];simp) (fun b hb=>by
    rcases List.mem_cons.1 hb with rfl|hb
    ·exact hlt
    ·exact hB b hb)
   rw [hA']at ih';apply aw;conv=>arg 4;whnf
   simp [hA',gt,w1,hkl,hyo,hi,hlt,hv,ak.row];simpa using ih'
  ·have e:fO out ai[i]=(A'++[y])++ai[i]::B:=by
    rw [hAB];exact fP hB (fun a ha=>by
     have:a=y:=(by simpa using ha.symm);rw [this];exact hlt)
   have h1':=h1 (A'++[y]) B hAB e;apply aw;conv=>arg 4;whnf
   simp [hA',gt,w1,hkl,hyo,hi,hlt,hv,ak.row];simpa [hA']using h1'
theorem G6 {args:PV} {i:Nat} {out:List ak} {N aR:Nat} (hN:out.length=N) (ho:N≤1000000) (ha:aR≤N) (Q:GX→bP→Prop)
  (h1: ∀y v,y.length=9→v≤N+1→Q (.exit 4) ⟨[(0, .pure args),(3, .aW (H.length,36) 9 (N+1) 0 (N+1)),(4, .pure (.int .i64 i)),(5, .pure (.int .i64 aR))],[]::[(36, .arr 9 ((out.take aR).map ak.row++y::(out.drop aR).map ak.row) v false)]::H,61⟩): ∀(k j:Nat) (y:List PV) (v:Nat),j=aR+k→j≤N→y.length=9→v≤N+1→
  fL KC au 111 (lp Tryz.f111 2) [0,3,4,5,6] [0,3,4,5] Q [(0, .pure args),(3, .aW (H.length,36) 9 (N+1) 0 (N+1)),(4, .pure (.int .i64 i)),(5, .pure (.int .i64 aR)),(6, .pure (.int .i64 j))] ([]::[(36, .arr 9 ((out.take j).map ak.row++y::(out.drop j).map ak.row) v false)]::H) 61:=by
 intro k
 induction k with
 |zero=>
  intro j y v hj hjN hy hv;obtain rfl:j=aR:=(by omega);have h1':=h1 y v hy hv;apply aw;conv=>arg 4;whnf
  simp;simpa using h1'
 |succ k ih=>
  intro j y v hj hjN hy hv;obtain⟨m,rfl⟩: ∃m,j=m+1:=⟨j-1,by omega⟩;have hmo:m<out.length:=(by omega);have gt:(aR:Int)<(m:Int)+1:=(by omega);have w1:=cu (x:=(m:Int)) (by omega) (by omega);have ih':=ih m (out[m].row) (N+1) (by omega) (by omega) rfl (Nat.le_refl _);have et:out.take (m+1)=out.take m++[out[m]]:=(by rw [List.take_add_one,List.getElem?_eq_getElem hmo];rfl);obtain⟨R,hR⟩: ∃R,(out.take (m+1)).map ak.row++y::(out.drop (m+1)).map ak.row=R:=⟨_,rfl⟩;have hRl:R.length=N+1:=(by rw [←hR];simp;omega);have hRg: ∀h,R[m]'h=out[m].row:=fun h=>by
   simp only [←hR];rw [List.getElem_append_left (by simp;omega)];simp
  have ed:out.drop m=out[m]::out.drop (m+1):=List.drop_eq_getElem_cons hmo;have hRs:R.set (m+1) out[m].row=(out.take m).map ak.row++out[m].row::(out.drop m).map ak.row:=by
   have e1:R.set (m+1) out[m].row=(out.take (m+1)).map ak.row++out[m].row::(out.drop (m+1)).map ak.row:=by
    rw [←hR,List.set_append_right _ _ (by simp;omega)];have e0:m+1-(List.map ak.row (out.take (m+1))).length=0:=(by simp;omega);rw [e0];rfl
   rw [e1,ed,et,List.map_append,List.append_assoc];rfl
  rw [←hRs]at ih';have hR9: ∀h,R[m+1]'h=y:=fun h=>by
   simp only [←hR];rw [List.getElem_append_right (by simp;omega)];have e0:m+1-(List.map ak.row (out.take (m+1))).length=0:=(by simp;omega);simp only [e0,List.getElem_cons_zero]
  rw [hR];have d9:y.drop 9=[]:=List.drop_eq_nil_iff.2 (by omega);have l9:out[m].row.length=9:=rfl;have t9:List.take 9 out[m].row=out[m].row:=rfl;have hml:m<N+1:=(by omega);have hml2:m+1<N+1:=(by omega);have jt:Int.toNat ((m:Int)+1)=m+1:=(by omega);have jn: ¬(m:Int)+1<0:=(by omega);have jl:(m:Int)+1<(N:Int)+1:=(by omega);have jl0:(m:Int)<(N:Int)+1:=(by omega);apply aw;conv=>arg 4;whnf
  simp [gt,w1,hRl,hv,hRg,hR9,l9,t9,hml,hml2,jt,jn,jl,jl0,aE,hy,d9];simpa using ih'
theorem G7 {ai:List ak} (hn:ai.length≤1000000) (Q:GX→bP→Prop)
  (h1: ∀v,v≤ai.length→Q (.exit 0) ⟨[(3, .aW (H.length,36) 9 ai.length 0 ai.length)],[(36, .arr 9 ((a7 ai).map ak.row) v false)]::H,61⟩): ∀(k i v:Nat),0<i→i+k=ai.length→v≤i→
  fL KC au 111 (lp Tryz.f111 0) [0,3,4] [3] Q [(0, .pure (.slice (ai.map ak.row))),(3, .aW (H.length,36) 9 i 0 i),(4, .pure (.int .i64 i))] ([(36, .arr 9 ((a7 (ai.take i)).map ak.row) v false)]::H) 61:=by
 intro k
 induction k with
 |zero=>
  intro i v h0 hi hv;have hx:ai.take i=ai:=List.take_of_length_le (by omega);have e:i=ai.length:=(by omega);have h1':=h1 v (by omega);rw [hx];subst e;apply aw;conv=>arg 4;whnf
  simp;simpa using h1'
 |succ k ih=>
  intro i v h0 hi hv;have hia:i<ai.length:=(by omega);have htk:ai.take (i+1)=ai.take i++[ai[i]]:=(by rw [List.take_add_one,List.getElem?_eq_getElem hia];rfl);have ih':=fun v' hv'=>ih (i+1) v' (by omega) (by omega) hv';rw [htk,wA]at ih';obtain⟨out,ho⟩: ∃out,a7 (ai.take i)=out:=⟨_,rfl⟩;have hol:out.length=i:=(by rw [←ho,bF,List.length_take];omega);rw [ho]at ih'⊢;have hw:=cu (x:=(i:Int)+1) (by omega) (by omega);have L:=fun Q h1=>Jx (H:=H) hia hn (out:=out) (v:=v) (by omega) (by omega) Q h1 i out [] hol (by simp) (by simp);simp only [hol]at L;have L2:=fun aR ha Q h1 j y v=>G6 (H:=H) (args:= .slice (ai.map ak.row)) (i:=i) (out:=out) (N:=i) (aR:=aR) hol (by omega) ha Q h1 (i-aR) j y v;apply aw;conv=>arg 4;whnf
  simp [hia];refine L _ fun A B hAB hins=> ?_;have hAl:A.length≤i:=(by rw [←hol,hAB];simp);have L2':=L2 A.length hAl;have m72:(i+1)*72≤1099511627776:=(by omega);have w1:=cu (x:=(i:Int)) (by omega) (by omega);have ti:out.take i=out:=List.take_of_length_le (by omega);have di:out.drop i=[]:=List.drop_of_length_le (by omega);have L3:=fun Q h1=>L2' Q h1 i cn.row v (by omega) (Nat.le_refl _) rfl (by omega);simp [ti,di,cn,ak.row]at L3;simp [hol,hv,m72,w1];refine L3 _ fun y v' hy hv'=> ?_;have tA:(out.map ak.row).take A.length=A.map ak.row:=(by rw [←List.map_take,hAB];simp);have dA:(out.map ak.row).drop A.length=B.map ak.row:=(by rw [←List.map_drop,hAB];simp);rw [tA,dA];have i1:=ih' (i+1) (Nat.le_refl _);rw [hins]at i1;clear L L2 L2' L3 ih ih';have hR: ∃R,A.map ak.row++y::B.map ak.row=R:=⟨_,rfl⟩;obtain⟨R,hR⟩:=hR;have hRl:R.length=i+1:=(by rw [←hR];rw [hAB]at hol;simp at hol⊢;omega);have hRg: ∀h,R[A.length]'h=y:=fun h=>by
   simp only [←hR];rw [List.getElem_append_right (by simp)];simp
  have hRs:R.set A.length ai[i].row=(A++ai[i]::B).map ak.row:=by
   rw [←hR,List.set_append_right _ _ (by simp)];simp
  rw [←hRs]at i1;rw [hR];have d9:y.drop 9=[]:=List.drop_eq_nil_iff.2 (by omega);have l9:ai[i].row.length=9:=rfl;have t9:List.take 9 ai[i].row=ai[i].row:=rfl;have hA1:A.length<i+1:=(by omega);have hA2:(A.length:Int)<(i:Int)+1:=(by omega);simp [hRl,hRg,hv',hy,d9,l9,t9,hA1,hA2,hia,aE,hw];simpa using i1
theorem uy (ai:List ak)(hn:ai.length≤1000000)(hH:0<H.length):
  bM KC (aC KC) 111 [.pure (.slice (ai.map ak.row))] c H=some (.pure (.slice ((a7 ai).map ak.row)),H):=by
 refine aN (aJ KC au Tryz.func111 rfl rfl Ob (by simp) hH ?_);have hnl: ¬H.length≤H.length-1:=by omega
 cases ai with
 |nil=>
  simp;apply aw;conv=>arg 4;whnf
  simp [a7];rw [aa (by simp)];simp
 |cons a l=>
  have L:=fun v hv Q h1=>G7 (H:=H) (ai:=a::l) hn Q h1 l.length 1 v (by omega) (by simp;omega) hv;have e1:a7 (List.take 1 (a::l))=[a]:=rfl;rw [e1]at L;simp at L;simp;apply aw;conv=>arg 4;whnf
  simp;apply aw;conv=>arg 4;whnf
  simp;apply aw;conv=>arg 4;whnf
  have l9:a.row.length=9:=rfl;have t9:List.take 9 a.row=a.row:=rfl;simp [l9,t9,aE];refine L _ (by omega) _ fun v hv=> ?_;have ml:min (l.length+1) (a7 (a::l)).length=l.length+1:=(by rw [bF];simp);have sl:(a7 (a::l)).length=l.length+1:=(by rw [bF];simp);have tl:List.take (l.length+1) ((a7 (a::l)).map ak.row)=(a7 (a::l)).map ak.row:=List.take_of_length_le (by rw [List.length_map,sl];exact Nat.le_refl _);simp;rw [aa (by simp)];simp [hnl,tl,sl,hv]
end
section
variable {c:Nat} {H:aj}
def KG (L k1 k2 k3:Nat)(s:ay):GV:= .agg [.aW (L,k1) 1 s.ah.length 0 s.ah.length, .aW (L,k2) 2 s.ao.length 0 s.ao.length,cv (L,k3) 2 (s.ae.map br.row)]
theorem Sd {L k1 k2 k3:Nat}{s:ay}(h:s.ae≠[]):KG L k1 k2 k3 s=kv (L,k1) (L,k2) (L,k3) s:=by
 unfold KG kv cv;rw [if_neg (by simpa using h)];simp
theorem Se {L k1 k2 k3:Nat}{s:ay}(h:s.ae=[]):KG L k1 k2 k3 s= .agg [.aW (L,k1) 1 s.ah.length 0 s.ah.length, .aW (L,k2) 2 s.ao.length 0 s.ao.length, .aS]:=by
 unfold KG cv;rw [if_pos (by simp [h])]
theorem OE {s:ay}(h:Full s)(hH:0<H.length)(hf1:H.get (H.length-1,aq c 6)=none)(hf2:H.get (H.length-1,aq c 10)=none)(hf3:H.get (H.length-1,aq c 14)=none):
  aI KC (aC KC) 50 [.pure (.agg s.row)] c H=some (KG (H.length-1) (aq c 6) (aq c 10) (aq c 14) s,
   gV ((H.set (H.length-1,aq c 6) (.arr 1 (s.ah.map aG) 0 false)).set (H.length-1,aq c 10) (.arr 2 (s.ao.map aF.row) 0 false)) (H.length-1,aq c 14) 2 (s.ae.map br.row)):=by
 refine aN (bj KC au Tryz.func50 rfl rfl Ic rfl rfl rfl (by simp) hH ?_);have pl:=h.pl;have hl:=h.hl;have tl:=h.tl;have p0:=h.p0;have h0:=h.h0;have b1:s.ah.length*8≤1099511627776:=(by omega);have b2:s.ao.length*16≤1099511627776:=(by omega);have b3:s.ae.length*16≤1099511627776:=(by omega);have kx:aq c 6≠aq c 10:=(by unfold aq;omega);have lR:aq c 6≠aq c 14:=(by unfold aq;omega);have kD:aq c 10≠aq c 14:=(by unfold aq;omega);have k1:(H.length-1,aq c 10)≠((H.length-1,aq c 6):Nm):=fun e=>kx (Prod.mk.inj e).2.symm;have k2:(H.length-1,aq c 14)≠((H.length-1,aq c 6):Nm):=fun e=>lR (Prod.mk.inj e).2.symm;have k3:(H.length-1,aq c 14)≠((H.length-1,aq c 10):Nm):=fun e=>kD (Prod.mk.inj e).2.symm;have g2: ∀b,(H.set (H.length-1,aq c 6) b).get (H.length-1,aq c 10)=none:=fun b=>(aj.aL b k1).trans hf2;have g3: ∀b b',((H.set (H.length-1,aq c 6) b).set (H.length-1,aq c 10) b').get (H.length-1,aq c 14)=none:=fun b b'=>(aj.aL b' k3).trans ((aj.aL b k2).trans hf3);have hn: ¬H.length+1≤H.length:=(by omega);unfold ay.row;by_cases t0:s.ae=[]
 ·rw [Se t0];simp [hn,p0,h0,t0,b1,b2];simp [bO,refs,dE,cV,b8,dc,df,dedup,cA,bV,ry,hf1,g2,sK,jj,gJ,gV]
 ·rw [Sd t0];simp [hn,p0,h0,t0,b1,b2,b3];simp [bO,refs,dE,cV,b8,dc,df,dedup,cA,bV,ry,hf1,g2,g3,sK,jj,gJ,gV,kv,t0]
theorem aes {s:ay}{w:Nat}{a:ak}{n1 n2:Nm}{v1 v2:Nat}(g1:H.get n1=some (.arr 1 (s.ah.map aG) v1 false))(e1:v1≤s.ah.length)(g2:H.get n2=some (.arr 2 (s.ao.map aF.row) v2 false))(e2:v2≤s.ao.length)(hp:w<s.ah.length)(hh:w<s.ao.length)(hwho:a.aO=w)(hhand:a.hand=0∨a.hand=1)(k:a.kind=1)(hH:0<H.length):
  aI KC (aC KC) 51 [.agg [.aW n1 1 s.ah.length 0 s.ah.length, .aW n2 2 s.ao.length 0 s.ao.length, .aS], .pure (.agg a.row)] c H=some (.pure (.tuple []),H.set n1 (.arr 1 ((gM s w a).ah.map aG) s.ah.length false)):=by
 have l1:=aj.bS g1;have l2:=aj.bS g2;have d1: ¬n1.1=H.length:=(by omega);have d2: ¬n2.1=H.length:=(by omega);have hd:=lg (s:=s) (w:=w) k;have wr:IntKind.i64.wrap (1-0)=1:=rfl;have wr1:IntKind.i64.wrap (1-1)=0:=rfl;refine aN (a8 KC au Tryz.func51 rfl rfl gH rfl rfl rfl (by simp) hH ?_);rw [bz];rcases hhand with z|z
 ·simp [d1,d2,g1,g2,e1,e2,hp,hh,hwho,z,k,wr,aG,aF.row,aE,aa,hd]
 ·simp [d1,d2,g1,g2,e1,e2,hp,hh,hwho,z,k,wr1,aG,aF.row,aE,aa,hd]
structure SA (F:Fr)(k1 k2 k3:Nat)(s:ay):Prop where
 h1: ∃v,v≤s.ah.length∧F.get k1=some (.arr 1 (s.ah.map aG) v false)
 h2: ∃v,v≤s.ao.length∧F.get k2=some (.arr 2 (s.ao.map aF.row) v false)
 h3:s.ae≠[]→ ∃v,v≤s.ae.length∧F.get k3=some (.arr 2 (s.ae.map br.row) v false)
theorem Jy {L:Nat}(hl:H.length=L){F f0:Fr}{k1 k2 k3:Nat}{s:ay}(hF:F.ia)(hs:SA F k1 k2 k3 s)(kx:k1≠k2)(lR:k1≠k3)(kD:k2≠k3){w:Nat}{a:ak}(hb:Ex s w a)(hhl:s.ao.length≤1000000):
  ∃F',F'.ia∧SA F' k1 k2 k3 (gM s w a)∧(∀k,k≠k1→k≠k2→k≠k3→F'.get k=F.get k)∧
  aI KC (aC KC) 51 [KG L k1 k2 k3 s, .pure (.agg a.row)] c (f0::F::H)=some (.pure (.tuple []),f0::F'::H):=by
 subst hl;have LD:=iR (s:=s) (w:=w) hb.kind;have ne: ¬H.length=H.length+1:=(by omega);by_cases t0:s.ae=[]
 ·rw [Se t0];have k:=IC hb t0;obtain⟨v1,a1,b1⟩:=hs.h1;obtain⟨v2,a2,b2⟩:=hs.h2;have D:=aes (c:=c) (H:=f0::F::H) (n1:=(H.length,k1)) (n2:=(H.length,k2)) (v1:=v1) (v2:=v2) (s:=s) (w:=w) (a:=a) (by simp [ne,b1]) a1 (by simp [ne,b2]) a2 hb.hp hb.hh hb.aO hb.hand k (by simp);refine⟨F.ins k1 (.arr 1 ((gM s w a).ah.map aG) s.ah.length false),Fr.cW hF,⟨⟨s.ah.length,by omega,Fr.bp ..⟩,⟨v2,by omega, ?_⟩,fun h=>absurd (List.eq_nil_of_length_eq_zero (by rw [LD.2.2,t0];rfl)) h⟩,fun k h1 _ _=>Fr.ax _ h1 _,D.trans ?_⟩
  ·rw [Fr.ax _ kx.symm,b2,lg k]
  ·simp [ne]
 ·rw [Sd t0];obtain⟨u3,a3,b3⟩:=hs.h3 t0;obtain⟨v1,v2,v3,a1,a2,a3,e⟩:=Sf (H:=H) (H0:=H) (c:=c) (f0:=f0) rfl hF ⟨hs.h1,hs.h2,⟨u3,a3,b3⟩⟩ kx lR kD hb hhl;refine⟨_,Fr.cW (Fr.cW (Fr.cW hF)),⟨⟨v1,by omega,by rw [Fr.ax _ lR,Fr.ax _ kx,Fr.bp]⟩,⟨v2,by omega,by rw [Fr.ax _ kD,Fr.bp]⟩,fun _=>⟨v3,by omega,by rw [Fr.bp]⟩⟩,fun k h1 h2 h3=>by rw [Fr.ax _ h3,Fr.ax _ h2,Fr.ax _ h1],e⟩
theorem SA.other {F F':Fr}{k1 k2 k3:Nat}{s:ay}(h:SA F k1 k2 k3 s)(e1:F'.get k1=F.get k1)(e2:F'.get k2=F.get k2)(e3:F'.get k3=F.get k3):SA F' k1 k2 k3 s:=by
 refine⟨?_, ?_,fun h0=> ?_⟩
 ·rw [e1];exact h.h1
 ·rw [e2];exact h.h2
 ·rw [e3];exact h.h3 h0
end
section
variable {c:Nat} {H:aj}
theorem toR_loop {o:GV}(ai:List ak)(hal:ai.length≤1000000)(i:Nat)(hi:i<ai.length)(F:Fr)(hcl: ∀f2,clean (f2::[]::F::H) (H.length+1) o=o)(Q:GX→bP→Prop): ∀k j:Nat,j+k=ai.length→
  Q (.exit 2) ⟨[(2, .pure (.slice (ai.map ak.row))),(3, .aD (H.length,3) 0),(4, .aD (H.length,4) 0),(9,o),(10, .pure (.int .i64 i)),(11, .pure (.int .i64 ((j+((ai.drop j).takeWhile (bh ai[i])).length:Nat):Int)))],[]::F::H,94⟩→
  fL KC au 80 (lp Tryz.f80 1) [2,3,4,9,10,11] [2,3,4,9,10,11] Q
   [(2, .pure (.slice (ai.map ak.row))),(3, .aD (H.length,3) 0),(4, .aD (H.length,4) 0),(9,o),(10, .pure (.int .i64 i)),(11, .pure (.int .i64 j))] ([]::F::H) 94:=by
 intro k
 induction k with
 |zero=>
  intro j hj h1;have e:ai.drop j=[]:=List.drop_of_length_le (by omega);rw [e]at h1;have hnl: ¬j<ai.length:=(by omega);apply aw;conv=>arg 4;whnf
  simp [hnl,hcl];simpa using h1
 |succ k ih=>
  intro j hj h1;have hja:j<ai.length:=(by omega);have hw:=cu (x:=(j:Int)+1) (by omega) (by omega);have ed:ai.drop j=ai[j]::ai.drop (j+1):=List.drop_eq_getElem_cons hja;rw [ed,List.takeWhile_cons]at h1;apply aw;conv=>arg 4;whnf
  cases he:(ai[j].aR==ai[i].aR)with
  |true=>
   rw [show bh ai[i] ai[j]=true from he]at h1
   simp only [if_true,List.length_cons]at h1;have ih':=ih (j+1) (by omega) (by rw [show j+1+((ai.drop (j+1)).takeWhile (bh ai[i])).length=j+(((ai.drop (j+1)).takeWhile (bh ai[i])).length+1)by omega];exact h1)
   simp [hja,hi,bz,he,hw,hcl];simpa using ih'
  |false=>
   rw [show bh ai[i] ai[j]=false from he]at h1
   simp [hja,hi,bz,he,hcl];simpa using h1
def sq (t:Touch):dM:= .box [.pure (.slice (t.ah.map aG)), .pure (.slice (t.ae.map aG)), .pure (.slice (t.cells.map aG))]
def G8 (t:Touch):Prop:=t.ah.length≤2∧t.ae.length≤2∧t.cells.length≤2
theorem BU {o a:GV} {F B:Fr} (t:Touch) (ht:G8 t) (bs:List Touch) (hbs: ∀b∈bs,G8 b) (hbl:bs.length≤1000000) (hb0:bs≠[]→B.get 80=some (.arr 3 (bs.map Touch.row) 0 false)) (e i:Nat)
  (hcl: ∀f3 f2,clean (f3::f2::B::F::H) (H.length+2) o=o) (hca: ∀f3 f2,clean (f3::f2::B::F::H) (H.length+2) a=a) (Q:GX→bP→Prop): ∀k j:Nat,j+k=bs.length→
  ((∀x∈bs.drop j,pW x t=false)→Q (.exit 6) ⟨[(2,a),(3, .aD (H.length,3) 0),(4, .aD (H.length,4) 0),(6,aP),(7,aP),(8,aP),(9,o),(11, .pure (.int .i64 e)),(12, .aD (H.length+1,12) 0),(13,cv (H.length+1,80) 3 (bs.map Touch.row)),(14, .pure (.int .i64 i)),(15, .aD (H.length+2,15) 0)],[(15,sq t)]::B::F::H,94⟩)→
  (¬(∀x∈bs.drop j,pW x t=false)→Q .ret ⟨[(2,a),(3, .aD (H.length,3) 0),(4, .aD (H.length,4) 0),(6, .aS),(7, .pure (.int .i64 i)),(8, .pure (.int .i64 12)),(9,o),(11, .pure (.int .i64 e)),(12, .aD (H.length+1,12) 0),(13,cv (H.length+1,80) 3 (bs.map Touch.row)),(14, .pure (.int .i64 i)),(15, .aD (H.length+2,15) 0)],[(15,sq t)]::B::F::H,94⟩)→
  fL KC au 80 (lp Tryz.f80 3) [2,3,4,9,11,12,13,14,15,16] [2,3,4,6,7,8,9,11,12,13,14,15] Q
   [(2,a),(3, .aD (H.length,3) 0),(4, .aD (H.length,4) 0),(9,o),(11, .pure (.int .i64 e)),(12, .aD (H.length+1,12) 0),(13,cv (H.length+1,80) 3 (bs.map Touch.row)),(14, .pure (.int .i64 i)),(15, .aD (H.length+2,15) 0),(16, .pure (.int .i64 j))] ([(15,sq t)]::B::F::H) 94:=by
 intro k;have ne1: ¬H.length+1=H.length+2:=(by omega);have ne2: ¬H.length+1=H.length+3:=(by omega);have ne3: ¬H.length=H.length+2:=(by omega);have ne4: ¬H.length=H.length+3:=by omega
 induction k with
 |zero=>
  intro j hj h1 h2;apply aw;conv=>arg 4;whnf
  have hnl: ¬j<bs.length:=(by omega);have ed:bs.drop j=[]:=List.drop_of_length_le (by omega);simp [hnl,hcl,hca];simpa [sq]using h1 (by rw [ed];simp)
 |succ k ih=>
  intro j hj h1 h2;have hja:j<bs.length:=(by omega);have hw:=cu (x:=(j:Int)+1) (by omega) (by omega);have ed:bs.drop j=bs[j]::bs.drop (j+1):=List.drop_eq_getElem_cons hja;have hne:bs≠[]:=fun h=>(by rw [h]at hja;simp at hja);have KH:=hb0 hne;have BV:=fun c (H:aj) (hH:0<H.length)=>E0 (c:=c) (H:=H) (hbs bs[j] (List.getElem_mem hja)) ht hH;simp only [Touch.row]at BV;apply aw;conv=>arg 4;whnf
  cases hb:pW bs[j] t with
  |true=>
   rw [hb]at BV;have h2':=h2 (fun h=>by have:=h bs[j] (by rw [ed];exact List.mem_cons_self ..);rw [hb]at this;cases this);simp only [sq]at h2';simp [hja,KH,ne1,ne2,Touch.row,sq,BV,hcl,hca];simpa using h2'
  |false=>
   rw [hb]at BV;have ih':=ih (j+1) (by omega) (fun h=>h1 fun x hx=>by
    rw [ed]at hx;rcases List.mem_cons.1 hx with rfl|hx
    ·exact hb
    ·exact h x hx) (fun h=>h2 fun h'=>h fun x hx=>h' x (by rw [ed];exact List.mem_cons_of_mem _ hx))
   simp only [sq]at ih';simp [hja,KH,ne1,ne2,Touch.row,sq,BV,hw,hcl,hca];simpa [Touch.row]using ih'
end
section
variable {c:Nat} {H:aj}
theorem yI {nm:Nm}{es:Nat}{rows rows':List (List PV)}(h:rows.length=rows'.length):cv nm es rows=cv nm es rows':=by
 unfold cv;by_cases e:rows=[]
 ·subst e;have:rows'=[]:=List.eq_nil_of_length_eq_zero (by simpa using h.symm);rw [this]
 ·have:rows'≠[]:=fun x=>e (List.eq_nil_of_length_eq_zero (by rw [h,x];rfl));rw [if_neg e,if_neg this,h]
def xt:Nat:=24619
def vd:Nat:=41003
def xI:Nat:=57387
def E5 (L:Nat)(s:ay):dM:= .box [.aW (L,xt) 1 s.ah.length 0 s.ah.length, .aW (L,vd) 2 s.ao.length 0 s.ao.length,cv (L,xI) 2 (s.ae.map br.row)]
def mq (s:ay):dM:= .box [.pure (.slice (s.ah.map aG)), .pure (.slice (s.ao.map aF.row)), .pure (.slice (s.ae.map br.row))]
structure MR (L:Nat)(B:Fr)(bs:List Touch)(nx:ay):Prop where
 ia:B.ia
 tq:B.get 12=some (E5 L nx)
 sc:SA B xt vd xI nx
 KH:bs≠[]→B.get 80=some (.arr 3 (bs.map Touch.row) 0 false)
 Jz:bs=[]→B.get 80=none
noncomputable def HT (s:ay)(a:ak):Touch:=bW s a.aO.toNat a
theorem E6 {s:ay}{p:List ak}{tk:List (Int×Int)}{a:ak}(h:rV s p tk):(∀x∈p.map (HT s),pW x (HT s a)=false)↔ ∀x∈eI s a.aO.toNat a,x∉tk:=by
 constructor
 ·intro hb x hx hm;obtain⟨b,hb1,hb2⟩:=(h x).1 hm;have:=sO.1 (hb _ (List.mem_map_of_mem hb1));exact qB.1 this x hb2 hx
 ·intro hx x hxm;obtain⟨b,hb1,rfl⟩:=List.mem_map.1 hxm;exact sO.2 (qB.2 fun y h1 h2=>hx y h2 ((h y).2 ⟨b,hb1,h1⟩))
theorem DR {r:aH}{w:Nat}{a:ak}(h:AB r w a):ZF r.ah.length r.ae.length w a:=
 ⟨h.aO,h.hand,h.take,fun k=>by obtain⟨o,e,l,_⟩:=h.sM k;exact⟨o,e,l⟩⟩
theorem G9 {r:aH} {s:ay} (hS:jd r s) (hW:WB r) (hFu:Full s) {o:GV} {F:Fr} (g3:F.get 3=some (aA r)) (g4:F.get 4=some (mq s)) (ai:List ak) (hal:ai.length≤1000000) (hA: ∀a∈ai,AB r a.aO.toNat a) (e:Nat) (hel:e≤ai.length)
  (hcl: ∀f3 f2 f1,clean (f3::f2::f1::F::H) (H.length+2) o=o) (hcl1: ∀f2 f1,clean (f2::f1::F::H) (H.length+1) o=o) (Q:GX→bP→Prop):
  ∀(k i:Nat) (B:Fr) (p:List ak) (tk:List (Int×Int)) (nx:ay),i+k=e→p.length≤i→MR (H.length+1) B (p.map (HT s)) nx→rV s p tk→pX r s p→nx=my s p→
  ((cC r s ((ai.take e).drop i) tk nx i).2.2=0→ ∀B' bs',MR (H.length+1) B' bs' (cC r s ((ai.take e).drop i) tk nx i).1→Q (.exit 4) ⟨[(2, .pure (.slice (ai.map ak.row))),(3, .aD (H.length,3) 0),(4, .aD (H.length,4) 0),(6,aP),(7,aP),(8,aP),(9,o),(11, .pure (.int .i64 e)),(12, .aD (H.length+1,12) 0)],B'::F::H,94⟩)→
  ((cC r s ((ai.take e).drop i) tk nx i).2.2≠0→ ∀B',Q .ret ⟨[(2, .pure (.slice (ai.map ak.row))),(3, .aD (H.length,3) 0),(4, .aD (H.length,4) 0),(6, .aS),(7, .pure (.int .i64 (cC r s ((ai.take e).drop i) tk nx i).2.1)),(8, .pure (.int .i64 (cC r s ((ai.take e).drop i) tk nx i).2.2)),(9,o),(11, .pure (.int .i64 e)),(12, .aD (H.length+1,12) 0)],B'::F::H,94⟩)→
  fL KC au 80 (lp Tryz.f80 2) [2,3,4,9,11,12,13,14] [2,3,4,6,7,8,9,11,12] Q
   [(2, .pure (.slice (ai.map ak.row))),(3, .aD (H.length,3) 0),(4, .aD (H.length,4) 0),(9,o),(11, .pure (.int .i64 e)),(12, .aD (H.length+1,12) 0),(13,cv (H.length+1,80) 3 ((p.map (HT s)).map Touch.row)),(14, .pure (.int .i64 i))] (B::F::H) 94:=by
 intro k;have ne1: ¬H.length+1=H.length+2:=(by omega);have ne2: ¬H.length=H.length+1:=(by omega);have ne3: ¬H.length=H.length+2:=by omega
 induction k with
 |zero=>
  intro i B p tk nx hi hpl hM hT hG hnx h1 h2;apply aw;conv=>arg 4;whnf
  have hnl: ¬i<e:=(by omega);have ed:(ai.take e).drop i=[]:=List.drop_of_length_le (by simp;omega);rw [ed]at h1;simp [hnl,hcl,hcl1];exact h1 rfl B _ hM
 |succ k ih=>
  intro i B p tk nx hi hpl hM hT hG hnx h1 h2;have hie:i<e:=(by omega);have hia:i<ai.length:=(by omega);have hw:=cu (x:=(i:Int)+1) (by omega) (by omega);obtain⟨a,ha⟩: ∃a,ai[i]=a:=⟨_,rfl⟩;have ed:(ai.take e).drop i=a::(ai.take e).drop (i+1):=by
   rw [List.drop_eq_getElem_cons (by simp;omega)];simp [ha]
  have hAa:AB r a.aO.toNat a:=hA a (ha▸List.getElem_mem hia);have hpW:=hW.w1;have hww:r.wide≠0:=(by omega);have hwl:=hAa.wl;have P:=fun c (H:aj) (hH:0<H.length)=>kK (c:=c) (H:=H) hS.toFF hwl hW.pl hww (DR hAa) hH;have T:=fun c (H:aj) (hH:0<H.length)=>sr (c:=c) (H:=H) (s:=s) (w:=a.aO.toNat) (a:=a) (by rw [hS.pl];exact hwl) (by rw [hS.hl];exact hwl) hAa.aO hAa.hand hH;rw [ed]at h1 h2;unfold cC at h1 h2;obtain⟨bs,hbs⟩: ∃bs,p.map (HT s)=bs:=⟨_,rfl⟩;have hbl:bs.length=p.length:=(by rw [←hbs];simp);have hbT: ∀b∈bs,G8 b:=fun b hb=>by
   rw [←hbs]at hb;obtain⟨x,_,rfl⟩:=List.mem_map.1 hb;exact jR s x.aO.toNat x
  have hit0:=E6 (a:=a) hT;rw [hbs]at hM hit0⊢;apply aw;conv=>arg 4;whnf
  simp only [aA]at g3;simp only [mq]at g4;rw [cQ,bz]at P;rw [bz]at T;simp only [ay.row]at P T
  cases hp:dy r s a.aO.toNat a with
  |false=>
   rw [hp]at P;simp only [hp,if_true]at h2;have h2':=h2 (by decide) B;simp [hie,hia,ha,bz,ne1,ne2,ne3,g3,g4,P,hcl,hcl1];exact h2'
  |true=>
   rw [hp]at P;simp only [hp,Bool.true_eq_false,if_false]at h1 h2;obtain⟨t,ht⟩: ∃t,bW s a.aO.toNat a=t:=⟨_,rfl⟩;have htl:G8 t:=(by rw [←ht];exact jR s a.aO.toNat a);have htO:HT s a=t:=ht;rw [ht]at T;simp only [Touch.row]at T;have L1:=fun Q=>BU (H:=H) (o:=o) (a:= .pure (.slice (ai.map ak.row))) (F:=F) (B:=B) t htl bs hbT (by omega) hM.KH e i (fun f3 f2=>hcl f3 f2 B) (fun f3 f2=>by simp) Q bs.length 0 (by omega);simp only [List.drop_zero,sq]at L1;have hit:=hit0;rw [htO]at hit;simp [hie,hia,ha,bz,ne1,ne2,ne3,g3,g4,P,T,hcl,hcl1];refine L1 _ (fun hfr=> ?_) (fun hfr=> ?_)
   ·clear L1;have hfr':=hit.1 hfr;rw [if_pos hfr']at h1 h2;have hGs:pX r s (p++[a]):=hG.snoc hT hAa hp hfr';have hTs:rV s (p++[a]) (eZ tk (eI s a.aO.toNat a)):=hT.snoc;have aft:=pX.after hS hGs;rw [←hnx]at aft;have hD:=mc aft.1 hAa aft.2;have b1:(bs.map Touch.row).length+1≤1000001:=(by simp;omega);have hbs2:(p++[a]).map (HT s)=bs++[t]:=(by simp [hbs,htO]);have AP:=fun(C:Fr)=>pP (H':=C::B::F::H) (l:=H.length+1) (key:=80) (es:=3) (bytes:=72) (rows:=bs.map Touch.row) (r:=t.row) (fun h=>by
     have:=hM.Jz (by simpa using h);simp [ne1,this]) (fun h=>by
     have:=hM.KH (by intro x;exact h (by rw [x];rfl));simp [ne1,this]) (by simp) (by omega)
    have es:bs.map Touch.row++[t.row]=(bs++[t]).map Touch.row:=(by simp);rw [es]at AP;obtain⟨B1,hB1⟩: ∃B1,B.ins 80 (.arr 3 ((bs++[t]).map Touch.row) 0 false)=B1:=⟨_,rfl⟩;have o1: ∀k,k≠80→B1.get k=B.get k:=fun k hk=>(by rw [←hB1,Fr.ax _ hk]);have hs1:B1.ia:=(by rw [←hB1];exact Fr.cW hM.ia);have sc1:SA B1 xt vd xI nx:=hM.sc.other (o1 _ (by decide)) (o1 _ (by decide)) (o1 _ (by decide));have tq:=(o1 12 (by decide)).trans hM.tq;have g801:B1.get 80=some (.arr 3 ((bs++[t]).map Touch.row) 0 false):=(by rw [←hB1,Fr.bp]);have hset: ∀C:Fr,aj.set (C::B::F::H) (H.length+1,80) (.arr 3 ((bs++[t]).map Touch.row) 0 false)=C::B1::F::H:=fun C=>(by rw [←hB1];simp [ne1]);simp only [hset,Touch.row]at AP;obtain⟨B2,hs2,sc2,o2,ed2⟩:=Jy (H:=F::H) (L:=H.length+1) (by simp) (c:=86) (f0:=[(15,sq t)]) hs1 sc1 (show xt≠vd by decide) (show xt≠xI by decide) (show vd≠xI by decide) hD (by rw [aft.1.hl];exact hW.pl)
    have LD:=iR (s:=nx) (w:=a.aO.toNat) (a:=a) hAa.kind;have ens:E5 (H.length+1) (gM nx a.aO.toNat a)=E5 (H.length+1) nx:=by
     unfold E5;rw [LD.1,LD.2.1,yI (rows:=(gM nx a.aO.toNat a).ae.map br.row) (rows':=nx.ae.map br.row) (by simp [LD.2.2])]
    have M2:MR (H.length+1) B2 (bs++[t]) (gM nx a.aO.toNat a):={
     ia:=hs2
     tq:=by rw [ens];exact(o2 12 (by decide) (by decide) (by decide)).trans tq
     sc:=sc2
     KH:=fun _=>(o2 80 (by decide) (by decide) (by decide)).trans g801
     Jz:=fun h=>by simp at h}
    have ih':=ih (i+1) B2 (p++[a]) (eZ tk (eI s a.aO.toNat a)) (gM nx a.aO.toNat a) (by omega) (by simp;omega) (by rw [hbs2];exact M2) hTs hGs (by rw [hnx,iY];rfl) h1 h2;rw [hbs2]at ih';simp only [KG,sq]at ed2;rw [bz]at ed2;simp only [E5]at tq;simp [ne1,ne2,ne3,hia,ha,bz,AP,tq,ed2,hw,hcl,hcl1];simpa using ih'
   ·clear L1;have hfr': ¬ ∀x∈eI s a.aO.toNat a,x∉tk:=fun h=>hfr (hit.2 h);rw [if_neg hfr']at h2;have h2':=h2 (show (12:Int)≠0 by decide) B
    simp [hcl,hcl1];exact h2'
theorem mw {K:Ctx}{rec:Rec}{f:FuncId}{a b:List GV}(h:a.map canon=b.map canon):bM K rec f a c H=bM K rec f b c H:=by
 have hl:a.length=b.length:=(by have:=congrArg List.length h;simpa using this);unfold bM;rw [h,hl]
theorem nN {K:Ctx}{rec:Rec}{f:FuncId}{a b:List GV}(hc:K.tG f=false)(ha:(bm H a).2=H)(hb:(bm H b).2=H)(h:(bm H a).1.map canon=(bm H b).1.map canon)(h2:a.map canon=b.map canon):aI K rec f a c H=aI K rec f b c H:=by
 unfold aI;simp only [hc,Bool.false_and,Bool.false_eq_true,if_false,ha,hb,h];split
 ·rfl
 ·split
  ·exact mw h
  ·exact mw h2
theorem aet {f:FuncId}{r p h a:PV}(hc:KC.tG f=false):aI KC (aC KC) f [.pure r, .agg [.pure p, .pure h, .aS], .pure a] c H=aI KC (aC KC) f [.pure r, .pure (.agg [p,h, .slice []]), .pure a] c H:=
 nN hc rfl rfl rfl rfl
theorem aeu {f:FuncId}{p h a:PV}(hc:KC.tG f=false):aI KC (aC KC) f [.agg [.pure p, .pure h, .aS], .pure a] c H=aI KC (aC KC) f [.pure (.agg [p,h, .slice []]), .pure a] c H:=
 nN hc rfl rfl rfl rfl
theorem aev {f:FuncId}{p h:PV}(hc:KC.tG f=false):aI KC (aC KC) f [.agg [.pure p, .pure h, .aS]] c H=aI KC (aC KC) f [.pure (.agg [p,h, .slice []])] c H:=
 nN hc rfl rfl rfl rfl
theorem DS {r:aH} {s:ay} (hS:jd r s) (hW:WB r) (hFu:Full s) {o:GV} {F:Fr} (g3:F.get 3=some (aA r)) (hst:s.ae=[]) (g4:F.get 4=some (.box [.pure (.slice (s.ah.map aG)), .pure (.slice (s.ao.map aF.row)), .aS])) (ai:List ak) (hal:ai.length≤1000000) (hA: ∀a∈ai,AB r a.aO.toNat a) (e:Nat) (hel:e≤ai.length)
  (hcl: ∀f3 f2 f1,clean (f3::f2::f1::F::H) (H.length+2) o=o) (hcl1: ∀f2 f1,clean (f2::f1::F::H) (H.length+1) o=o) (Q:GX→bP→Prop):
  ∀(k i:Nat) (B:Fr) (p:List ak) (tk:List (Int×Int)) (nx:ay),i+k=e→p.length≤i→MR (H.length+1) B (p.map (HT s)) nx→rV s p tk→pX r s p→nx=my s p→
  ((cC r s ((ai.take e).drop i) tk nx i).2.2=0→ ∀B' bs',MR (H.length+1) B' bs' (cC r s ((ai.take e).drop i) tk nx i).1→Q (.exit 4) ⟨[(2, .pure (.slice (ai.map ak.row))),(3, .aD (H.length,3) 0),(4, .aD (H.length,4) 0),(6,aP),(7,aP),(8,aP),(9,o),(11, .pure (.int .i64 e)),(12, .aD (H.length+1,12) 0)],B'::F::H,94⟩)→
  ((cC r s ((ai.take e).drop i) tk nx i).2.2≠0→ ∀B',Q .ret ⟨[(2, .pure (.slice (ai.map ak.row))),(3, .aD (H.length,3) 0),(4, .aD (H.length,4) 0),(6, .aS),(7, .pure (.int .i64 (cC r s ((ai.take e).drop i) tk nx i).2.1)),(8, .pure (.int .i64 (cC r s ((ai.take e).drop i) tk nx i).2.2)),(9,o),(11, .pure (.int .i64 e)),(12, .aD (H.length+1,12) 0)],B'::F::H,94⟩)→
  fL KC au 80 (lp Tryz.f80 2) [2,3,4,9,11,12,13,14] [2,3,4,6,7,8,9,11,12] Q
   [(2, .pure (.slice (ai.map ak.row))),(3, .aD (H.length,3) 0),(4, .aD (H.length,4) 0),(9,o),(11, .pure (.int .i64 e)),(12, .aD (H.length+1,12) 0),(13,cv (H.length+1,80) 3 ((p.map (HT s)).map Touch.row)),(14, .pure (.int .i64 i))] (B::F::H) 94:=by
 intro k;have ne1: ¬H.length+1=H.length+2:=(by omega);have ne2: ¬H.length=H.length+1:=(by omega);have ne3: ¬H.length=H.length+2:=by omega
 induction k with
 |zero=>
  intro i B p tk nx hi hpl hM hT hG hnx h1 h2;apply aw;conv=>arg 4;whnf
  have hnl: ¬i<e:=(by omega);have ed:(ai.take e).drop i=[]:=List.drop_of_length_le (by simp;omega);rw [ed]at h1;simp [hnl,hcl,hcl1];exact h1 rfl B _ hM
 |succ k ih=>
  intro i B p tk nx hi hpl hM hT hG hnx h1 h2;have hie:i<e:=(by omega);have hia:i<ai.length:=(by omega);have hw:=cu (x:=(i:Int)+1) (by omega) (by omega);obtain⟨a,ha⟩: ∃a,ai[i]=a:=⟨_,rfl⟩;have ed:(ai.take e).drop i=a::(ai.take e).drop (i+1):=by
   rw [List.drop_eq_getElem_cons (by simp;omega)];simp [ha]
  have hAa:AB r a.aO.toNat a:=hA a (ha▸List.getElem_mem hia);have hpW:=hW.w1;have hww:r.wide≠0:=(by omega);have hwl:=hAa.wl;have P:=fun c (H:aj) (hH:0<H.length)=>kK (c:=c) (H:=H) hS.toFF hwl hW.pl hww (DR hAa) hH;have T:=fun c (H:aj) (hH:0<H.length)=>sr (c:=c) (H:=H) (s:=s) (w:=a.aO.toNat) (a:=a) (by rw [hS.pl];exact hwl) (by rw [hS.hl];exact hwl) hAa.aO hAa.hand hH;rw [ed]at h1 h2;unfold cC at h1 h2;obtain⟨bs,hbs⟩: ∃bs,p.map (HT s)=bs:=⟨_,rfl⟩;have hbl:bs.length=p.length:=(by rw [←hbs];simp);have hbT: ∀b∈bs,G8 b:=fun b hb=>by
   rw [←hbs]at hb;obtain⟨x,_,rfl⟩:=List.mem_map.1 hb;exact jR s x.aO.toNat x
  have hit0:=E6 (a:=a) hT;rw [hbs]at hM hit0⊢;apply aw;conv=>arg 4;whnf
  simp only [aA]at g3;rw [cQ,bz]at P;rw [bz]at T;simp only [ay.row,hst,List.map_nil]at P T;have P:=fun c (H:aj) (hH:0<H.length)=>(aet (c:=c) (H:=H) (f:=84) rfl).trans (P c H hH);have T:=fun c (H:aj) (hH:0<H.length)=>(aeu (c:=c) (H:=H) (f:=88) rfl).trans (T c H hH)
  cases hp:dy r s a.aO.toNat a with
  |false=>
   rw [hp]at P;simp only [hp,if_true]at h2;have h2':=h2 (by decide) B;simp [hie,hia,ha,bz,ne1,ne2,ne3,g3,g4,P,hcl,hcl1];exact h2'
  |true=>
   rw [hp]at P;simp only [hp,Bool.true_eq_false,if_false]at h1 h2;obtain⟨t,ht⟩: ∃t,bW s a.aO.toNat a=t:=⟨_,rfl⟩;have htl:G8 t:=(by rw [←ht];exact jR s a.aO.toNat a);have htO:HT s a=t:=ht;rw [ht]at T;simp only [Touch.row]at T;have L1:=fun Q=>BU (H:=H) (o:=o) (a:= .pure (.slice (ai.map ak.row))) (F:=F) (B:=B) t htl bs hbT (by omega) hM.KH e i (fun f3 f2=>hcl f3 f2 B) (fun f3 f2=>by simp) Q bs.length 0 (by omega);simp only [List.drop_zero,sq]at L1;have hit:=hit0;rw [htO]at hit;simp [hie,hia,ha,bz,ne1,ne2,ne3,g3,g4,P,T,hcl,hcl1];refine L1 _ (fun hfr=> ?_) (fun hfr=> ?_)
   ·clear L1;have hfr':=hit.1 hfr;rw [if_pos hfr']at h1 h2;have hGs:pX r s (p++[a]):=hG.snoc hT hAa hp hfr';have hTs:rV s (p++[a]) (eZ tk (eI s a.aO.toNat a)):=hT.snoc;have aft:=pX.after hS hGs;rw [←hnx]at aft;have hD:=mc aft.1 hAa aft.2;have b1:(bs.map Touch.row).length+1≤1000001:=(by simp;omega);have hbs2:(p++[a]).map (HT s)=bs++[t]:=(by simp [hbs,htO]);have AP:=fun(C:Fr)=>pP (H':=C::B::F::H) (l:=H.length+1) (key:=80) (es:=3) (bytes:=72) (rows:=bs.map Touch.row) (r:=t.row) (fun h=>by
     have:=hM.Jz (by simpa using h);simp [ne1,this]) (fun h=>by
     have:=hM.KH (by intro x;exact h (by rw [x];rfl));simp [ne1,this]) (by simp) (by omega)
    have es:bs.map Touch.row++[t.row]=(bs++[t]).map Touch.row:=(by simp);rw [es]at AP;obtain⟨B1,hB1⟩: ∃B1,B.ins 80 (.arr 3 ((bs++[t]).map Touch.row) 0 false)=B1:=⟨_,rfl⟩;have o1: ∀k,k≠80→B1.get k=B.get k:=fun k hk=>(by rw [←hB1,Fr.ax _ hk]);have hs1:B1.ia:=(by rw [←hB1];exact Fr.cW hM.ia);have sc1:SA B1 xt vd xI nx:=hM.sc.other (o1 _ (by decide)) (o1 _ (by decide)) (o1 _ (by decide));have tq:=(o1 12 (by decide)).trans hM.tq;have g801:B1.get 80=some (.arr 3 ((bs++[t]).map Touch.row) 0 false):=(by rw [←hB1,Fr.bp]);have hset: ∀C:Fr,aj.set (C::B::F::H) (H.length+1,80) (.arr 3 ((bs++[t]).map Touch.row) 0 false)=C::B1::F::H:=fun C=>(by rw [←hB1];simp [ne1]);simp only [hset,Touch.row]at AP;obtain⟨B2,hs2,sc2,o2,ed2⟩:=Jy (H:=F::H) (L:=H.length+1) (by simp) (c:=86) (f0:=[(15,sq t)]) hs1 sc1 (show xt≠vd by decide) (show xt≠xI by decide) (show vd≠xI by decide) hD (by rw [aft.1.hl];exact hW.pl)
    have LD:=iR (s:=nx) (w:=a.aO.toNat) (a:=a) hAa.kind;have ens:E5 (H.length+1) (gM nx a.aO.toNat a)=E5 (H.length+1) nx:=by
     unfold E5;rw [LD.1,LD.2.1,yI (rows:=(gM nx a.aO.toNat a).ae.map br.row) (rows':=nx.ae.map br.row) (by simp [LD.2.2])]
    have M2:MR (H.length+1) B2 (bs++[t]) (gM nx a.aO.toNat a):={
     ia:=hs2
     tq:=by rw [ens];exact(o2 12 (by decide) (by decide) (by decide)).trans tq
     sc:=sc2
     KH:=fun _=>(o2 80 (by decide) (by decide) (by decide)).trans g801
     Jz:=fun h=>by simp at h}
    have ih':=ih (i+1) B2 (p++[a]) (eZ tk (eI s a.aO.toNat a)) (gM nx a.aO.toNat a) (by omega) (by simp;omega) (by rw [hbs2];exact M2) hTs hGs (by rw [hnx,iY];rfl) h1 h2;rw [hbs2]at ih';simp only [KG,sq]at ed2;rw [bz]at ed2;simp only [E5]at tq;simp [ne1,ne2,ne3,hia,ha,bz,AP,tq,ed2,hw,hcl,hcl1];simpa using ih'
   ·clear L1;have hfr': ¬ ∀x∈eI s a.aO.toNat a,x∉tk:=fun h=>hfr (hit.2 h);rw [if_neg hfr']at h2;have h2':=h2 (show (12:Int)≠0 by decide) B
    simp [hcl,hcl1];exact h2'
end
section
variable {c:Nat} {H:aj}
theorem wQ {r:aH}{s:ay}: ∀{g:List ak} {tk:List (Int×Int)} {nx:ay} {i d:Nat},(cC r s g tk nx (i+d)).1=(cC r s g tk nx i).1∧(cC r s g tk nx (i+d)).2.2=(cC r s g tk nx i).2.2∧((cC r s g tk nx i).2.2≠0→(cC r s g tk nx (i+d)).2.1=(cC r s g tk nx i).2.1+d)
 | [],_,_,_,_=>⟨rfl,rfl,fun h=>absurd rfl h⟩
 |a::g,tk,nx,i,d=>by
  unfold cC;by_cases h1:dy r s a.aO.toNat a=false
  ·rw [if_pos h1,if_pos h1];exact⟨rfl,rfl,fun _=>by simp⟩
  ·rw [if_neg h1,if_neg h1];by_cases h2: ∀x∈eI s a.aO.toNat a,x∉tk
   ·rw [if_pos h2,if_pos h2,show i+d+1=(i+1)+d by omega]
    exact wQ
   ·rw [if_neg h2,if_neg h2];exact⟨rfl,rfl,fun _=>by simp⟩
def pT (s:ay):dM:= .box [.pure (.slice (s.ah.map aG)), .pure (.slice (s.ao.map aF.row)), .aS]
def zZ:Bool→ay→dM|true,s=>pT s|false,s=>mq s
def iI (b:Bool)(r:aH)(s:ay)(out:List ay):Fr:=dS 92 3 (out.map ay.row) [(3,aA r),(4,zZ b s)]
theorem JA {r:aH}(hW:WB r)(ai:List ak)(hal:ai.length≤1000000)(hA: ∀a∈ai,AB r a.aO.toNat a)(Q:GX→bP→Prop): ∀(k i:Nat) (b:Bool) (s:ay) (out:List ay),ai.length-i≤k→i≤ai.length→out.length≤i→jd r s→Full s→(b=true→s.ae=[])→
  ((cj r k s (ai.drop i) i).2.2.2=0→ ∀b',Q (.exit 0) ⟨[(6,aP),(7,aP),(8,aP),(9,cv (H.length,92) 3 ((out++(cj r k s (ai.drop i) i).1).map ay.row))],iI b' r (cj r k s (ai.drop i) i).2.1 (out++(cj r k s (ai.drop i) i).1)::H,94⟩)→
  ((cj r k s (ai.drop i) i).2.2.2≠0→ ∀g F',Q .ret ⟨[(6, .aS),(7, .pure (.int .i64 (cj r k s (ai.drop i) i).2.2.1)),(8, .pure (.int .i64 (cj r k s (ai.drop i) i).2.2.2)),(9,g)],F'::H,94⟩)→
  fL KC au 80 (lp Tryz.f80 0) [2,3,4,9,10] [6,7,8,9] Q
   [(2, .pure (.slice (ai.map ak.row))),(3, .aD (H.length,3) 0),(4, .aD (H.length,4) 0),(9,cv (H.length,92) 3 (out.map ay.row)),(10, .pure (.int .i64 i))] (iI b r s out::H) 94:=by
 intro k;have ne1: ¬H.length=H.length+1:=(by omega);have ne2: ¬H.length+1=H.length:=(by omega);have ne3: ¬H.length+1≤H.length:=by omega
 induction k with
 |zero=>
  intro i b s out hk hi hol hS hF hb h1 h2;have hnl: ¬i<ai.length:=(by omega);apply aw;conv=>arg 4;whnf
  simp [cj]at h1;simp [hnl]
  cases b with
  |true=>simpa using h1.2
  |false=>simpa using h1.1
 |succ k ih=>
  intro i b s out hk hi hol hS hF hb h1 h2;by_cases hia:i<ai.length
  ·have ed:ai.drop i=ai[i]::ai.drop (i+1):=List.drop_eq_getElem_cons hia;obtain⟨a,ha⟩: ∃a,ai[i]=a:=⟨_,rfl⟩;rw [ha]at ed;obtain⟨gr,hgr⟩: ∃gr,(a::ai.drop (i+1)).takeWhile (bh a)=gr:=⟨_,rfl⟩;have hg1:1≤gr.length:=by
    rw [←hgr,List.takeWhile_cons,show bh a a=true from by simp [bh]]
    simp
   have hgp:gr<+:ai.drop i:=(by rw [ed,←hgr];exact List.takeWhile_prefix _);have hgl:i+gr.length≤ai.length:=(by have:=hgp.length_le;simp at this;omega);have hgt:gr=(ai.drop i).take gr.length:=List.prefix_iff_eq_take.1 hgp;have hgA: ∀b∈gr,AB r b.aO.toNat b:=fun b hb=>hA b (List.mem_of_mem_drop (hgp.subset hb));have hsl:(ai.take (i+gr.length)).drop i=gr:=(by rw [List.drop_take,Nat.add_sub_cancel_left];exact hgt.symm);obtain⟨m,hm⟩: ∃m,cC r s gr [] s 0=m:=⟨_,rfl⟩;have hbad:=wu (r:=r) (s:=s) (g:=gr) (tk:=[]) (nx:=s) (i:=0);have hgood:=pK (r:=r) (s:=s) (g:=gr) (p:=[]) (tk:=[]) (nx:=s) (i:=0) (fun x=>by simp) ⟨fun a ha=>by simp at ha,by simp⟩ rfl hgA;have hsh:=wQ (r:=r) (s:=s) (g:=gr) (tk:=[]) (nx:=s) (i:=0) (d:=i);rw [Nat.zero_add]at hsh;rw [hm]at hbad hgood hsh;rw [ed]at h1 h2;unfold cj at h1 h2;simp only [hgr,hm]at h1 h2;have o0: ∀f2:Fr,clean (f2::[]::iI b r s out::H) (H.length+1) (cv (H.length,92) 3 (out.map ay.row))=cv (H.length,92) 3 (out.map ay.row):=fun f2=>(by simp);have L1:=fun Q=>toR_loop (H:=H) (o:=cv (H.length,92) 3 (out.map ay.row)) ai hal i hia (iI b r s out) o0 Q (ai.length-i) i (by omega);rw [ed,ha,hgr]at L1;obtain⟨e,hee⟩: ∃e,i+gr.length=e:=⟨_,rfl⟩;rw [hee]at L1 hsl hgl;have q1:aq 42 6=xt:=(by decide);have q2:aq 42 10=vd:=(by decide);have q3:aq 42 14=xI:=(by decide);have O:=OE (c:=42) (H:=[]::iI b r s out::H) (s:=s) hF (by simp) (by simp [ne2]) (by simp [ne2]) (by simp [ne2]);simp only [List.length_cons,Nat.add_sub_cancel,q1,q2,q3]at O;obtain⟨B0,hB0⟩: ∃B0:Fr,dS xI 2 (s.ae.map br.row) [(xt, .arr 1 (s.ah.map aG) 0 false),(vd, .arr 2 (s.ao.map aF.row) 0 false)]=B0:=⟨_,rfl⟩;have hO:gV (aj.set (aj.set ([]::iI b r s out::H) (H.length+1,xt) (.arr 1 (s.ah.map aG) 0 false)) (H.length+1,vd) (.arr 2 (s.ao.map aF.row) 0 false)) (H.length+1,xI) 2 (s.ae.map br.row)=B0::iI b r s out::H:=by
    rw [←hB0];have:aj.set (aj.set ([]::iI b r s out::H) (H.length+1,xt) (.arr 1 (s.ah.map aG) 0 false)) (H.length+1,vd) (.arr 2 (s.ao.map aF.row) 0 false)=[(xt, .arr 1 (s.ah.map aG) 0 false),(vd, .arr 2 (s.ao.map aF.row) 0 false)]::iI b r s out::H:=by
     simp [ne2,xt,vd]
    rw [this];exact ve (by simp)
   rw [hO]at O;have b0s:B0.ia:=(by rw [←hB0];exact E7 (by simp [Fr.ia,xt,vd]));have b0_1:B0.get xt=some (.arr 1 (s.ah.map aG) 0 false):=(by rw [←hB0,bu (by decide)];simp);have b0_2:B0.get vd=some (.arr 2 (s.ao.map aF.row) 0 false):=(by rw [←hB0,bu (by decide)];simp [xt,vd]);have b0_3:s.ae≠[]→B0.get xI=some (.arr 2 (s.ae.map br.row) 0 false):=fun h=>(by rw [←hB0,cw (by simpa using h)]);have b0_n: ∀k,k≠xt→k≠vd→k≠xI→B0.get k=none:=fun k h1 h2 h3=>(by rw [←hB0,bu h3];simp [h1,h2]);have b0_12:=b0_n 12 (by decide) (by decide) (by decide);obtain⟨B1,hB1⟩: ∃B1,B0.ins 12 (E5 (H.length+1) s)=B1:=⟨_,rfl⟩;have o1: ∀k,k≠12→B1.get k=B0.get k:=fun k hk=>by rw [←hB1,Fr.ax _ hk]
   have M1:MR (H.length+1) B1 [] s:={
    ia:=by rw [←hB1];exact Fr.cW b0s
    tq:=by rw [←hB1,Fr.bp]
    sc:=⟨⟨0,Nat.zero_le _,(o1 _ (by decide)).trans b0_1⟩,⟨0,Nat.zero_le _,(o1 _ (by decide)).trans b0_2⟩,fun h=>⟨0,Nat.zero_le _,(o1 _ (by decide)).trans (b0_3 h)⟩⟩
    KH:=fun h=>absurd rfl h
    Jz:=fun _=>(o1 80 (by decide)).trans (b0_n 80 (by decide) (by decide) (by decide))}
   cases b with
   |false=>
    have L2:=fun Q=>G9 (H:=H) hS hW hF (o:=cv (H.length,92) 3 (out.map ay.row)) (F:=iI false r s out) (by unfold iI;rw [bu (by decide)];rfl) (by unfold iI;rw [bu (by decide)];rfl) ai hal hA e hgl (fun f3 f2 f1=>by simp) (fun f2 f1=>by simp) Q gr.length i B1 [] [] s (by omega) (Nat.zero_le _) M1 (fun x=>by simp) ⟨fun a ha=>by simp at ha,by simp⟩ rfl;simp only [List.map_nil,dZ,hsl]at L2;have hle:i≤e:=(by omega);have hsr:s.row=[.slice (s.ah.map aG), .slice (s.ao.map aF.row), .slice (s.ae.map br.row)]:=rfl;rw [hsr]at O;apply aw;conv=>arg 4;whnf
    simp [hia];refine L1 _ ?_;clear L1;have gF3:(iI false r s out).get 3=some (aA r):=(by unfold iI;rw [bu (by decide)];rfl);have gF4:(iI false r s out).get 4=some (mq s):=(by unfold iI;rw [bu (by decide)];rfl);have iF4: ∀x,(iI false r s out).ins 4 (mq x)=iI false r x out:=fun x=>(by unfold iI;rw [pB (by decide)];rfl);have iF4n: ∀x,(iI false r s out).ins 4 (pT x)=iI true r x out:=fun x=>(by unfold iI;rw [pB (by decide)];rfl);simp only [mq]at gF4 iF4;simp only [pT]at iF4n;simp only [E5]at hB1;simp only [KG]at O;generalize hRF:iI false r s out=RF at O L2 gF3 gF4 iF4 iF4n⊢;simp [ne1,ne2,gF4,O,b0_12,Fr.bp,Fr.iB,hB1];refine L2 _ (fun he B' bs' M'=> ?_) (fun he B'=> ?_)
    ·clear L2;rw [hsh.2.1]at he;obtain⟨hG,hx1⟩:=hgood he;obtain⟨x1,x2,x3⟩:=m;simp only at he hx1 h1 h2 hsh;subst he;rw [hsh.1]at M';have hS1:jd r x1:=(by rw [hx1];exact hG.snd hS);have hF1:=zN hS hS1 hF;simp only [ne_eq,not_true_eq_false,if_false]at h1 h2;have edr:(a::ai.drop (i+1)).drop gr.length=ai.drop (i+gr.length):=(by rw [←ed,List.drop_drop]);rw [edr,hee]at h1 h2;have ihb:=fun b' hb'=>ih e b' x1 (out++[x1]) (by omega) hgl (by simp;omega) hS1 hF1 hb' (fun h=>by rw [List.append_assoc];exact h1 h) (fun h=>h2 h);have tq:=M'.tq;obtain⟨v1,a1,b1⟩:=M'.sc.h1;obtain⟨v2,a2,b2⟩:=M'.sc.h2;have h3:=M'.sc.h3;have G21: ∀x,(B'.ins xt x).get vd=B'.get vd:=fun x=>Fr.ax _ (by decide) _;have G31: ∀x y,((B'.ins xt x).ins vd y).get xI=B'.get xI:=fun x y=>(by rw [Fr.ax _ (by decide),Fr.ax _ (by decide)]);have t1:List.take x1.ah.length (x1.ah.map aG)=x1.ah.map aG:=List.take_of_length_le (by simp);have t2:List.take x1.ao.length (x1.ao.map aF.row)=x1.ao.map aF.row:=List.take_of_length_le (by simp);have t3:List.take x1.ae.length (x1.ae.map br.row)=x1.ae.map br.row:=List.take_of_length_le (by simp);simp only [E5]at tq;by_cases t0:x1.ae=[]
     ·have ih':=ihb true (fun _=>t0);have AP:=fun(f0:Fr)=>vn (H:=H) (l:=H.length) (key:=92) (es:=3) (bytes:=72) (rows:=out.map ay.row) (r:=x1.row) (fr:=[(3,aA r),(4,pT x1)]) (f0:=f0) rfl rfl (by simp;omega);have gx4:(iI true r x1 out).get 4=some (pT x1):=(by unfold iI;rw [bu (by decide)];rfl);have eqF: ∀f0:Fr,f0::dS 92 3 (out.map ay.row++[x1.row]) [(3,aA r),(4,pT x1)]::H=f0::iI true r x1 (out++[x1])::H:=fun f0=>(by simp [iI,zZ]);have eqF0: ∀f0:Fr,f0::dS 92 3 (out.map ay.row) [(3,aA r),(4,pT x1)]::H=f0::iI true r x1 out::H:=fun f0=>(by simp [iI,zZ]);simp only [eqF,eqF0]at AP;simp only [ay.row]at AP;simp only [pT]at gx4;have iF4':=iF4n x1;simp only [t0,List.map_nil,dZ]at tq AP;simp [ne1,ne2,ne3,tq,b1,b2,a1,a2,G21,t1,t2,gF4,aE,iF4',gx4,AP];simpa [ay.row,t0]using ih'
     ·obtain⟨v3,a3,b3⟩:=h3 t0;have ih':=ihb false (fun h=>by cases h);have AP:=fun(f0:Fr)=>vn (H:=H) (l:=H.length) (key:=92) (es:=3) (bytes:=72) (rows:=out.map ay.row) (r:=x1.row) (fr:=[(3,aA r),(4,mq x1)]) (f0:=f0) rfl rfl (by simp;omega);have gx4:(iI false r x1 out).get 4=some (mq x1):=(by unfold iI;rw [bu (by decide)];rfl);have eqF: ∀f0:Fr,f0::dS 92 3 (out.map ay.row++[x1.row]) [(3,aA r),(4,mq x1)]::H=f0::iI false r x1 (out++[x1])::H:=fun f0=>(by simp [iI,zZ]);have eqF0: ∀f0:Fr,f0::dS 92 3 (out.map ay.row) [(3,aA r),(4,mq x1)]::H=f0::iI false r x1 out::H:=fun f0=>(by simp [iI,zZ]);simp only [eqF,eqF0]at AP;simp only [ay.row]at AP;simp only [mq]at gx4;have iF4':=iF4 x1;have eS:cv (H.length+1,xI) 2 (x1.ae.map br.row)= .aW (H.length+1,xI) 2 x1.ae.length 0 x1.ae.length:=by
       unfold cv;rw [if_neg (by simpa using t0)];simp
      rw [eS]at tq;simp [ne1,ne2,ne3,tq,b1,b2,b3,a1,a2,a3,G21,G31,t1,t2,t3,gF4,aE,iF4',gx4,AP];simpa [ay.row]using ih'
    ·clear L2;rw [hsh.2.1]at he;rw [hsh.2.1,hsh.2.2 he];have he':m.2.2≠0:=he;rw [if_pos he']at h2;have h2':=h2 he';simp only at h2';rw [Int.add_comm]at h2';simp [ne1,ne2];exact h2' _ _
   |true=>
    have hst:=hb rfl;have L2:=fun Q=>DS (H:=H) hS hW hF (o:=cv (H.length,92) 3 (out.map ay.row)) (F:=iI true r s out) (by unfold iI;rw [bu (by decide)];rfl) hst (by unfold iI;rw [bu (by decide)];rfl) ai hal hA e hgl (fun f3 f2 f1=>by simp) (fun f2 f1=>by simp) Q gr.length i B1 [] [] s (by omega) (Nat.zero_le _) M1 (fun x=>by simp) ⟨fun a ha=>by simp at ha,by simp⟩ rfl;simp only [List.map_nil,dZ,hsl]at L2;have hle:i≤e:=(by omega);have hsr:s.row=[.slice (s.ah.map aG), .slice (s.ao.map aF.row), .slice (s.ae.map br.row)]:=rfl;rw [hsr]at O;simp only [hst,List.map_nil]at O;have O:=(aev (c:=42) (f:=50) (by rfl)).trans O;apply aw;conv=>arg 4;whnf
    simp [hia];refine L1 _ ?_;clear L1;have gF3:(iI true r s out).get 3=some (aA r):=(by unfold iI;rw [bu (by decide)];rfl);have gF4:(iI true r s out).get 4=some (pT s):=(by unfold iI;rw [bu (by decide)];rfl);have iF4: ∀x,(iI true r s out).ins 4 (mq x)=iI false r x out:=fun x=>(by unfold iI;rw [pB (by decide)];rfl);have iF4n: ∀x,(iI true r s out).ins 4 (pT x)=iI true r x out:=fun x=>(by unfold iI;rw [pB (by decide)];rfl);simp only [mq]at iF4;simp only [pT]at gF4 iF4n;simp only [E5]at hB1;simp only [KG]at O;generalize hRF:iI true r s out=RF at O L2 gF3 gF4 iF4 iF4n⊢;simp [ne1,ne2,gF4,O,b0_12,Fr.bp,Fr.iB,hB1];refine L2 _ (fun he B' bs' M'=> ?_) (fun he B'=> ?_)
    ·clear L2;rw [hsh.2.1]at he;obtain⟨hG,hx1⟩:=hgood he;obtain⟨x1,x2,x3⟩:=m;simp only at he hx1 h1 h2 hsh;subst he;rw [hsh.1]at M';have hS1:jd r x1:=(by rw [hx1];exact hG.snd hS);have hF1:=zN hS hS1 hF;simp only [ne_eq,not_true_eq_false,if_false]at h1 h2;have edr:(a::ai.drop (i+1)).drop gr.length=ai.drop (i+gr.length):=(by rw [←ed,List.drop_drop]);rw [edr,hee]at h1 h2;have ihb:=fun b' hb'=>ih e b' x1 (out++[x1]) (by omega) hgl (by simp;omega) hS1 hF1 hb' (fun h=>by rw [List.append_assoc];exact h1 h) (fun h=>h2 h);have tq:=M'.tq;obtain⟨v1,a1,b1⟩:=M'.sc.h1;obtain⟨v2,a2,b2⟩:=M'.sc.h2;have h3:=M'.sc.h3;have G21: ∀x,(B'.ins xt x).get vd=B'.get vd:=fun x=>Fr.ax _ (by decide) _;have G31: ∀x y,((B'.ins xt x).ins vd y).get xI=B'.get xI:=fun x y=>(by rw [Fr.ax _ (by decide),Fr.ax _ (by decide)]);have t1:List.take x1.ah.length (x1.ah.map aG)=x1.ah.map aG:=List.take_of_length_le (by simp);have t2:List.take x1.ao.length (x1.ao.map aF.row)=x1.ao.map aF.row:=List.take_of_length_le (by simp);have t3:List.take x1.ae.length (x1.ae.map br.row)=x1.ae.map br.row:=List.take_of_length_le (by simp);simp only [E5]at tq;by_cases t0:x1.ae=[]
     ·have ih':=ihb true (fun _=>t0);have AP:=fun(f0:Fr)=>vn (H:=H) (l:=H.length) (key:=92) (es:=3) (bytes:=72) (rows:=out.map ay.row) (r:=x1.row) (fr:=[(3,aA r),(4,pT x1)]) (f0:=f0) rfl rfl (by simp;omega);have gx4:(iI true r x1 out).get 4=some (pT x1):=(by unfold iI;rw [bu (by decide)];rfl);have eqF: ∀f0:Fr,f0::dS 92 3 (out.map ay.row++[x1.row]) [(3,aA r),(4,pT x1)]::H=f0::iI true r x1 (out++[x1])::H:=fun f0=>(by simp [iI,zZ]);have eqF0: ∀f0:Fr,f0::dS 92 3 (out.map ay.row) [(3,aA r),(4,pT x1)]::H=f0::iI true r x1 out::H:=fun f0=>(by simp [iI,zZ]);simp only [eqF,eqF0]at AP;simp only [ay.row]at AP;simp only [pT]at gx4;have iF4':=iF4n x1;simp only [t0,List.map_nil,dZ]at tq AP;simp [ne1,ne2,ne3,tq,b1,b2,a1,a2,G21,t1,t2,gF4,aE,iF4',gx4,AP];simpa [ay.row,t0]using ih'
     ·obtain⟨v3,a3,b3⟩:=h3 t0;have ih':=ihb false (fun h=>by cases h);have AP:=fun(f0:Fr)=>vn (H:=H) (l:=H.length) (key:=92) (es:=3) (bytes:=72) (rows:=out.map ay.row) (r:=x1.row) (fr:=[(3,aA r),(4,mq x1)]) (f0:=f0) rfl rfl (by simp;omega);have gx4:(iI false r x1 out).get 4=some (mq x1):=(by unfold iI;rw [bu (by decide)];rfl);have eqF: ∀f0:Fr,f0::dS 92 3 (out.map ay.row++[x1.row]) [(3,aA r),(4,mq x1)]::H=f0::iI false r x1 (out++[x1])::H:=fun f0=>(by simp [iI,zZ]);have eqF0: ∀f0:Fr,f0::dS 92 3 (out.map ay.row) [(3,aA r),(4,mq x1)]::H=f0::iI false r x1 out::H:=fun f0=>(by simp [iI,zZ]);simp only [eqF,eqF0]at AP;simp only [ay.row]at AP;simp only [mq]at gx4;have iF4':=iF4 x1;have eS:cv (H.length+1,xI) 2 (x1.ae.map br.row)= .aW (H.length+1,xI) 2 x1.ae.length 0 x1.ae.length:=by
       unfold cv;rw [if_neg (by simpa using t0)];simp
      rw [eS]at tq;simp [ne1,ne2,ne3,tq,b1,b2,b3,a1,a2,a3,G21,G31,t1,t2,t3,gF4,aE,iF4',gx4,AP];simpa [ay.row]using ih'
    ·clear L2;rw [hsh.2.1]at he;rw [hsh.2.1,hsh.2.2 he];have he':m.2.2≠0:=he;rw [if_pos he']at h2;have h2':=h2 he';simp only at h2';rw [Int.add_comm]at h2';simp [ne1,ne2];exact h2' _ _
  ·have e:ai.drop i=[]:=List.drop_of_length_le (by omega);rw [e]at h1;apply aw;conv=>arg 4;whnf
   simp [cj]at h1;simp [hia]
   cases b with
   |true=>simpa using h1.2
   |false=>simpa using h1.1
end
section
variable {c:Nat} {H:aj}
theorem DT (r:aH)(s:ay)(hn:s.ao.length≤1000000)(Q:GX→bP→Prop): ∀k i:Nat,i+k=s.ao.length→
  ((∀j,i≤j→j<s.ao.length→s.ao.getD j bH=empty)→Q (.exit 0) ⟨[(2, .aD (H.length,2) 0),(3, .aD (H.length,3) 0),(4,aP)],[(2,aA r),(3,mq s)]::H,47⟩)→
  (¬(∀j,i≤j→j<s.ao.length→s.ao.getD j bH=empty)→Q .ret ⟨[(2, .aD (H.length,2) 0),(3, .aD (H.length,3) 0),(4, .pure (.bool false))],[(2,aA r),(3,mq s)]::H,47⟩)→
  fL KC au 98 (lp Tryz.f98 0) [2,3,5] [2,3,4] Q [(2, .aD (H.length,2) 0),(3, .aD (H.length,3) 0),(5, .pure (.int .i64 i))] ([(2,aA r),(3,mq s)]::H) 47:=by
 intro k
 induction k with
 |zero=>
  intro i hi h1 h2;apply aw;conv=>arg 4;whnf
  have: ¬i<s.ao.length:=(by omega);simp [this,aA,mq];simpa [aA,mq]using h1 (fun j a b=>by omega)
 |succ k ih=>
  intro i hi h1 h2;have hia:i<s.ao.length:=(by omega);have hw:=cu (x:=(i:Int)+1) (by omega) (by omega);have hg:=bc (d:=bH) hia;apply aw;conv=>arg 4;whnf
  by_cases e1:s.ao[i].l= -1
  ·by_cases e2:s.ao[i].r= -1
   ·have he:s.ao.getD i bH=empty:=(by rw [hg];cases hh:s.ao[i];rw [hh]at e1 e2;simp only at e1 e2;rw [e1,e2];rfl);have ih':=ih (i+1) (by omega) (fun h=>h1 fun j a b=>by
     by_cases e:j=i
     ·rw [e];exact he
     ·exact h j (by omega) b) (fun h=>h2 fun h'=>h fun j a b=>h' j (by omega) b)
    simp [hia,aF.row,hw,aA,mq,e1,e2];simpa [aF.row,aA,mq]using ih'
   ·have e2':(s.ao[i].r== -1)=false:=(by simpa using e2);simp [hia,aF.row,aA,mq,e1,e2'];simpa [aA,mq]using h2 fun h'=>by
     have:=h' i (Nat.le_refl _) hia;rw [hg]at this;rw [this]at e2;exact e2 rfl
  ·have e1':(s.ao[i].l== -1)=false:=(by simpa using e1);simp [hia,aF.row,aA,mq,e1'];simpa [aA,mq]using h2 fun h'=>by
    have:=h' i (Nat.le_refl _) hia;rw [hg]at this;rw [this]at e1;exact e1 rfl
theorem DU (r:aH)(s:ay)(hn:r.ae.length≤1000000)(hst:s.ae.length=r.ae.length)(Q:GX→bP→Prop): ∀k i:Nat,i+k=r.ae.length→
  ((∀j,i≤j→j<r.ae.length→s.ae.getD j aU=⟨(r.ae.getD j cF).home,(r.ae.getD j cF).want⟩)→Q (.exit 2) ⟨[(4,aP)],[(2,aA r),(3,mq s)]::H,47⟩)→
  (¬(∀j,i≤j→j<r.ae.length→s.ae.getD j aU=⟨(r.ae.getD j cF).home,(r.ae.getD j cF).want⟩)→Q .ret ⟨[(4, .pure (.bool false))],[(2,aA r),(3,mq s)]::H,47⟩)→
  fL KC au 98 (lp Tryz.f98 1) [2,3,6] [4] Q [(2, .aD (H.length,2) 0),(3, .aD (H.length,3) 0),(6, .pure (.int .i64 i))] ([(2,aA r),(3,mq s)]::H) 47:=by
 intro k
 induction k with
 |zero=>
  intro i hi h1 h2;apply aw;conv=>arg 4;whnf
  have: ¬i<r.ae.length:=(by omega);simp [this,aA,mq];simpa [aA,mq]using h1 (fun j a b=>by omega)
 |succ k ih=>
  intro i hi h1 h2;have hia:i<r.ae.length:=(by omega);have his:i<s.ae.length:=(by omega);have hw:=cu (x:=(i:Int)+1) (by omega) (by omega);have hg:=bc (d:=cF) hia;have hg2:=bc (d:=aU) his;apply aw;conv=>arg 4;whnf
  by_cases e1:s.ae[i].cell=r.ae[i].home
  ·by_cases e2:s.ae[i].state=r.ae[i].want
   ·have he:s.ae.getD i aU=⟨(r.ae.getD i cF).home,(r.ae.getD i cF).want⟩:=(by rw [hg,hg2,←e1,←e2]);have ih':=ih (i+1) (by omega) (fun h=>h1 fun j a b=>by
     by_cases e:j=i
     ·rw [e];exact he
     ·exact h j (by omega) b) (fun h=>h2 fun h'=>h fun j a b=>h' j (by omega) b)
    simp [hia,his,aV.row,br.row,hw,aA,mq,e1,e2];simpa [aV.row,br.row,aA,mq]using ih'
   ·have e2':(s.ae[i].state==r.ae[i].want)=false:=(by simpa using e2);simp [hia,his,aV.row,br.row,aA,mq,e1,e2'];simpa [aA,mq]using h2 fun h'=>by
     have:=h' i (Nat.le_refl _) hia;rw [hg,hg2]at this;rw [this]at e2;exact e2 rfl
  ·have e1':(s.ae[i].cell==r.ae[i].home)=false:=(by simpa using e1);simp [hia,his,aV.row,br.row,aA,mq,e1'];simpa [aA,mq]using h2 fun h'=>by
    have:=h' i (Nat.le_refl _) hia;rw [hg,hg2]at this;rw [this]at e1;exact e1 rfl
theorem uz (r:aH)(s:ay)(hn:r.ae.length≤1000000)(hn2:s.ao.length≤1000000)(hst:s.ae.length=r.ae.length)(hH:0<H.length):
  aI KC (aC KC) 98 [.pure (.agg r.row), .pure (.agg s.row)] c H=some (.pure (.bool (mK r s)),H):=by
 refine dq rfl rfl rfl rfl rfl hH fun H hH=> ?_;refine aN (aJ KC au Tryz.func98 rfl rfl VW (by simp) hH ?_);have hd:=BW r s;have eh:(∀j,0≤j→j<s.ao.length→s.ao.getD j bH=empty)↔OG s:=by
  unfold OG;constructor
  ·intro h;refine List.ext_getElem (by simp) fun j h1 h2=> ?_;have:=h j (Nat.zero_le _) h1;rw [bc h1]at this;simp [this]
  ·intro h j _ hj;rw [bc hj];have:s.ao[j]'hj=(s.ao.map fun _=>empty)[j]'(by simpa using hj):=(by congr 1);rw [this];simp
 have et:(∀j,0≤j→j<r.ae.length→s.ae.getD j aU=⟨(r.ae.getD j cF).home,(r.ae.getD j cF).want⟩)↔ab1 r s:=⟨fun h i hi=>h i (Nat.zero_le _) hi,fun h i _ hi=>h i hi⟩;have L1:=fun Q=>DT (H:=H) r s hn2 Q s.ao.length 0 (by omega);rw [eh]at L1;have L2:=fun Q=>DU (H:=H) r s hn hst Q r.ae.length 0 (by omega);rw [et]at L2;rw [cQ];unfold ay.row;simp;simp [aA,mq]at L1 L2;refine L1 _ (fun h=> ?_) (fun h=> ?_)
 ·simp;refine L2 _ (fun h2=> ?_) (fun h2=> ?_)
  ·have:mK r s=true:=(by rw [hd,decide_eq_true (p:=s.ao=s.ao.map fun _=>empty) h,Bool.true_and];exact decide_eq_true (p:= ∀i,i<r.ae.length→s.ae.getD i aU=⟨(r.ae.getD i cF).home,(r.ae.getD i cF).want⟩) h2);simp [aa,this]
  ·have:mK r s=false:=by
    rw [hd,Bool.and_eq_false_iff];right;exact decide_eq_false (p:= ∀i,i<r.ae.length→s.ae.getD i aU=⟨(r.ae.getD i cF).home,(r.ae.getD i cF).want⟩) h2
   simp [aa,this]
 ·have:mK r s=false:=by
   rw [hd,Bool.and_eq_false_iff];left;exact decide_eq_false (p:=s.ao=s.ao.map fun _=>empty) h
  simp [aa,this]
theorem DV (r:aH) (hp0:r.ah≠[]) (ht0:r.ae=[]) (hpl:r.ah.length≤1000000) (htl:r.ae.length≤1000000) (hH:0<H.length)
  (hf1:H.get (H.length-1,aq c 22)=none) (hf2:H.get (H.length-1,aq c 27)=none):
  bM KC (aC KC) 48 [.pure (.agg r.row)] c H=some (.agg [.aW (H.length-1,aq c 22) 1 (az r).ah.length 0 (az r).ah.length, .aW (H.length-1,aq c 27) 2 (az r).ao.length 0 (az r).ao.length, .aS],
   ((H.set (H.length-1,aq c 22) (.arr 1 ((az r).ah.map aG) 0 false)).set (H.length-1,aq c 27) (.arr 2 ((az r).ao.map aF.row) 0 false))):=by
 refine aN (aJ KC au Tryz.func48 rfl rfl I7 (by simp) hH ?_);rw [cQ];have lp0:0<r.ah.length:=List.length_pos_iff.2 hp0;have kx:aq c 22≠aq c 27:=(by unfold aq;omega);have L1:=fun Q=>uA (H:=H) r hpl Q (r.ah.length-1) 1 [r.ah[0].cell] [empty] (by omega) rfl rfl (by omega);have ep:r.ah[0].cell::(r.ah.drop 1).map (fun p=>p.cell)=r.ah.map (fun p=>p.cell):=pf (fun p:aQ=>p.cell) r.ah lp0;have eh:empty::((r.ah.drop 1).map fun _=>empty)=r.ah.map fun _=>empty:=pf (fun _:aQ=>empty) r.ah lp0;simp only [List.singleton_append,ep,eh]at L1;simp [OH,aA,aG,aF.row,empty]at L1;simp;apply aw;conv=>arg 4;whnf
 simp [lp0,aQ.row];refine L1 _ ?_;clear L1;simp;apply aw;conv=>arg 4;whnf
 simp [OH,aA,ht0];have k1:(H.length-1,aq c 27)≠((H.length-1,aq c 22):Nm):=fun e=>kx (Prod.mk.inj e).2.symm;have g2: ∀b,(H.set (H.length-1,aq c 22) b).get (H.length-1,aq c 27)=none:=fun b=>(aj.aL b k1).trans hf2;simp [bO,refs,dE,cV,b8,dc,df,dedup,cA,bV,ry,hf1,g2,sK,jj,gJ,az,ht0,dm,bG,aG,aF.row,empty,br.row,gv]
theorem DW {rg:GV} (r:aH) (hR:nd H rg (.agg r.row)) (hp0:r.ah≠[]) (ht0:r.ae=[]) (hpl:r.ah.length≤1000000) (htl:r.ae.length≤1000000) (hH:0<H.length)
  (hf1:H.get (H.length-1,aq c 22)=none) (hf2:H.get (H.length-1,aq c 27)=none):
  aI KC (aC KC) 48 [rg] c H=some (.agg [.aW (H.length-1,aq c 22) 1 (az r).ah.length 0 (az r).ah.length, .aW (H.length-1,aq c 27) 2 (az r).ao.length 0 (az r).ao.length, .aS],
   (H.set (H.length-1,aq c 22) (.arr 1 ((az r).ah.map aG) 0 false)).set (H.length-1,aq c 27) (.arr 2 ((az r).ao.map aF.row) 0 false)):=by
 rw [pE KC rfl rfl,Th hR];have F:=DV (c:=c) (H:=fY H) r hp0 ht0 hpl htl (by rw [cP];exact hH) (jL _ _) (jL _ _);simp only [cP]at F;have hL:H.length-1<(fY H).length:=(by rw [cP];omega);have hL':H.length-1<H.length:=(by omega);have kx:aq c 22≠aq c 27:=(by unfold aq;omega);have k1:(H.length-1,aq c 27)≠((H.length-1,aq c 22):Nm):=fun e=>kx (Prod.mk.inj e).2.symm;generalize hE:(((fY H).set (H.length-1,aq c 22) (.arr 1 ((az r).ah.map aG) 0 false)).set (H.length-1,aq c 27) (.arr 2 ((az r).ao.map aF.row) 0 false))=E at F;have q1:E.get (H.length-1,aq c 22)=some (.arr 1 ((az r).ah.map aG) 0 false):=(by rw [←hE,aj.aL _ k1.symm];exact aj.fZ hL);have q2:E.get (H.length-1,aq c 27)=some (.arr 2 ((az r).ao.map aF.row) 0 false):=(by rw [←hE];exact aj.fZ (by rw [aj.length_set];exact hL));have g2: ∀b,(H.set (H.length-1,aq c 22) b).get (H.length-1,aq c 27)=none:=fun b=>(aj.aL b k1).trans hf2;have fr1: ∀l:List Int,eQ (l.map aG)=true:=fun l=>by induction l with|nil=>rfl|cons a l ih=>simp [eQ,ki,iK,aG,ih]
 have fr2: ∀l:List aF,eQ (l.map aF.row)=true:=fun l=>by induction l with|nil=>rfl|cons a l ih=>simp [eQ,ki,iK,aF.row,ih]
 unfold iu;simp [mb,F,kF,tJ,qu,xX,ou,nR,refs,dE,cV,dedup,kG,kx,kx.symm,q1,q2,hf1,g2,fr1,fr2]
end
theorem E8 {w d:Int}(h1:1≤w*d)(h2:w*d≤1000000):b9 w d=w*d-1:=by
 rw [wL,cu (x:=w*d) (by omega) (by omega),cu (x:=w*d-1) (by omega) (by omega)]
theorem jA {g:Nat→Int}: ∀{k i:Nat},bC g k i=0→ ∀j,i≤j→j<i+k→g j=0
 |0,_,_=>fun j a b=>by omega
 |k+1,i,h=>fun j a b=>by
  unfold bC at h;by_cases h0:g i=0
  ·by_cases e:j=i
   ·rw [e];exact h0
   ·refine jA (k:=k) (i:=i+1) ?_ j (by omega) (by omega);simpa [h0]using h
  ·simp [h0]at h
theorem iD {x lo hi:Int}(h:cE x lo hi≠false):lo≤x∧x≤hi:=by
 cases e:cE x lo hi with
 |false=>exact absurd e h
 |true=>exact sk.1 e
theorem cD {p:Prop} [Decidable p]{a b:Int}(ha:a≠0)(h:(if p then a else b)=0): ¬p∧b=0:=by
 by_cases hp:p
 ·rw [if_pos hp]at h;exact absurd h ha
 ·rw [if_neg hp]at h;exact⟨hp,h⟩
theorem ite_self {a b:Int}(h:(if a≠0 then a else b)=0):a=0∧b=0:=by
 by_cases hp:a≠0
 ·rw [if_pos hp]at h;exact absurd h hp
 ·rw [if_neg hp]at h;exact⟨by simpa using hp,h⟩
structure wR (r:aH):Prop where
 w:1≤r.wide∧r.wide≤6
 d:1≤r.deep∧r.deep≤6
 p0:r.ah≠[]
 p4:r.ah.length≤4
 t8:r.ae.length≤8
 pc: ∀p∈r.ah,0≤p.cell∧p.cell<r.wide*r.deep
 pn:(r.ah.map (·.cell)).Nodup
 tc: ∀t∈r.ae,(0≤t.cell∧t.cell<r.wide*r.deep)∧0≤t.state∧t.state<16
 ls: ∀x∈r.aY,1≤x∧x≤3
theorem wR.ab2 {r:aH}(h:wR r):1≤r.wide*r.deep∧r.wide*r.deep≤36:=by
 have h1:=h.w;have h2:=h.d;constructor
 ·have:=Int.mul_le_mul h1.1 h2.1 (by omega) (by omega);omega
 ·have:=Int.mul_le_mul h1.2 h2.2 (by omega) (by omega);omega
theorem OI {r:aH}(h:o8 r=0):wR r:=by
 rw [tn]at h;obtain⟨h1,h⟩:=cD (by decide) h;obtain⟨h2,h⟩:=cD (by decide) h;obtain⟨h3,h⟩:=cD (by decide) h;obtain⟨h4,h⟩:=ite_self h;obtain⟨h5,h⟩:=cD (by decide) h;obtain⟨h6,h⟩:=ite_self h;obtain⟨h7,h8⟩:=ite_self h;have w:=iD (fun e=>h1 (.inl e));have d:=iD (fun e=>h1 (.inr e));have ar:1≤r.wide*r.deep∧r.wide*r.deep≤36:=by
  constructor
  ·have:=Int.mul_le_mul w.1 d.1 (by omega) (by omega);omega
  ·have:=Int.mul_le_mul w.2 d.2 (by omega) (by omega);omega
 have top:b9 r.wide r.deep=r.wide*r.deep-1:=E8 ar.1 (by omega);rw [top]at h4 h6;have P: ∀j (hj:j<r.ah.length),(0≤r.ah[j].cell∧r.ah[j].cell<r.wide*r.deep)∧da r.ah j r.ah[j].cell=false:=fun j hj=>by
  have e:=jA h4 j (Nat.zero_le _) (by omega);rw [o7,bc hj]at e;obtain⟨_,e⟩:=cD (by decide) e;obtain⟨e2,e⟩:=cD (by decide) e;obtain⟨e3,_⟩:=cD (by decide) e;have:=iD e2;exact⟨⟨this.1,by omega⟩,by simpa using e3⟩
 refine⟨w,d,fun e=>h2 (by rw [e];rfl),by omega,by omega,fun p hp=> ?_, ?_,fun t ht=> ?_,fun x hx=> ?_⟩
 ·obtain⟨j,hj,rfl⟩:=List.getElem_of_mem hp;exact(P j hj).1
 ·rw [List.Nodup,List.pairwise_iff_getElem];intro i j hi hj hij;simp only [List.length_map]at hi hj;simp only [List.getElem_map];intro e;have:=(P j hj).2;unfold da at this;rw [List.any_eq_false]at this;exact this r.ah[i] (List.mem_take_iff_getElem.2 ⟨i,by omega,rfl⟩) (by simpa using e)
 ·obtain⟨j,hj,rfl⟩:=List.getElem_of_mem ht;have e:=jA h6 j (Nat.zero_le _) (by omega);rw [qX,bc hj]at e;obtain⟨e1,e⟩:=cD (by decide) e;obtain⟨e2,_⟩:=cD (by decide) e;have a:=iD (fun x=>e1 (.inl x));have b:=iD (fun x=>e2 (.inl x));exact⟨⟨a.1,by omega⟩,b.1,by omega⟩
 ·obtain⟨j,hj,rfl⟩:=List.getElem_of_mem hx;have e:=jA h8 j (Nat.zero_le _) (by omega);rw [sm,bc hj]at e;obtain⟨e1,_⟩:=cD (by decide) e;exact iD e1
theorem OJ {r:aH}(h:wR r){a:ak}(hw:0≤a.aO∧a.aO<r.ah.length)(hf:dh (b9 r.wide r.deep) r.ae.length r.ah.length a=0):AB r a.aO.toNat a:=by
 have ar:=h.ab2;rw [E8 ar.1 (by omega),o9]at hf;obtain⟨h1,hf⟩:=cD (by decide) hf;obtain⟨h2,hf⟩:=cD (by decide) hf;obtain⟨h3,hf⟩:=cD (by decide) hf;obtain⟨h4,hf⟩:=cD (by decide) hf;obtain⟨h5,hf⟩:=cD (by decide) hf;obtain⟨h6,hf⟩:=cD (by decide) hf;obtain⟨h7,_⟩:=cD (by decide) hf;have k:=iD h1;have hd:=iD h4;refine⟨by omega,by omega,by omega,k,fun e=> ?_,fun e=> ?_,fun e=> ?_,by simpa using h2⟩
 ·have:=iD (fun x=>h5 ⟨e,x⟩);exact⟨a.a9.toNat,by omega,by omega⟩
 ·have:=iD (fun x=>h6 ⟨e,x⟩);have h7': ¬a.other=a.aO:=fun x=>h7 ⟨e,x⟩;exact⟨a.other.toNat,by omega,by omega,by omega⟩
 ·have:=iD (fun x=>h3 ⟨e,x⟩);exact⟨this.1,by omega⟩
structure ab3 (r:aH):Prop where
 n:r.ai.length≤40
 ab: ∀a∈r.ai,AB r a.aO.toNat a
 tm: ∀a∈r.ai,0≤a.aR∧a.aR≤1000
 pw:r.ai.Pairwise fun a b=>a.aR≤b.aR∧(a.aR=b.aR→a.aO≠b.aO)
theorem E9 {r:aH}(h:dG r=0):wR r∧ab3 r:=by
 rw [qY]at h;obtain⟨h1,h⟩:=ite_self h;obtain⟨h2,h⟩:=cD (by decide) h;have R:=OI h1;have A: ∀j (hj:j<r.ai.length),AB r r.ai[j].aO.toNat r.ai[j]∧(0≤r.ai[j].aR∧r.ai[j].aR≤1000)∧(0<j→(r.ai.getD (j-1) cn).aR≤r.ai[j].aR)∧(r.ai.take j).any (fl r.ai[j])=false:=fun j hj=>by
  have e:=jA h j (Nat.zero_le _) (by omega);rw [wS,bc hj]at e;obtain⟨e1,e⟩:=cD (by decide) e;obtain⟨e2,e⟩:=cD (by decide) e;obtain⟨e3,e⟩:=cD (by decide) e;obtain⟨e4,e⟩:=cD (by decide) e;obtain⟨e5,e⟩:=ite_self e;have w:=iD e3;refine⟨OJ R ⟨w.1,by omega⟩ e5,iD e1,fun h0=> ?_,by simpa using e4⟩;have: ¬r.ai[j].aR<(r.ai.getD (j-1) cn).aR:=fun x=>e2 ⟨h0,x⟩;omega
 have mono: ∀i j (hi:i<r.ai.length) (hj:j<r.ai.length),i<j→r.ai[i].aR≤r.ai[j].aR:=fun i j=>by
  induction j with
  |zero=>intro _ _ h;omega
  |succ j ih=>
   intro hi hj hij;have s:=(A (j+1) hj).2.2.1 (by omega);rw [Nat.add_sub_cancel,bc (by omega)]at s;by_cases e:i=j
   ·subst e;exact s
   ·have:=ih hi (by omega) (by omega);omega
 refine⟨R,by omega,fun a ha=> ?_,fun a ha=> ?_, ?_⟩
 ·obtain⟨j,hj,rfl⟩:=List.getElem_of_mem ha;exact(A j hj).1
 ·obtain⟨j,hj,rfl⟩:=List.getElem_of_mem ha;exact(A j hj).2.1
 ·rw [List.pairwise_iff_getElem];intro i j hi hj hij;refine⟨mono i j hi hj hij,fun e1 e2=> ?_⟩;have:=(A j hj).2.2.2;rw [List.any_eq_false]at this;refine this r.ai[i] (List.mem_take_iff_getElem.2 ⟨i,by omega,rfl⟩) ?_;unfold fl;simp [e1,e2]
theorem DX {r:aH}(h:wR r):jd r (az r):=by
 have ce: ∀l:List aQ,∀t:Nat,kj (l.map fun _=>empty) t=0:=fun l t=>by
  induction l with
  |nil=>rfl
  |cons a l ih=>
   have: ¬(-1:Int)=t:=(by omega);simp only [List.map_cons,kj,ih];simp [zh,empty,this]
 refine {pl:=by simp [az],hl:=by simp [az],tl:=by simp [az],hr:=fun i hi=> ?_,pr:=fun x hx=> ?_,pn:=h.pn,th:=fun t ht=> ?_,st:=fun t ht=> ?_}
 ·simp only [az,List.getElem_map,empty,List.length_map];omega
 ·simp only [az,List.mem_map]at hx;obtain⟨p,hp,rfl⟩:=hx;exact h.pc p hp
 ·have ht':t<r.ae.length:=(by simpa [az]using ht);have e:((az r).ae.getD t aU)=gv r.ae[t]:=by
   rw [bc ht];simp [az]
  rw [e];exact .inr ⟨ce _ _,(h.tc _ (List.getElem_mem ht')).1.1,(h.tc _ (List.getElem_mem ht')).1.2⟩
 ·have ht':t<r.ae.length:=(by simpa [az]using ht);have e:((az r).ae.getD t aU)=gv r.ae[t]:=by
   rw [bc ht];simp [az]
  rw [e];exact⟨(h.tc _ (List.getElem_mem ht')).2.1,(h.tc _ (List.getElem_mem ht')).2.2⟩
theorem z8 {r:aH}(h:dG r=0)(sh:eN r):Dv r:=by
 obtain⟨R,A⟩:=E9 h;have ar:=R.ab2;have w:=R.w;have:=R.p4;have:=R.t8;have:=A.n;exact {w:=⟨w.1,by omega,by omega,by omega,by omega⟩,snd:=DX R,p0:=R.p0,al:=by omega,ab:=A.ab,sh:=sh,ck:=h}
section
variable {c:Nat} {H:aj}
noncomputable def Ha (q:List ay×ay×Int×Int):PV:= .tuple (if q.2.2.2=0 then [.slice (q.1.map ay.row), .int .i64 (-1), .int .i64 0]else [.slice [], .int .i64 q.2.2.1, .int .i64 q.2.2.2])
theorem uB {r:aH}(hW:WB r)(ai:List ak)(hal:ai.length≤1000000)(hA: ∀a∈ai,AB r a.aO.toNat a){s:ay}(hS:jd r s)(hF:Full s)(hH:0<H.length):
  bM KC (aC KC) 80 [.pure (.agg r.row), .pure (.agg s.row), .pure (.slice (ai.map ak.row))] c H=some (.pure (Ha (cj r ai.length s ai 0)),H):=by
 refine aN (aJ KC au Tryz.func80 rfl rfl VI (by simp) hH ?_);have L1:=fun Q=>JA (H:=H) hW ai hal hA Q ai.length 0 false s [] (by omega) (by omega) (by simp) hS hF (fun h=>by cases h);simp only [List.drop_zero,List.nil_append]at L1;generalize cj r ai.length s ai 0=q at L1⊢;obtain⟨l,s',aR,e⟩:=q;simp only at L1;unfold Ha;have e0:iI false r s []=[(3,aA r),(4,mq s)]:=rfl;rw [e0]at L1;simp only [List.map_nil,dZ,aA,mq]at L1;rw [cQ];unfold ay.row;simp;refine L1 _ (fun h b'=> ?_) (fun h g F'=> ?_)
 ·subst h;have hnl: ¬H.length≤H.length-1:=(by omega);by_cases hl:l=[]
  ·subst hl;simp [iI,gW,dZ];rw [aa (by simp)];simp
  ·have hr:l.map ay.row≠[]:=(by simpa using hl);have g92:(iI b' r s' l).get 92=some (.arr 3 (l.map ay.row) 0 false):=(by unfold iI;rw [cw hr]);have eS:cv (H.length,92) 3 (l.map ay.row)= .aW (H.length,92) 3 l.length 0 l.length:=(by unfold cv;rw [if_neg hr];simp);have tk:List.take l.length (l.map ay.row)=l.map ay.row:=List.take_of_length_le (by simp);rw [eS];generalize iI b' r s' l=F at g92⊢;simp;rw [aa (by simp)];simp [hnl,g92,tk];exact fun _ _=>rfl
 ·simp;rw [aa (by simp)];simp [h]
theorem tr {r:aH}: ∀(k:Nat) (s:ay) (ai:List ak) (i:Nat),(s::(cj r k s ai i).1).getD (cj r k s ai i).1.length s=(cj r k s ai i).2.1
 |0,s,_,_=>rfl
 |_+1,s,[],_=>rfl
 |k+1,s,a::rest,i=>by
  unfold cj;simp only;split
  ·rfl
  ·rename_i h;have:=tr (r:=r) k (cC r s ((a::rest).takeWhile (bh a)) [] s 0).1 ((a::rest).drop ((a::rest).takeWhile (bh a)).length) (i+((a::rest).takeWhile (bh a)).length);rw [←this];simp [List.getD_eq_getElem?_getD]
def OK (r:aH)(L:Nat)(ro:Bool):Fr:=[(1,aA r),(5, .box [.aW (L,90123) 1 (az r).ah.length 0 (az r).ah.length, .aW (L,110603) 2 (az r).ao.length 0 (az r).ao.length, .aW (L,217099) 2 (az r).ae.length 0 (az r).ae.length]),(90123, .arr 1 ((az r).ah.map aG) 0 ro),(110603, .arr 2 ((az r).ao.map aF.row) 0 ro),(217099, .arr 2 ((az r).ae.map br.row) 0 ro)]
theorem Hb {r:aH}{ro:Bool}:bI (OK r H.length ro::H) [.aW (H.length,90123) 1 (az r).ah.length 0 (az r).ah.length, .aW (H.length,110603) 2 (az r).ao.length 0 (az r).ao.length, .aW (H.length,217099) 2 (az r).ae.length 0 (az r).ae.length]=
  ([.slice ((az r).ah.map aG), .slice ((az r).ao.map aF.row), .slice ((az r).ae.map br.row)],OK r H.length true::H):=by
 have t1:List.take (az r).ah.length ((az r).ah.map aG)=(az r).ah.map aG:=List.take_of_length_le (by simp);have t2:List.take (az r).ao.length ((az r).ao.map aF.row)=(az r).ao.map aF.row:=List.take_of_length_le (by simp);have t3:List.take (az r).ae.length ((az r).ae.map br.row)=(az r).ae.map br.row:=List.take_of_length_le (by simp);simp [bI,OK,t1,t2,t3]
theorem DY {r:aH}(h:yx r):aI KC (aC KC) 80 [.pure (.agg r.row), .agg [.aW (H.length,90123) 1 (az r).ah.length 0 (az r).ah.length, .aW (H.length,110603) 2 (az r).ao.length 0 (az r).ao.length, .aW (H.length,217099) 2 (az r).ae.length 0 (az r).ae.length], .pure (.slice (r.ai.map ak.row))] c (OK r H.length false::H)=
  some (.pure (Ha (cj r r.ai.length (az r) r.ai 0)),OK r H.length true::H):=by
 rw [gR rfl rfl rfl];have t1:List.take (az r).ah.length ((az r).ah.map aG)=(az r).ah.map aG:=List.take_of_length_le (by simp);have t2:List.take (az r).ao.length ((az r).ao.map aF.row)=(az r).ao.map aF.row:=List.take_of_length_le (by simp);have t3:List.take (az r).ae.length ((az r).ae.map br.row)=(az r).ae.map br.row:=List.take_of_length_le (by simp);have e:bm (OK r H.length false::H) [.pure (.agg r.row), .agg [.aW (H.length,90123) 1 (az r).ah.length 0 (az r).ah.length, .aW (H.length,110603) 2 (az r).ao.length 0 (az r).ao.length, .aW (H.length,217099) 2 (az r).ae.length 0 (az r).ae.length], .pure (.slice (r.ai.map ak.row))]=([.pure (.agg r.row), .pure (.agg (az r).row), .pure (.slice (r.ai.map ak.row))],OK r H.length true::H):=by
  simp [bm,dt,fF,dH,OK,t1,t2,t3,ay.row]
 rw [e];exact uB h.w r.ai h.al h.ab h.snd ⟨by simpa [az]using h.p0,by simpa [az]using h.p0,by simp [az];exact h.w.pl,by simp [az];exact h.w.pl,by simp [az];exact h.w.tl⟩ (by simp)
end
end Go.Gh
