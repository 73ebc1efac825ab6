/- Texts joined: the evaluator over ghost values, its soundness, the walks. Spaces struck and names made short by a program, for the size. -/
import Derived.Test.YtkcmcjohoockcaaGc8h
import Derived.Test.YtkcmcjohoockcaaGc8g
import Derived.Test.YtkcmcjohoockcaaGc8f
namespace Go.Gh
open Go.Proofs
set_option linter.unusedVariables false
set_option linter.unusedSimpArgs false
set_option linter.unnecessarySimpa false
set_option maxRecDepth 100000
set_option maxHeartbeats 8000000
section
variable {c:Nat} {H:ae}
theorem Bl {L R:List ai} (hL:L.Pairwise fun a b=>a.aQ≤b.aQ) (hR:R.Pairwise fun a b=>a.aQ≤b.aQ) {i j:Nat} (hi:i≤L.length) (hj:j≤R.length)
  (c1: ∀(h:0<i) (h2:j<R.length),(L[i-1]'(by omega)).aQ≤R[j].aQ) (c2: ∀(h:i<L.length) (h2:0<j),(R[j-1]'(by omega)).aQ<L[i].aQ):
  aP (L++R)=aP (L.take i++R.take j)++aP (L.drop i++R.drop j):=by
 have sp:=fun {T:List ai} (hT:T.Pairwise fun a b=>a.aQ≤b.aQ) (n:Nat)=>(List.pairwise_append.1 (by rw [List.take_append_drop n T];exact hT:(T.take n++T.drop n).Pairwise fun a b=>a.aQ≤b.aQ)).2.2;have:=pX (L1:=L.take i) (L2:=L.drop i) (R1:=R.take j) (R2:=R.drop j) (fun l hl r hr=>by
   obtain⟨p,hp,rfl⟩:=List.getElem_of_mem hl;obtain⟨q,hq,rfl⟩:=List.getElem_of_mem hr;rw [List.length_drop]at hp;rw [List.length_take]at hq;rw [List.getElem_drop,List.getElem_take];have h1:=c2 (by omega) (by omega);have h2:=kV hR (i:=q) (j:=j-1) (by omega) (by omega) (by omega);have h3:=kV hL (i:=i) (j:=i+p) (by omega) (by omega) (by omega);omega) (sp hL i) (sp hR j) (fun l hl r hr=>by
   obtain⟨p,hp,rfl⟩:=List.getElem_of_mem hl;obtain⟨q,hq,rfl⟩:=List.getElem_of_mem hr;rw [List.length_take]at hp;rw [List.length_drop]at hq;rw [List.getElem_drop,List.getElem_take];have h1:=c1 (by omega) (by omega);have h2:=kV hL (i:=p) (j:=i-1) (by omega) (by omega) (by omega);have h3:=kV hR (i:=j) (j:=j+q) (by omega) (by omega) (by omega);omega)
 rw [List.take_append_drop,List.take_append_drop]at this;exact this
theorem zQ {P L R Q:List ai}{q:Nat}(h1:P.length≤q)(h2:q<P.length+L.length):mQ (P++L++R++Q) q=(L[q-P.length]'(by omega)).aQ:=by
 unfold mQ;have:(P++L++R++Q)[q]? =some (L[q-P.length]'(by omega)):=by
  rw [List.append_assoc,List.append_assoc,List.getElem?_append_right h1,List.getElem?_append_left (by omega),List.getElem?_eq_getElem]
 rw [List.getD_eq_getElem?_getD,this];rfl
theorem zR {P L R Q:List ai}{q:Nat}(h1:P.length+L.length≤q)(h2:q<P.length+L.length+R.length):mQ (P++L++R++Q) q=(R[q-(P.length+L.length)]'(by omega)).aQ:=by
 unfold mQ;have:(P++L++R++Q)[q]? =some (R[q-(P.length+L.length)]'(by omega)):=by
  rw [List.append_assoc,List.getElem?_append_right (by rw [List.length_append];exact h1),List.length_append,List.getElem?_append_left (by omega),List.getElem?_eq_getElem]
 rw [List.getD_eq_getElem?_getD,this];rfl
structure Cut (A M B mid s0 r0:Nat):Prop where
 le:s0≤r0
 a:A≤s0
 m:r0≤M
 d:r0≤mid
 e:mid+M-s0≤B
 s:s0=A∨mid+M-s0=B
 r:r0=M∨r0=mid
theorem Sk {A M B mid:Nat}(h1:A+2≤M)(h2:M+2≤B)(hm:mid=(A+B)/2)(h:mid<M):Cut A M B mid (mid+M-B) mid:=by
 constructor<;>omega
theorem Sl {A M B mid:Nat}(h1:A+2≤M)(h2:M+2≤B)(hm:mid=(A+B)/2)(h: ¬mid<M):Cut A M B mid A M:=by
 constructor<;>omega
theorem DK {P L R Q:List ai}{M B mid s0 r0:Nat}(hL:L.Pairwise fun a b=>a.aQ≤b.aQ)(hR:R.Pairwise fun a b=>a.aQ≤b.aQ)(hM:M=P.length+L.length)(hB:B=P.length+L.length+R.length)(hc:Cut P.length M B mid s0 r0):
  ∀q q',s0≤q→q≤q'→q'<r0→mQ (P++L++R++Q) q≤mQ (P++L++R++Q) q'∧mQ (P++L++R++Q) (mid+M-1-q')≤mQ (P++L++R++Q) (mid+M-1-q):=fun q q' h1 h2 h3=>by
 have:=hc.a;have:=hc.m;have:=hc.d;have:=hc.e;rw [zQ (by omega) (by omega),zQ (by omega) (by omega),zR (by omega) (by omega),zR (by omega) (by omega)];exact⟨kV hL _ _ (by omega),kV hR _ _ (by omega)⟩
theorem DL {P L R Q:List ai} {M B mid s0 r0 s:Nat} (hL:L.Pairwise fun a b=>a.aQ≤b.aQ) (hR:R.Pairwise fun a b=>a.aQ≤b.aQ) (hM:M=P.length+L.length) (hB:B=P.length+L.length+R.length) (hc:Cut P.length M B mid s0 r0) (hs:s0≤s) (hr:s≤r0)
  (lo:s0<s→mQ (P++L++R++Q) (s-1)≤mQ (P++L++R++Q) (mid+M-s)) (hi:s<r0→mQ (P++L++R++Q) (mid+M-1-s)<mQ (P++L++R++Q) s):
  aP (L++R)=aP (L.take (s-P.length)++R.take (mid-s))++aP (L.drop (s-P.length)++R.drop (mid-s)):=by
 have h1:=hc.a;have h2:=hc.m;have h3:=hc.d;have h4:=hc.e;have h5:=hc.s;have h6:=hc.r;refine Bl hL hR (by omega) (by omega) (fun a b=> ?_) (fun a b=> ?_)
 ·have:=lo (by omega);rw [zQ (by omega) (by omega),zR (by omega) (by omega)]at this;have e1:s-1-P.length=s-P.length-1:=(by omega);have e2:mid+M-s-(P.length+L.length)=mid-s:=(by omega);simp only [e1,e2]at this;exact this
 ·have:=hi (by omega);rw [zR (by omega) (by omega),zQ (by omega) (by omega)]at this;have e2:mid+M-1-s-(P.length+L.length)=mid-s-1:=(by omega);simp only [e2]at this;exact this
structure Sm (H:ae)(nm:Nm)(N v A M B mid s e:Nat)(X0 X1 X2 X3:List (List PV))(v1 v2 v3:Nat):Prop where
 r1:s<M→mid<e
 JU: ¬s<M→ ¬mid<e
 r2:s<mid→M<e
 JV: ¬s<mid→ ¬M<e
 PB:s<M→s<mid→aK KC (aE KC) 131 [.ay nm 9 N 0 N, .pure (.int .i64 s), .pure (.int .i64 M), .pure (.int .i64 e), .pure (.fn 100)] 191 ([]::H.set nm (.arr 9 X0 v false))=some (.pure (.tuple []),[]::H.set nm (.arr 9 X1 v1 false))
 Bm:A<s→s<mid→aK KC (aE KC) 130 [.ay nm 9 N 0 N, .pure (.int .i64 A), .pure (.int .i64 s), .pure (.int .i64 mid), .pure (.fn 100)] 205 ([]::H.set nm (.arr 9 X1 v1 false))=some (.pure (.tuple []),[]::H.set nm (.arr 9 X2 v2 false))
 Bn:s<M→e<B→aK KC (aE KC) 130 [.ay nm 9 N 0 N, .pure (.int .i64 mid), .pure (.int .i64 e), .pure (.int .i64 B), .pure (.fn 100)] 219 ([]::H.set nm (.arr 9 X2 v2 false))=some (.pure (.tuple []),[]::H.set nm (.arr 9 X3 v3 false))
 q1: ¬(s<M∧s<mid)→X0=X1∧v=v1
 q2: ¬(A<s∧s<mid)→X1=X2∧v1=v2
 q3: ¬(s<M∧e<B)→X2=X3∧v2=v3
theorem pY {T:List ai}(hT:T.Pairwise fun a b=>a.aQ≤b.aQ)(n:Nat):(T.take n).Pairwise fun a b=>a.aQ≤b.aQ:=hT.sublist (List.take_sublist n T)
theorem pZ {T:List ai}(hT:T.Pairwise fun a b=>a.aQ≤b.aQ)(n:Nat):(T.drop n).Pairwise fun a b=>a.aQ≤b.aQ:=hT.sublist (List.drop_sublist n T)
theorem ss {p:Prop}{Q R:Nat→Prop}{v:Nat}{E:Prop}(h:p→ ∃v',Q v'∧R v')(h2:Q v)(hE: ¬p→E): ∃v',Q v'∧(p→R v')∧(¬p→E∧v=v'):=by
 by_cases hp:p
 ·obtain⟨v',a,b⟩:=h hp;exact⟨v',a,fun _=>b,fun h=>absurd hp h⟩
 ·exact⟨v,h2,fun h=>absurd h hp,fun _=>⟨hE hp,rfl⟩⟩
theorem DM {nm:Nm} {N k:Nat} (hn:N≤1000000) (hnm:nm.1<H.length)
  (IH: ∀(H:ae) (c:Nat) (P L R Q:List ai) (v:Nat) (a m b:Int),nm.1<H.length→L.length+R.length≤k→0<L.length→0<R.length→L.Pairwise (fun a b=>a.aQ≤b.aQ)→R.Pairwise (fun a b=>a.aQ≤b.aQ)→P.length+L.length+R.length+Q.length=N→v≤N→a=P.length→m=(P.length+L.length:Nat)→b=(P.length+L.length+R.length:Nat)→
   ∃v',v'≤N∧aK KC (aE KC) 130 [.ay nm 9 N 0 N, .pure (.int .i64 a), .pure (.int .i64 m), .pure (.int .i64 b), .pure (.fn 100)] c (H.set nm (.arr 9 ((P++L++R++Q).map ai.row) v false))=
    some (.pure (.tuple []),H.set nm (.arr 9 ((P++aP (L++R)++Q).map ai.row) v' false)))
  (P L R Q:List ai) (hk:L.length+R.length≤k+1) (h2L:2≤L.length) (h2R:2≤R.length) (hL:L.Pairwise fun a b=>a.aQ≤b.aQ) (hR:R.Pairwise fun a b=>a.aQ≤b.aQ) (hl:P.length+L.length+R.length+Q.length=N) {v:Nat} (hv:v≤N) {A M B mid s e:Nat} (hA:P.length=A) (hM:P.length+L.length=M) (hB:P.length+L.length+R.length=B)
  (s1:A≤s) (s2:s≤M) (s3:s≤mid) (s4:e≤B) (s5:mid<B) (s6:A<mid) (hse:s+e=mid+M) (CS:aP (L++R)=aP (L.take (s-P.length)++R.take (mid-s))++aP (L.drop (s-P.length)++R.drop (mid-s))):
  ∃v3,v3≤N∧ ∃(X1 X2:List (List PV)) (v1 v2:Nat),Sm H nm N v A M B mid s e ((P++L++R++Q).map ai.row) X1 X2 ((P++aP (L++R)++Q).map ai.row) v1 v2 v3:=by
 have up: ∀b,ae.set ([]::H) nm b=[]::H.set nm b:=fun b=>by
  show (if nm.1=H.length then _ else _)=_
  rw [if_neg (by omega)]
 obtain⟨L1,hL1⟩: ∃L1,L.take (s-P.length)=L1:=⟨_,rfl⟩;obtain⟨L2,hL2⟩: ∃L2,L.drop (s-P.length)=L2:=⟨_,rfl⟩;obtain⟨R1,hR1⟩: ∃R1,R.take (mid-s)=R1:=⟨_,rfl⟩;obtain⟨R2,hR2⟩: ∃R2,R.drop (mid-s)=R2:=⟨_,rfl⟩;have l1:L1.length=s-A:=(by rw [←hL1,List.length_take];omega);have l2:L2.length=M-s:=(by rw [←hL2,List.length_drop];omega);have l3:R1.length=mid-s:=(by rw [←hR1,List.length_take];omega);have l4:R2.length=B-e:=(by rw [←hR2,List.length_drop];omega);have so1:=hL1▸pY hL (s-P.length);have so2:=hL2▸pZ hL (s-P.length);have so3:=hR1▸pY hR (mid-s);have so4:=hR2▸pZ hR (mid-s);have eL:L1++L2=L:=(by rw [←hL1,←hL2,List.take_append_drop]);have eR:R1++R2=R:=(by rw [←hR1,←hR2,List.take_append_drop]);rw [hL1,hL2,hR1,hR2]at CS;have eX:P++L++R++Q=(P++L1)++L2++R1++(R2++Q):=(by rw [←eL,←eR];simp);obtain⟨v1,a1,b1,c1⟩:=ss (p:=s<M∧s<mid) (Q:=fun v=>v≤N) (E:=(P++L++R++Q).map ai.row=(P++L1++R1++(L2++R2++Q)).map ai.row) (R:=fun v1=>aK KC (aE KC) 131 [.ay nm 9 N 0 N, .pure (.int .i64 s), .pure (.int .i64 M), .pure (.int .i64 e), .pure (.fn 100)] 191 ([]::H.set nm (.arr 9 ((P++L++R++Q).map ai.row) v false))=some (.pure (.tuple []),[]::H.set nm (.arr 9 ((P++L1++R1++(L2++R2++Q)).map ai.row) v1 false))) (fun hp=>by
  have:=M3 (c:=191) (H:=[]::H) (nm:=nm) (N:=N) (v:=v) hn (by simp;omega) (P++L1) L2 R1 (R2++Q) (by omega) (by omega) (by rw [List.length_append,List.length_append];omega) hv s M e (by rw [List.length_append];omega) (by rw [List.length_append];omega) (by rw [List.length_append];omega);rw [←eX]at this;simp only [up]at this;rw [show P++L1++R1++(L2++R2++Q)=P++L1++R1++L2++(R2++Q)by simp]
  exact this) hv (fun hp=>by
  have h:s=M∨s=mid:=(by omega);rw [eX];congr 1;rcases h with h|h
  ·obtain rfl:L2=[]:=List.length_eq_zero_iff.1 (by omega);simp
  ·obtain rfl:R1=[]:=List.length_eq_zero_iff.1 (by omega);simp)
 obtain⟨v2,a2,b2,c2⟩:=ss (p:=A<s∧s<mid) (Q:=fun v=>v≤N) (E:=(P++L1++R1++(L2++R2++Q)).map ai.row=((P++aP (L1++R1))++L2++R2++Q).map ai.row) (R:=fun v2=>aK KC (aE KC) 130 [.ay nm 9 N 0 N, .pure (.int .i64 A), .pure (.int .i64 s), .pure (.int .i64 mid), .pure (.fn 100)] 205 ([]::H.set nm (.arr 9 ((P++L1++R1++(L2++R2++Q)).map ai.row) v1 false))=some (.pure (.tuple []),[]::H.set nm (.arr 9 (((P++aP (L1++R1))++L2++R2++Q).map ai.row) v2 false))) (fun hp=>by
  have:=IH ([]::H) 205 P L1 R1 (L2++R2++Q) v1 A s mid (by simp;omega) (by omega) (by omega) (by omega) so1 so3 (by rw [List.length_append,List.length_append];omega) a1 (by omega) (by omega) (by omega);simp only [up]at this;rw [show (P++aP (L1++R1))++L2++R2++Q=P++aP (L1++R1)++(L2++R2++Q)by simp]
  exact this) a1 (fun hp=>by
  have h:A=s∨s=mid:=(by omega);have hs:aP (L1++R1)=L1++R1:=by
   rcases h with h|h
   ·obtain rfl:L1=[]:=List.length_eq_zero_iff.1 (by omega);exact dH so3
   ·obtain rfl:R1=[]:=List.length_eq_zero_iff.1 (by omega);rw [List.append_nil];exact dH so1
  rw [hs];congr 1;simp)
 obtain⟨v3,a3,b3,c3⟩:=ss (p:=s<M∧e<B) (Q:=fun v=>v≤N) (E:=((P++aP (L1++R1))++L2++R2++Q).map ai.row=(P++aP (L++R)++Q).map ai.row) (R:=fun v3=>aK KC (aE KC) 130 [.ay nm 9 N 0 N, .pure (.int .i64 mid), .pure (.int .i64 e), .pure (.int .i64 B), .pure (.fn 100)] 219 ([]::H.set nm (.arr 9 (((P++aP (L1++R1))++L2++R2++Q).map ai.row) v2 false))=some (.pure (.tuple []),[]::H.set nm (.arr 9 ((P++aP (L++R)++Q).map ai.row) v3 false))) (fun hp=>by
  have:=IH ([]::H) 219 (P++aP (L1++R1)) L2 R2 Q v2 mid e B (by simp;omega) (by omega) (by omega) (by omega) so2 so4 (by rw [List.length_append,bf,List.length_append];omega) a2 (by rw [List.length_append,bf,List.length_append];omega) (by rw [List.length_append,bf,List.length_append];omega) (by rw [List.length_append,bf,List.length_append];omega);simp only [up]at this;rw [CS,show P++(aP (L1++R1)++aP (L2++R2))++Q=P++aP (L1++R1)++aP (L2++R2)++Q by simp]
  exact this) a2 (fun hp=>by
  have h:s=M∨e=B:=(by omega);have hs:aP (L2++R2)=L2++R2:=by
   rcases h with h|h
   ·obtain rfl:L2=[]:=List.length_eq_zero_iff.1 (by omega);exact dH so4
   ·obtain rfl:R2=[]:=List.length_eq_zero_iff.1 (by omega);rw [List.append_nil];exact dH so2
  rw [CS,hs];congr 1;simp)
 exact⟨v3,a3,_,_,v1,v2,by omega,by omega,by omega,by omega,fun x y=>b1 ⟨x,y⟩,fun x y=>b2 ⟨x,y⟩,fun x y=>b3 ⟨x,y⟩,c1,c2,c3⟩
theorem UC {nm:Nm} {N k:Nat} (hn:N≤1000000) (hnm:nm.1<H.length)
  (IH: ∀(H:ae) (c:Nat) (P L R Q:List ai) (v:Nat) (a m b:Int),nm.1<H.length→L.length+R.length≤k→0<L.length→0<R.length→L.Pairwise (fun a b=>a.aQ≤b.aQ)→R.Pairwise (fun a b=>a.aQ≤b.aQ)→P.length+L.length+R.length+Q.length=N→v≤N→a=P.length→m=(P.length+L.length:Nat)→b=(P.length+L.length+R.length:Nat)→
   ∃v',v'≤N∧aK KC (aE KC) 130 [.ay nm 9 N 0 N, .pure (.int .i64 a), .pure (.int .i64 m), .pure (.int .i64 b), .pure (.fn 100)] c (H.set nm (.arr 9 ((P++L++R++Q).map ai.row) v false))=
    some (.pure (.tuple []),H.set nm (.arr 9 ((P++aP (L++R)++Q).map ai.row) v' false)))
  (P L R Q:List ai) (hk:L.length+R.length≤k+1) (h2L:2≤L.length) (h2R:2≤R.length) (hL:L.Pairwise fun a b=>a.aQ≤b.aQ) (hR:R.Pairwise fun a b=>a.aQ≤b.aQ) (hl:P.length+L.length+R.length+Q.length=N) {v:Nat} (hv:v≤N) (a m b:Int) (ha:a=P.length) (hm:m=(P.length+L.length:Nat)) (hb:b=(P.length+L.length+R.length:Nat)):
  ∃v',v'≤N∧aK KC (aE KC) 130 [.ay nm 9 N 0 N, .pure (.int .i64 a), .pure (.int .i64 m), .pure (.int .i64 b), .pure (.fn 100)] c (H.set nm (.arr 9 ((P++L++R++Q).map ai.row) v false))=
   some (.pure (.tuple []),H.set nm (.arr 9 ((P++aP (L++R)++Q).map ai.row) v' false)):=by
 suffices hs:j5 (aK KC (aE KC) 130 [.ay nm 9 N 0 N, .pure (.int .i64 a), .pure (.int .i64 m), .pure (.int .i64 b), .pure (.fn 100)] c (H.set nm (.arr 9 ((P++L++R++Q).map ai.row) v false))) (fun r=> ∃v',v'≤N∧r=(.pure (.tuple []),H.set nm (.arr 9 ((P++aP (L++R)++Q).map ai.row) v' false)))by
  obtain⟨r,hx,v',h1,h2⟩:=hs;exact⟨v',h1,by rw [hx,h2]⟩
 have hH:0<(H.set nm (.arr 9 ((P++L++R++Q).map ai.row) v false)).length:=(by rw [ae.length_set];omega);obtain⟨A,hA⟩: ∃A,P.length=A:=⟨_,rfl⟩;obtain⟨M,hM⟩: ∃M,P.length+L.length=M:=⟨_,rfl⟩;obtain⟨B,hB⟩: ∃B,P.length+L.length+R.length=B:=⟨_,rfl⟩;obtain⟨mid,hmid⟩: ∃mid,(A+B)/2=mid:=⟨_,rfl⟩;obtain⟨s0,r0,hcut,hs0⟩: ∃s0 r0,Cut A M B mid s0 r0∧((mid<M∧s0=mid+M-B∧r0=mid)∨(¬mid<M∧s0=A∧r0=M)):=by
  by_cases h:mid<M
  ·exact⟨_,_,Sk (by omega) (by omega) hmid.symm h, .inl ⟨h,rfl,rfl⟩⟩
  ·exact⟨_,_,Sl (by omega) (by omega) hmid.symm h, .inr ⟨h,rfl,rfl⟩⟩
 rw [←hA]at hcut;have k1:=hcut.a;have k2:=hcut.m;have k3:=hcut.d;have k4:=hcut.e;have k5:=hcut.le;have BS:=fun Q' h1=>DN (H:=H) (nm:=nm) (N:=N) hn hnm (P++L++R++Q) (by simp only [List.length_append];omega) hv (a:=A) (m:=M) (b:=B) (mid:=mid) (n:=mid+M) (s0:=s0) (r0:=r0) (by omega) (by omega) (fun q h1 h2=>by omega) (DK hL hR hM.symm hB.symm hcut) Q' h1 (r0-s0) s0 r0 (Nat.le_refl _) (Nat.le_refl _) k5 (Nat.le_refl _) (fun h=>absurd h (Nat.lt_irrefl _)) (fun h=>absurd h (Nat.lt_irrefl _));have CS:=fun s=>DL (P:=P) (L:=L) (R:=R) (Q:=Q) (s:=s) hL hR hM.symm hB.symm hcut;have w1:IntKind.i64.wrap ((M:Int)-A)=L.length:=(by rw [dM (by omega) (by omega)];omega);have w2:IntKind.i64.wrap ((B:Int)-M)=R.length:=(by rw [dM (by omega) (by omega)];omega);have hL1: ¬(L.length:Int)=1:=(by omega);have hR1: ¬(R.length:Int)=1:=(by omega);have hL2: ¬L.length=1:=(by omega);have hR2: ¬R.length=1:=(by omega);have hf:=qF (x:=(A:Int)+B) (n:=A+B) (by omega) (by omega);rw [hmid]at hf;have w3:=dM (x:=(mid:Int)+M) (by omega) (by omega);have w4:=dM (x:=(mid:Int)+M-1) (by omega) (by omega);have d1: ¬nm.1=H.length:=(by omega);have d4:nm.1≤H.length:=(by omega);have TAIL:=fun s (h1:s0≤s) (h2:s≤r0) lo hi (e:Nat) (he:mid+M-s=e)=>DM (nm:=nm) (N:=N) (k:=k) (H:=H) hn hnm IH P L R Q hk h2L h2R hL hR hl hv hA hM hB (by omega:A≤s) (by omega:s≤M) (by omega:s≤mid) (by omega:e≤B) (by omega:mid<B) (by omega:A<mid) (by omega:s+e=mid+M) (CS s h1 h2 lo hi);generalize hX:P++L++R++Q=X at BS CS hH TAIL⊢;generalize hY:P++aP (L++R)++Q=Y at TAIL⊢;rw [hM]at hm;rw [hB]at hb;rw [hA]at ha;subst ha hm hb;have e0:((mid+M-1:Nat):Int)=(mid:Int)+M-1:=(by omega);rw [e0]at BS;generalize hXr:X.map ai.row=X0 at BS hH TAIL⊢;generalize hYr:Y.map ai.row=Y0 at TAIL⊢;refine bJ KC au Try.func130 rfl rfl ug rfl rfl rfl (by simp) hH ?_;have FIN: ∀s,s0≤s→s≤r0→(s0<s→mQ X (s-1)≤mQ X (mid+M-s))→(s<r0→mQ X (mid+M-1-s)<mQ X s)→ ∃(e v':Nat),v'≤N∧IntKind.i64.wrap ((mid:Int)+M-s)=(e:Int)∧ ∃(X1 X2:List (List PV)) (v1 v2:Nat),Sm H nm N v A M B mid s e X0 X1 X2 Y0 v1 v2 v':=fun s h1 h2 lo hi=>by
  obtain⟨v',hv',X1,X2,v1,v2,T⟩:=TAIL s h1 h2 lo hi _ rfl;exact⟨mid+M-s,v',hv',by rw [dM (by omega) (by omega)];omega,X1,X2,v1,v2,T⟩
 simp at BS;rcases hs0 with ⟨hcase,e1,e2⟩|⟨hcase,e1,e2⟩
 ·have w5:IntKind.i64.wrap ((mid:Int)+M-B)=(s0:Int):=(by rw [dM (by omega) (by omega)];omega);rw [e2]at BS FIN;simp [w1,w2,hL1,hR1,hL2,hR2,hf,w3,w4,w5,hcase];refine BS _ fun s h1 h2 lo hi=> ?_;obtain⟨e,v',hv',we,X1,X2,v1,v2,T⟩:=FIN s h1 h2 lo hi;by_cases p1:s<M
  ·have r1:mid<e:=T.r1 p1;by_cases p2:s<mid
   ·have r2:M<e:=T.r2 p2;by_cases p3:A<s
    ·by_cases p4:e<B
     ·simp [we,d1,d4,p1,p2,p3,p4,r1,r2,T.PB p1 p2,T.Bm p3 p2,T.Bn p1 p4,ah,ae.length_set];exact⟨v',hv',rfl⟩
     ·obtain⟨q3,z3⟩:=T.q3 (fun h=>p4 h.2);have p4':B≤e:=(by omega);simp [we,p4',d1,d4,p1,p2,p3,p4,r1,r2,T.PB p1 p2,T.Bm p3 p2,ah,ae.length_set];exact⟨v',hv',by rw [q3,z3]⟩
    ·obtain⟨q2,z2⟩:=T.q2 (fun h=>p3 h.1);have p3':s≤A:=(by omega);have R1:=T.PB p1 p2;rw [q2,z2]at R1;by_cases p4:e<B
     ·simp [we,d1,d4,p1,p2,p3,p4,r1,r2,R1,T.Bn p1 p4,ah,ae.length_set];exact⟨v',hv',rfl⟩
     ·obtain⟨q3,z3⟩:=T.q3 (fun h=>p4 h.2);have p4':B≤e:=(by omega);simp [we,p3',p4',d1,d4,p1,p2,p3,p4,r1,r2,R1,ah,ae.length_set];exact⟨v',hv',by rw [q3,z3]⟩
   ·have r2: ¬M<e:=T.JV p2;have p2':mid≤s:=(by omega);have JV:e≤M:=(by omega);obtain⟨q1,z1⟩:=T.q1 (fun h=>p2 h.2);obtain⟨q2,z2⟩:=T.q2 (fun h=>p2 h.2);rw [q1,q2,z1,z2];by_cases p4:e<B
    ·rcases(by omega:(A<s∧ ¬s≤A)∨(¬A<s∧s≤A))with ⟨p3,p3'⟩|⟨p3,p3'⟩<;>
     ·simp [we,p3,p3',d1,d4,p1,p2,p2',JV,p4,r1,r2,T.Bn p1 p4,ah,ae.length_set];exact⟨v',hv',rfl⟩
    ·obtain⟨q3,z3⟩:=T.q3 (fun h=>p4 h.2);have p4':B≤e:=(by omega);rcases(by omega:(A<s∧ ¬s≤A)∨(¬A<s∧s≤A))with ⟨p3,p3'⟩|⟨p3,p3'⟩<;>
     ·simp [we,p3,p3',p2',JV,p4',d1,d4,p1,p2,p4,r1,r2,ah,ae.length_set];exact⟨v',hv',by rw [q3,z3]⟩
  ·have r1: ¬mid<e:=T.JU p1;have p1':M≤s:=(by omega);have JU:e≤mid:=(by omega);obtain⟨q1,z1⟩:=T.q1 (fun h=>p1 h.1);obtain⟨q3,z3⟩:=T.q3 (fun h=>p1 h.1);rw [q1,z1];by_cases p2:s<mid
   ·by_cases p3:A<s
    ·simp [we,d1,d4,p1,p2,p3,r1,T.Bm p3 p2,ah,ae.length_set];exact⟨v',hv',by rw [q3,z3]⟩
    ·obtain⟨q2,z2⟩:=T.q2 (fun h=>p3 h.1);have p3':s≤A:=(by omega);rw [q2,z2];simp [we,p1',JU,p3',d1,d4,p1,p2,p3,r1,ah,ae.length_set];exact⟨v',hv',by rw [q3,z3]⟩
   ·obtain⟨q2,z2⟩:=T.q2 (fun h=>p2 h.2);have p2':mid≤s:=(by omega);rw [q2,z2];rcases(by omega:(A<s∧ ¬s≤A)∨(¬A<s∧s≤A))with ⟨p3,p3'⟩|⟨p3,p3'⟩<;>
    ·simp [we,p3,p3',p1',JU,p2',d1,d4,p1,p2,r1,ah,ae.length_set];exact⟨v',hv',by rw [q3,z3]⟩
 ·rw [e1,e2]at BS FIN;simp [w1,w2,hL1,hR1,hL2,hR2,hf,w3,w4,hcase];refine BS _ fun s h1 h2 lo hi=> ?_;obtain⟨e,v',hv',we,X1,X2,v1,v2,T⟩:=FIN s h1 h2 lo hi;by_cases p1:s<M
  ·have r1:mid<e:=T.r1 p1;by_cases p2:s<mid
   ·have r2:M<e:=T.r2 p2;by_cases p3:A<s
    ·by_cases p4:e<B
     ·simp [we,d1,d4,p1,p2,p3,p4,r1,r2,T.PB p1 p2,T.Bm p3 p2,T.Bn p1 p4,ah,ae.length_set];exact⟨v',hv',rfl⟩
     ·obtain⟨q3,z3⟩:=T.q3 (fun h=>p4 h.2);have p4':B≤e:=(by omega);simp [we,p4',d1,d4,p1,p2,p3,p4,r1,r2,T.PB p1 p2,T.Bm p3 p2,ah,ae.length_set];exact⟨v',hv',by rw [q3,z3]⟩
    ·obtain⟨q2,z2⟩:=T.q2 (fun h=>p3 h.1);have p3':s≤A:=(by omega);have R1:=T.PB p1 p2;rw [q2,z2]at R1;by_cases p4:e<B
     ·simp [we,d1,d4,p1,p2,p3,p4,r1,r2,R1,T.Bn p1 p4,ah,ae.length_set];exact⟨v',hv',rfl⟩
     ·obtain⟨q3,z3⟩:=T.q3 (fun h=>p4 h.2);have p4':B≤e:=(by omega);simp [we,p3',p4',d1,d4,p1,p2,p3,p4,r1,r2,R1,ah,ae.length_set];exact⟨v',hv',by rw [q3,z3]⟩
   ·have r2: ¬M<e:=T.JV p2;have p2':mid≤s:=(by omega);have JV:e≤M:=(by omega);obtain⟨q1,z1⟩:=T.q1 (fun h=>p2 h.2);obtain⟨q2,z2⟩:=T.q2 (fun h=>p2 h.2);rw [q1,q2,z1,z2];by_cases p4:e<B
    ·rcases(by omega:(A<s∧ ¬s≤A)∨(¬A<s∧s≤A))with ⟨p3,p3'⟩|⟨p3,p3'⟩<;>
     ·simp [we,p3,p3',d1,d4,p1,p2,p2',JV,p4,r1,r2,T.Bn p1 p4,ah,ae.length_set];exact⟨v',hv',rfl⟩
    ·obtain⟨q3,z3⟩:=T.q3 (fun h=>p4 h.2);have p4':B≤e:=(by omega);rcases(by omega:(A<s∧ ¬s≤A)∨(¬A<s∧s≤A))with ⟨p3,p3'⟩|⟨p3,p3'⟩<;>
     ·simp [we,p3,p3',p2',JV,p4',d1,d4,p1,p2,p4,r1,r2,ah,ae.length_set];exact⟨v',hv',by rw [q3,z3]⟩
  ·have r1: ¬mid<e:=T.JU p1;have p1':M≤s:=(by omega);have JU:e≤mid:=(by omega);obtain⟨q1,z1⟩:=T.q1 (fun h=>p1 h.1);obtain⟨q3,z3⟩:=T.q3 (fun h=>p1 h.1);rw [q1,z1];by_cases p2:s<mid
   ·by_cases p3:A<s
    ·simp [we,d1,d4,p1,p2,p3,r1,T.Bm p3 p2,ah,ae.length_set];exact⟨v',hv',by rw [q3,z3]⟩
    ·obtain⟨q2,z2⟩:=T.q2 (fun h=>p3 h.1);have p3':s≤A:=(by omega);rw [q2,z2];simp [we,p1',JU,p3',d1,d4,p1,p2,p3,r1,ah,ae.length_set];exact⟨v',hv',by rw [q3,z3]⟩
   ·obtain⟨q2,z2⟩:=T.q2 (fun h=>p2 h.2);have p2':mid≤s:=(by omega);rw [q2,z2];rcases(by omega:(A<s∧ ¬s≤A)∨(¬A<s∧s≤A))with ⟨p3,p3'⟩|⟨p3,p3'⟩<;>
    ·simp [we,p3,p3',p1',JU,p2',d1,d4,p1,p2,r1,ah,ae.length_set];exact⟨v',hv',by rw [q3,z3]⟩
theorem zS {nm:Nm}{N:Nat}(hn:N≤1000000): ∀(k:Nat) (H:ae) (c:Nat) (P L R Q:List ai) (v:Nat) (a m b:Int),nm.1<H.length→L.length+R.length≤k→0<L.length→0<R.length→L.Pairwise (fun a b=>a.aQ≤b.aQ)→R.Pairwise (fun a b=>a.aQ≤b.aQ)→P.length+L.length+R.length+Q.length=N→v≤N→a=P.length→m=(P.length+L.length:Nat)→b=(P.length+L.length+R.length:Nat)→
      ∃v',v'≤N∧aK KC (aE KC) 130 [.ay nm 9 N 0 N, .pure (.int .i64 a), .pure (.int .i64 m), .pure (.int .i64 b), .pure (.fn 100)] c (H.set nm (.arr 9 ((P++L++R++Q).map ai.row) v false))=
        some (.pure (.tuple []),H.set nm (.arr 9 ((P++aP (L++R)++Q).map ai.row) v' false)):=by
  intro k
  induction k with
  |zero=>intro H c P L R Q v a m b _ h h1;omega
  |succ k ih=>
    intro H c P L R Q v a m b hnm hk h1 h2 hL hR hl hv ha hm hb;by_cases e1:L.length=1
    · obtain⟨x,rfl⟩:=List.length_eq_one_iff.1 e1
      have:=UD (c:=c) (H:=H) (nm:=nm) hn hnm P x R Q (by simpa using hl) hR hv a m b ha (by rw [hm];simp) (by rw [hb];simp);rw [show P++x::(R++Q)=P++[x]++R++Q by simp,show P++(aP ([x]++R)++Q)=P++aP ([x]++R)++Q by simp]at this
      exact this
    · by_cases e2:R.length=1
      · obtain⟨x,rfl⟩:=List.length_eq_one_iff.1 e2
        have:=UE (c:=c) (H:=H) (nm:=nm) hn hnm P x L Q (by omega) (by simpa using hl) hL hv a m b ha (by rw [hm];simp) (by rw [hb];simp);rw [show P++L++x::Q=P++L++[x]++Q by simp,show P++(aP (L++[x])++Q)=P++aP (L++[x])++Q by simp]at this
        exact this
      · exact UC (c:=c) (H:=H) hn hnm ih P L R Q hk (by omega) (by omega) hL hR hl hv a m b ha hm hb
end
section
variable {c:Nat} {H:ae}
theorem ew {nm:Nm}{P Q:List (List PV)}{N a' v:Nat}(X:List ai)(hn:N≤1000000)(hnm:nm.1<H.length)(hP:P.length=a')(hl:P.length+X.length+Q.length=N)(hv:v≤N):
  ∃v',v'≤N∧aK KC (aE KC) 129 [.ay nm 9 N 0 N, .pure (.int .i64 a'), .pure (.int .i64 ((a'+X.length:Nat):Int)), .pure (.fn 100)] c (H.set nm (.arr 9 (P++X.map ai.row++Q) v false))=
   some (.pure (.tuple []),H.set nm (.arr 9 (P++(aP X).map ai.row++Q) v' false)):=by
 suffices hs:j5 (aK KC (aE KC) 129 [.ay nm 9 N 0 N, .pure (.int .i64 a'), .pure (.int .i64 ((a'+X.length:Nat):Int)), .pure (.fn 100)] c (H.set nm (.arr 9 (P++X.map ai.row++Q) v false))) (fun x=> ∃v',v'≤N∧x=(.pure (.tuple []),H.set nm (.arr 9 (P++(aP X).map ai.row++Q) v' false)))by
  obtain⟨x,hx,v',h1,h2⟩:=hs;exact⟨v',h1,by rw [hx,h2]⟩
 have hH:0<(H.set nm (.arr 9 (P++X.map ai.row++Q) v false)).length:=(by rw [ae.length_set];omega);refine bJ KC au Try.func129 rfl rfl Gf rfl rfl rfl (by simp) hH ?_;by_cases hX:X=[]
 ·subst hX;have hw:=dM (x:=(a':Int)+1) (by omega) (by omega);have hlt: ¬(a':Int)+1<a':=(by omega);simp [hw];apply aw;conv=>arg 4;whnf
  simp [hlt,ah,ae.length_set];exact⟨v,hv,by simp [aP]⟩
 ·have hx1:1≤X.length:=List.length_pos_iff.2 hX;have hw:=dM (x:=(a':Int)+1) (by omega) (by omega);obtain⟨m,hm⟩: ∃m,1+m=X.length:=⟨X.length-1,by omega⟩;have e1:P++(aP (X.take 1)).map ai.row++((X.drop 1).map ai.row++Q)=P++X.map ai.row++Q:=by
   cases X with
   |nil=>exact absurd rfl hX
   |cons x X=>simp [aP,dX]
  have L:=fun Q' h1=>Bo (H:=H) (nm:=nm) (P:=P) (Q:=Q) (N:=N) (a':=a') X hn hnm hP hl Q' h1 m 1 v hm hv;rw [e1]at L;have ec:((a'+1:Nat):Int)=(a':Int)+1:=(by omega);have ec2:((a'+X.length:Nat):Int)=(a':Int)+X.length:=(by omega);rw [ec,ec2]at L;rw [ec2];simp [hw];simp at L;refine L _ fun v' hv'=> ?_;simp [ah,ae.length_set];exact⟨v',hv',rfl⟩
theorem yN {nm:Nm}{N v:Nat}(X:List ai)(hN:X.length=N)(hn:N≤40)(hnm:nm.1<H.length)(hv:v≤N):
  ∃v',v'≤N∧aK KC (aE KC) 124 [.ay nm 9 N 0 N, .pure (.int .i64 N), .pure (.fn 100)] c (H.set nm (.arr 9 (X.map ai.row) v false))=
   some (.pure (.tuple []),H.set nm (.arr 9 ((aP X).map ai.row) v' false)):=by
 have hl: ∀b,(H.set nm b).length=H.length:=fun b=>ae.length_set _ _ _;have hH:0<(H.set nm (.arr 9 (X.map ai.row) v false)).length:=by rw [hl];omega
 suffices hs:j5 (aK KC (aE KC) 124 [.ay nm 9 N 0 N, .pure (.int .i64 N), .pure (.fn 100)] c (H.set nm (.arr 9 (X.map ai.row) v false))) (fun x=> ∃v',v'≤N∧x=(.pure (.tuple []),H.set nm (.arr 9 ((aP X).map ai.row) v' false)))by
  obtain⟨x,hx,v',h1,h2⟩:=hs;exact⟨v',h1,by rw [hx,h2]⟩
 have d1: ¬nm.1=H.length:=(by omega);have up: ∀f b,ae.set (f::H) nm b=f::H.set nm b:=fun f b=>by
  show (if nm.1=H.length then _ else _)=_
  rw [if_neg d1]
 refine bJ KC au Try.func124 rfl rfl Ga rfl rfl rfl (by simp) hH ?_;have d2: ¬nm.1=H.length+1:=(by omega);have d4:nm.1≤H.length:=(by omega);have d5:nm.1≤H.length+1:=(by omega);by_cases h20:N=20
 ·obtain⟨v1,a1,b1⟩:=ew (c:=18) (H:=[]::[]::H) (nm:=nm) (P:=[]) (Q:=[]) (N:=N) (a':=0) (v:=v) X (by omega) (by simp;omega) rfl (by simpa using hN) hv;obtain⟨v2,a2,b2⟩:=ew (c:=27) (H:=[]::H) (nm:=nm) (P:=(aP X).map ai.row) (Q:=[]) (N:=N) (a':=N) (v:=v1) [] (by omega) (by simp;omega) (by rw [List.length_map,bf,hN]) (by rw [List.length_map,bf,hN];simp) a1;subst h20;simp [d1,d2,hN]at b1 b2;have es:aP ([]:List ai)=[]:=rfl;rw [es]at b2;simp at b2;have w40:IntKind.i64.wrap 40=40:=(by decide);simp;apply aw;conv=>arg 4;whnf
  simp [d1,d2,d4,d5,b1,w40];apply aw;conv=>arg 4;whnf
  simp [d1,d2,d4,d5,b2];apply aw;conv=>arg 4;whnf
  simp [ah,hl];exact⟨v2,a2,rfl⟩
 by_cases h20':N<20
 ·obtain⟨v2,a2,b2⟩:=ew (c:=27) (H:=[]::H) (nm:=nm) (P:=[]) (Q:=[]) (N:=N) (a':=0) (v:=v) X (by omega) (by simp;omega) rfl (by simpa using hN) hv;have hlt: ¬(20:Int)<N:=(by omega);have hle: ¬(20:Int)≤N:=(by omega);simp [d1,hN]at b2;simp;apply aw;conv=>arg 4;whnf
  simp [hle,b2,d1,d4];apply aw;conv=>arg 4;whnf
  simp [hlt,ah,hl];exact⟨v2,a2,rfl⟩
 ·have l1:(X.take 20).length=20:=(by rw [List.length_take];omega);have l2:(X.drop 20).length=N-20:=(by rw [List.length_drop];omega);have hle:(20:Int)≤N:=(by omega);have hle':20≤N:=(by omega);have w40:IntKind.i64.wrap 40=40:=(by decide);have w60:IntKind.i64.wrap 60=60:=(by decide);have w80:IntKind.i64.wrap 80=80:=(by decide);have w20:IntKind.i64.wrap 20=20:=(by decide);have hlt:(20:Int)<N:=(by omega);have hlt':20<N:=(by omega);have e0:aP (aP (X.take 20)++aP (X.drop 20))=aP X:=(by rw [Bp,List.take_append_drop]);obtain⟨v1,a1,b1⟩:=ew (c:=18) (H:=[]::[]::H) (nm:=nm) (P:=[]) (Q:=(X.drop 20).map ai.row) (N:=N) (a':=0) (v:=v) (X.take 20) (by omega) (by simp;omega) rfl (by rw [List.length_map];simp only [List.length_nil];omega) hv;have er:([]:List (List PV))++(X.take 20).map ai.row++(X.drop 20).map ai.row=X.map ai.row:=(by rw [List.nil_append,←List.map_append,List.take_append_drop]);rw [er,l1,List.nil_append]at b1;obtain⟨R0,hR0⟩: ∃R0,X.map ai.row=R0:=⟨_,rfl⟩;obtain⟨R1,hR1⟩: ∃R1,(aP (X.take 20)).map ai.row++(X.drop 20).map ai.row=R1:=⟨_,rfl⟩;obtain⟨R2,hR2⟩: ∃R2,(aP (X.take 20)++aP (X.drop 20)).map ai.row=R2:=⟨_,rfl⟩;obtain⟨R3,hR3⟩: ∃R3,(aP X).map ai.row=R3:=⟨_,rfl⟩;rw [hR0,hR1]at b1;by_cases h40:N=40
  ·obtain⟨v2,a2,b2⟩:=ew (c:=18) (H:=[]::[]::H) (nm:=nm) (P:=(aP (X.take 20)).map ai.row) (Q:=[]) (N:=N) (a':=20) (v:=v1) (X.drop 20) (by omega) (by simp;omega) (by rw [List.length_map,bf,l1]) (by rw [List.length_map,bf,l1,l2];simp only [List.length_nil];omega) a1;obtain⟨v3,a3,b3⟩:=ew (c:=27) (H:=[]::H) (nm:=nm) (P:=R2) (Q:=[]) (N:=N) (a':=N) (v:=v2) [] (by omega) (by simp;omega) (by rw [←hR2,List.length_map,List.length_append,bf,bf,l1,l2];omega) (by rw [←hR2,List.length_map,List.length_append,bf,bf,l1,l2];simp only [List.length_nil];omega) a2;obtain⟨v4,a4,b4⟩:=zS (nm:=nm) (N:=N) (by omega) N ([]::[]::[]::H) 43 [] (aP (X.take 20)) (aP (X.drop 20)) [] v3 0 20 40 (by simp;omega) (by rw [bf,bf];omega) (by rw [bf];omega) (by rw [bf];omega) (lZ _) (lZ _) (by rw [bf,bf];simp only [List.length_nil];omega) a3 rfl (by rw [bf,l1];rfl) (by rw [bf,bf,l1,l2,h40];rfl);rw [List.append_nil,hR1,List.append_nil,←List.map_append,hR2,l2]at b2;have es:aP ([]:List ai)=[]:=rfl;rw [es]at b3;rw [e0]at b4;simp only [List.append_nil,List.nil_append,hR2,hR3,List.map_nil,List.length_nil,Nat.add_zero]at b3 b4;rw [hR0,hR3];subst h40;simp [d1,d2]at b1 b2 b3 b4;have d3: ¬nm.1=H.length+2:=(by omega);have d6:nm.1≤H.length+2:=(by omega);simp [d3]at b4;simp;apply aw;conv=>arg 4;whnf
   simp [d1,d2,d4,d5,b1,w40,w20];apply aw;conv=>arg 4;whnf
   simp [d1,d2,d4,d5,b2,w60];apply aw;conv=>arg 4;whnf
   simp [d1,d2,d4,d5,b3];apply aw;conv=>arg 4;whnf
   simp [d1,d2,d4,d5,w40];apply aw;conv=>arg 4;whnf
   simp [d1,d2,d3,d4,d5,d6,b4,w20,w40,w80];apply aw;conv=>arg 4;whnf
   simp [d1,d2,d4,d5,w60,w40];apply aw;conv=>arg 4;whnf
   simp [ah,hl];exact⟨v4,a4,rfl⟩
  ·obtain⟨v2,a2,b2⟩:=ew (c:=27) (H:=[]::H) (nm:=nm) (P:=(aP (X.take 20)).map ai.row) (Q:=[]) (N:=N) (a':=20) (v:=v1) (X.drop 20) (by omega) (by simp;omega) (by rw [List.length_map,bf,l1]) (by rw [List.length_map,bf,l1,l2];simp only [List.length_nil];omega) a1;obtain⟨v3,a3,b3⟩:=zS (nm:=nm) (N:=N) (by omega) N ([]::[]::H) 60 [] (aP (X.take 20)) (aP (X.drop 20)) [] v2 0 20 N (by simp;omega) (by rw [bf,bf];omega) (by rw [bf];omega) (by rw [bf];omega) (lZ _) (lZ _) (by rw [bf,bf];simp only [List.length_nil];omega) a2 rfl (by rw [bf,l1];rfl) (by rw [bf,bf,l1,l2];simp only [List.length_nil];omega);rw [List.append_nil,hR1,List.append_nil,←List.map_append,hR2,l2,show 20+(N-20)=N by omega]at b2
   rw [e0]at b3;simp only [List.append_nil,List.nil_append,hR2,hR3]at b3;rw [hR0,hR3];have TC: ¬(40:Int)≤N:=(by omega);have n40b: ¬(40:Int)<N:=(by omega);have n40c: ¬40≤N:=(by omega);have n40d: ¬40<N:=(by omega);simp [d1,d2]at b1 b2 b3;simp;apply aw;conv=>arg 4;whnf
   simp [d1,d2,d4,d5,b1,w40,w20,hle,hle'];apply aw;conv=>arg 4;whnf
   simp [d1,d2,d4,d5,b2,TC,n40c];apply aw;conv=>arg 4;whnf
   simp [d1,d2,d4,d5,w40,hlt,hlt'];apply aw;conv=>arg 4;whnf
   simp [d1,d2,d4,d5,TC,n40c,w20,w40,hlt,hlt',b3];apply aw;conv=>arg 4;whnf
   simp [n40b,n40d,ah,hl];exact⟨v3,a3,rfl⟩
theorem Bq {nm:Nm}{N v:Nat}(X:List ai)(hN:X.length=N)(hn:N≤40)(hnm:nm.1<H.length)(hv:v≤N):
  ∃v',v'≤N∧aK KC (aE KC) 99 [.ay nm 9 N 0 N, .pure (.fn 100)] c (H.set nm (.arr 9 (X.map ai.row) v false))=
   some (.pure (.tuple []),H.set nm (.arr 9 ((aP X).map ai.row) v' false)):=by
 have hl: ∀b,(H.set nm b).length=H.length:=fun b=>ae.length_set _ _ _;have hH:0<(H.set nm (.arr 9 (X.map ai.row) v false)).length:=(by rw [hl];omega);have d1: ¬nm.1=H.length:=(by omega);have d4:nm.1≤H.length:=(by omega);obtain⟨v2,a2,b2⟩:=yN (c:=8) (H:=[]::H) (nm:=nm) (v:=v) X hN hn (by simp;omega) hv;refine⟨v2,a2,aU (bJ KC au Try.func99 rfl rfl Ly rfl rfl rfl (by simp) hH ?_)⟩;simp [d1]at b2;simp [b2,d1,d4,ah,hl]
end
section
variable {c:Nat} {H:ae}
theorem DP (r:aI) {act:Nat} (h:act<r.aj.length) (hp:r.aj.Pairwise fun a b=>a.aQ≤b.aQ) (hn:r.aj.length≤1000000) (Q:GX→bE→Prop)
  (h1:Q (.exit 0) ⟨[(2, .aA (H.length,2) 0),(4, .aA (H.length,4) 0),(5, .pure (.int .i64 ((mA r.aj r.aj[act]).length:Nat)))],[(2,bs r),(4,lE)]::H,42⟩): ∀(k n:Nat),n=(mA r.aj r.aj[act]).length+k→n≤act→
  jf KC au 98 (lp Try.f98 0) [1,2,4,5] [2,4,5] Q [(1, .pure (.int .i64 act)),(2, .aA (H.length,2) 0),(4, .aA (H.length,4) 0),(5, .pure (.int .i64 n))] ([(2,bs r),(4,lE)]::H) 42:=by
 obtain⟨f1,f2,f3⟩:=su h hp;intro k
 induction k with
 |zero=>
  intro n hk hna;rw [Nat.add_zero]at hk;rw [←hk]at h1 f2
  cases n with
  |zero=>
   apply aw;conv=>arg 4;whnf
   simp [bs,lE];simpa [bs,lE]using h1
  |succ n=>
   have hlt:n<r.aj.length:=(by omega);have:=f2 n hlt (by omega);have hne:(r.aj[n].aQ==r.aj[act].aQ)=false:=by
    have: ¬r.aj[n].aQ=r.aj[act].aQ:=(by omega);simpa using this
   have gt:(0:Int)<(n:Int)+1:=(by omega);have w2:=dM (x:=(n:Int)) (by omega) (by omega);apply aw;conv=>arg 4;whnf
   simp [bs,lE,gt,w2,hlt,h,ai.row,hne];simpa [bs,lE]using h1
 |succ k ih=>
  intro n hk hna;obtain⟨n',rfl⟩: ∃n',n=n'+1:=⟨n-1,by omega⟩;have hlt:n'<r.aj.length:=(by omega);have:=f3 n' hlt (by omega) (by omega);have heq:(r.aj[n'].aQ==r.aj[act].aQ)=true:=(by simpa using this);have gt:(0:Int)<(n':Int)+1:=(by omega);have w2:=dM (x:=(n':Int)) (by omega) (by omega);have ih':=ih n' (by omega) (by omega);apply aw;conv=>arg 4;whnf
  simp [bs,lE,gt,w2,hlt,h,ai.row,heq];simpa [bs,lE]using ih'
theorem Br {r:aI}(hr:yO r){act:Nat}(h:act<r.aj.length)(hp:r.aj.Pairwise fun a b=>a.aQ≤b.aQ)(hH:0<H.length):
  aK KC (aE KC) 98 [.pure (.agg r.row), .pure (.int .i64 act)] c H=some (.pure (.agg (aH r (vl r r.aj[act]))),H):=by
 refine aU (bw KC au Try.func98 rfl rfl Lx rfl rfl rfl (by simp) hH ?_);obtain⟨f1,f2,f3⟩:=su h hp;have C:=fun c (H:ae) (hH:0<H.length)=>oC (c:=c) (H:=H) r hr.w.pl hr.w.tl hH;have hF:Full (aV r):=⟨by simpa [aV]using hr.p0,by simpa [aV]using hr.p0,by simp [aV];exact hr.w.pl,by simp [aV];exact hr.w.pl,by simp [aV];exact hr.w.tl⟩;obtain⟨m,hm⟩: ∃m,(mA r.aj r.aj[act]).length=m:=⟨_,rfl⟩;have hbt:mA r.aj r.aj[act]=r.aj.take m:=(by rw [←hm];exact sv _ _);have hal:=hr.al;have R:=fun(F:Fr)=>vo (c:=37) hr.w (oU r (F::H) (by simp)) (r.aj.take m) (by rw [List.length_take];omega) (fun a ha=>hr.ab a (List.mem_of_mem_take ha)) hr.snd hF;have hml:(r.aj.take m).length=m:=by rw [List.length_take];omega
 have R2: ∀F:Fr,∃y z,aK KC (aE KC) 73 [.pure (.agg (aH r (aV r))), .pure (.slice (List.take m (r.aj.map ai.row))), .pure (.fn 54)] 37 (F::H)=
   some (.pure (.tuple [.agg (aH r (vl r r.aj[act])), .int .i64 y, .int .i64 z]),F::H):=fun F=>by
  refine⟨(dn r (r.aj.take m).length (aV r) (r.aj.take m) 0).2.2.1,(dn r (r.aj.take m).length (aV r) (r.aj.take m) 0).2.2.2, ?_⟩;rw [iE rfl rfl rfl];have e:=R F;rw [List.map_take]at e;have eb:vl r r.aj[act]=(dn r (r.aj.take m).length (aV r) (r.aj.take m) 0).2.1:=(by unfold vl;rw [hbt]);rw [eb];exact e
 have L:=fun Q h1=>DP (H:=H) r h hp hr.al Q h1 (act-m) act (by omega) (Nat.le_refl _);rw [iP]at C⊢;rw [hm]at L;simp [bs,lE]at L;simp;refine L _ ?_;obtain⟨y,z,e⟩:=R2 [(2,bs r),(4,lE)];simp only [aH,bs,lE]at C e;have hmn:m≤r.aj.length:=(by omega);have hmi: ¬(m:Int)<0:=(by omega);have hall: ∀x:ai,x.row.length=9:=fun _=>rfl;simp [C,e,hmn,hmi,aD,hall];rw [ah (by simp)];simp [aH]
end
section
variable {c:Nat} {H:ae}
theorem DQ (r:aI) (aj:List ai) (m:Int) (hn:aj.length≤1000000) (Q:GX→bE→Prop)
  (h1:Q (.exit 0) ⟨[(8, .pure (.int .i64 m)),(9, .pure (.int .i64 (fu m aj).length))],[(4,bs r)]::H,37⟩): ∀(k n:Nat),n+k=(fu m aj).length→
  jf KC au 90 (lp Try.f90 0) [3,8,9] [8,9] Q [(3, .pure (.slice (aj.map ai.row))),(8, .pure (.int .i64 m)),(9, .pure (.int .i64 n))] ([(4,bs r)]::H) 37:=by
 have hle:(fu m aj).length≤aj.length:=(List.takeWhile_sublist _).length_le;intro k
 induction k with
 |zero=>
  intro n hk;have e:n=(fu m aj).length:=(by omega);rw [←e]at h1;by_cases hl:n<aj.length
  ·have hout:=oV (fun a:ai=>decide (a.aQ≤m)) aj (by rw [show (aj.takeWhile fun a:ai=>decide (a.aQ≤m)).length=n from e.symm];exact hl)
   have hout': ¬aj[n].aQ≤m:=by
    have e2:(aj.takeWhile fun a:ai=>decide (a.aQ≤m)).length=n:=e.symm;simp only [e2]at hout;simpa using hout
   apply aw;conv=>arg 4;whnf
   simp [hl,ai.row,hout'];exact h1
  ·apply aw;conv=>arg 4;whnf
   simp [hl];exact h1
 |succ k ih=>
  intro n hk;have hl:n<aj.length:=(by omega);have hin:=sw (fun a:ai=>decide (a.aQ≤m)) aj n hl (by show n<(fu m aj).length;omega)
  have hin':aj[n].aQ≤m:=(by simpa using hin);have hw:=dM (x:=(n:Int)+1) (by omega) (by omega);have ih':=ih (n+1) (by omega);apply aw;conv=>arg 4;whnf
  simp [hl,ai.row,hin',hw];simpa using ih'
theorem Bs {r:aI}{act:Nat}(h:act<r.aj.length)(hn:r.aj.length≤1000000)(ht:0≤r.aj[act].aQ∧r.aj[act].aQ≤1000000)(kind:Int)(aj:List ai)(hal:aj.length≤1000000)(hH:0<H.length):
  bG KC (aE KC) 90 [.pure (.agg r.row), .pure (.int .i64 act), .pure (.int .i64 kind), .pure (.slice (aj.map ai.row))] c H=
   some (.pure (.tuple [.int .i64 (qm r act kind), .int .i64 (fu (qm r act kind) aj).length]),H):=by
 refine aU (aM KC au Try.func90 rfl rfl Lq (by simp) hH ?_);have hl:=aX (d:=ct) h;have L:=fun m Q h1=>DQ (H:=H) r aj m hal Q h1 (fu m aj).length 0 (by omega);rw [iP];unfold qm;rw [hl];by_cases hk:kind=3
 ·have hw:=dM (x:=r.aj[act].aQ+1) (by omega) (by omega);have L1:=L (r.aj[act].aQ+1);subst hk;simp [bs]at L1;simp [h,ai.row,hw];refine L1 _ ?_;simp;rw [ah (by simp)];simp
 ·have L1:=L r.aj[act].aQ;have hk':(kind==3)=false:=(by simpa using hk);simp [bs]at L1;simp [h,ai.row,hk,hk'];refine L1 _ ?_;simp;rw [ah (by simp)];simp
theorem Bt {g:GV}{q:PV}(hg:zb H g q)(ps:List PV):(br H (ps.map .pure++[g])).1.map canon=ps.map (fun p=>canon (.pure p))++[.pure q]:=by
 have h1: ∀ps:List PV,br H (ps.map .pure++[g])=(ps.map .pure++[(cZ H g).1],(cZ H g).2):=fun ps=>by
  induction ps with
  |nil=>rfl
  |cons p ps ih=>
   rw [List.map_cons,List.cons_append];simp only [br];have e:cZ H (.pure p)=(.pure p,H):=rfl;rw [e];simp only [ih,List.cons_append]
 have h2:canon (cZ H g).1= .pure q:=by
  have h3:=(mT hg).1
  cases g with
  |ay nm es top lo len=>
   show canon (dp H (.ay nm es top lo len)).1=_
   have e: ∃p,(dp H (.ay nm es top lo len)).1= .pure p:=⟨_,rfl⟩;obtain⟨p,hp⟩:=e;rw [hp]at h3⊢;have:p=q:=by
    have h4:cb (.pure p)=GV.pure p:=rfl;rw [h4]at h3;cases h3;rfl
   rw [this];obtain⟨rows,v,ro,a1,a2,a3,a4,a5,a6⟩:=hg;rw [a6];rfl
  |pure p=>cases hg;rfl
  |aO=>cases hg;rfl
  |_=>exact hg.elim
 rw [h1];simp [h2,Function.comp_def]
theorem Dg {r:aI}{act:Nat}(h:act<r.aj.length)(hn:r.aj.length≤1000000)(ht:0≤r.aj[act].aQ∧r.aj[act].aQ≤1000000)(kind:Int)(aj:List ai)(hal:aj.length≤1000000){g:GV}(hg:zb H g (.slice (aj.map ai.row)))(hH:0<H.length):
  aK KC (aE KC) 90 [.pure (.agg r.row), .pure (.int .i64 act), .pure (.int .i64 kind),g] c H=
   some (.pure (.tuple [.int .i64 (qm r act kind), .int .i64 (fu (qm r act kind) aj).length]),H):=
 iM KC rfl rfl (Bt hg [.agg r.row, .int .i64 act, .int .i64 kind]) rfl hH (fun H hH=>Bs (c:=c) h hn ht kind aj hal hH) rfl
end
section
variable {c:Nat} {H:ae}
def jA (l:List ai)(act:Nat)(aY:Int):List ai:=l.take act++(l.drop act).map (late aY)
theorem iG (l:List ai)(act:Nat)(aY:Int)(h:act≤l.length):(jA l act aY).length=l.length:=by
 unfold jA;simp;omega
def gz (l:List ai)(act:Nat)(aY:Int)(i:Nat):List ai:=(jA l act aY).take i++l.drop i
theorem Bu (l:List ai)(act:Nat)(aY:Int)(h:act≤l.length)(i:Nat)(hi:i≤l.length):(gz l act aY i).length=l.length:=by
 unfold gz;rw [List.length_append,List.length_take,List.length_drop,iG l act aY h];omega
theorem HB (l:List ai)(act:Nat)(aY:Int)(h:act≤l.length):gz l act aY act=l:=by
 unfold gz jA;rw [List.take_left' (by rw [List.length_take];omega),List.take_append_drop]
theorem HC (l:List ai)(act:Nat)(aY:Int)(h:act≤l.length):gz l act aY l.length=jA l act aY:=by
 unfold gz;rw [List.take_of_length_le (by rw [iG l act aY h];exact Nat.le_refl _),List.drop_length,List.append_nil]
theorem Bv (l:List ai)(act:Nat)(aY:Int)(h:act≤l.length){i:Nat}(h1:act≤i)(h2:i<l.length):(jA l act aY)[i]? =some (late aY l[i]):=by
 unfold jA;rw [List.getElem?_append_right (by rw [List.length_take];omega),List.length_take,List.getElem?_map,List.getElem?_drop];rw [show act+(i-min act l.length)=i by omega,List.getElem?_eq_getElem h2]
 rfl
theorem Bw (l:List ai)(act:Nat)(aY:Int)(h:act≤l.length){i:Nat}(h2:i<l.length):(gz l act aY i)[i]? =some l[i]:=by
 unfold gz;rw [List.getElem?_append_right (by rw [List.length_take,iG l act aY h];omega),List.length_take,iG l act aY h,List.getElem?_drop,show i+(i-min i l.length)=i by omega,List.getElem?_eq_getElem h2]
theorem yP (l:List ai)(act:Nat)(aY:Int)(h:act≤l.length){i:Nat}(h1:act≤i)(h2:i<l.length):(gz l act aY i).set i (late aY l[i])=gz l act aY (i+1):=by
 have hl:=iG l act aY h;have e:l.drop i=l[i]::l.drop (i+1):=List.drop_eq_getElem_cons h2;unfold gz;rw [List.set_append_right _ _ (by rw [List.length_take,hl];omega),List.length_take,hl,show i-min i l.length=0 by omega,e,List.set_cons_zero,List.take_add_one,Bv l act aY h h1 h2]
 simp
theorem DR (r:aI) {act:Nat} (aY:Int) (h:act<r.aj.length) (hn:r.aj.length≤1000000) (tm: ∀a∈r.aj,0≤a.aQ∧a.aQ≤1000000) (Q:GX→bE→Prop)
  (h1: ∀v,v≤r.aj.length→Q (.exit 1) ⟨[(7, .ay (H.length,28685) 9 r.aj.length 0 r.aj.length)],[(3,bs r),(28685, .arr 9 ((jA r.aj act aY).map ai.row) v false)]::H,72⟩): ∀(k i v:Nat),i+k=r.aj.length→act≤i→v≤r.aj.length→
  jf KC au 89 (lp Try.f89 0) [7,8,9] [7] Q [(7, .ay (H.length,28685) 9 r.aj.length 0 r.aj.length),(8, .pure (.int .i64 aY)),(9, .pure (.int .i64 i))] ([(3,bs r),(28685, .arr 9 ((gz r.aj act aY i).map ai.row) v false)]::H) 72:=by
 intro k
 induction k with
 |zero=>
  intro i v hi ha hv;have e:i=r.aj.length:=(by omega);subst e;rw [HC _ _ _ (by omega)];have h1':=h1 v hv;apply aw;conv=>arg 4;whnf
  simp;exact h1'
 |succ k ih=>
  intro i v hi ha hv;have hia:i<r.aj.length:=(by omega);have hw:=dM (x:=(i:Int)+1) (by omega) (by omega);have hml:=Bu r.aj act aY (by omega) i (by omega);have g:=Bw r.aj act aY (by omega) hia;have gs:=yP r.aj act aY (by omega) ha hia;have tmi:=tm _ (List.getElem_mem hia);have hwt:=dM (x:=r.aj[i].aQ+1) (by omega) (by omega);have G: ∀h,(gz r.aj act aY i)[i]'h=r.aj[i]:=fun h=>(by rw [List.getElem?_eq_getElem h]at g;simpa using g);by_cases hwho:r.aj[i].aY=aY
  ·have ih':=ih (i+1) r.aj.length (by omega) (by omega) (Nat.le_refl _);rw [←gs]at ih';have el:late aY r.aj[i]={r.aj[i]with aQ:=r.aj[i].aQ+1}:=(by unfold late;rw [if_pos hwho]);rw [el]at ih';generalize gz r.aj act aY i=R at G hml ih'⊢;have hwb:(r.aj[i].aY==aY)=true:=(by simpa using hwho);apply aw;conv=>arg 4;whnf
   simp [hia,hml,hv,G,hw,hwt,hwb,hwho,ai.row,aD];simpa [ai.row,hwho,List.map_set]using ih'
  ·have ih':=ih (i+1) v (by omega) (by omega) hv;rw [←gs]at ih';have el:late aY r.aj[i]=r.aj[i]:=(by unfold late;rw [if_neg hwho]);rw [el]at ih';have es:(gz r.aj act aY i).set i r.aj[i]=gz r.aj act aY i:=by
    have hil:i<(gz r.aj act aY i).length:=(by omega);conv=>lhs;rw [←G hil]
    exact List.set_getElem_self hil
   rw [es]at ih';generalize gz r.aj act aY i=R at G hml ih'⊢;have hwb:(r.aj[i].aY==aY)=false:=(by simpa using hwho);apply aw;conv=>arg 4;whnf
   simp [hia,hml,hv,G,hw,hwb,ai.row];simpa using ih'
theorem yQ {a:ai}(h:a.kind≠1)(x:Int):kP {a with hand:=x}=kP a:=by
 unfold kP;simp [h]
theorem AB.flip {r:aI}{w:Nat}{a:ai}(h:AB r w a)(hk:a.kind≠1):AB r w {a with hand:=1-a.hand} where
 aY:=h.aY
 wl:=h.wl
 hand:=by rcases h.hand with e|e<;>simp [e]
 kind:=h.kind
 take:=h.take
 sI:=h.sI
 step:=h.step
 form:=by rw [yQ hk];exact h.form
theorem DS {r:aI}(hr:yO r)(a:ai):e9 r (vl r a):=
 (lW _ _ _ _ hr.snd (fun x hx=>hr.ab x ((List.takeWhile_sublist _).subset hx))).1
theorem xr {r:aI}(hr:yO r){act:Nat}(h:act<r.aj.length)(hp:r.aj.Pairwise fun a b=>a.aQ≤b.aQ)(tm: ∀a∈r.aj,0≤a.aQ∧a.aQ≤1000000)(h20:r.aj.length≤40){kind:Int}(hk2:kind=2→r.aj[act].kind≠1)(hH:0<H.length):
  aK KC (aE KC) 89 [.pure (.agg r.row), .pure (.int .i64 act), .pure (.int .i64 kind)] c H=some (.pure (.slice ((oS r act kind).map ai.row)),H):=by
 have hne:r.aj≠[]:=fun e=>(by rw [e]at h;simp at h);have k1:aq 12 7=28685:=(by decide);have C:=pq (c:=12) (H:=[(3,bs r)]::H) r.aj hne (by omega) (by simp) (by simp [k1]);simp only [List.length_cons,Nat.add_sub_cancel,k1]at C;have hset:ae.set ([(3,bs r)]::H) (H.length,28685) (.arr 9 (r.aj.map ai.row) 0 false)=[(3,bs r),(28685, .arr 9 (r.aj.map ai.row) 0 false)]::H:=(by simp);rw [hset]at C;have hg:r.aj.getD act ct=r.aj[act]:=aX h
 have D: ∀(rows:List (List PV)) (v:Nat),rows.length=r.aj.length→v≤r.aj.length→(∀x∈rows,x.length=9)→aK KC (aE KC) 102 [.ay (H.length,28685) 9 r.aj.length 0 r.aj.length, .pure (.int .i64 act), .pure (.int .i64 (act+1))] 71 ([(3,bs r),(28685, .arr 9 rows v false)]::H)=
   some (.ay (H.length,28685) 9 r.aj.length 0 (r.aj.length-1),[(3,bs r),(28685, .arr 9 (rows.take act++rows.drop (act+1)++[xt]) r.aj.length false)]::H):=fun rows v hl hv hw=>by
  have:=Bx (c:=71) (H:=[(3,bs r),(28685, .arr 9 rows v false)]::H) (nm:=(H.length,28685)) (rows:=rows) (v:=v) (k:=act) hl (by simp) hv h hw (by omega) (by simp);simpa using this
 have w9: ∀l:List ai,∀x∈l.map ai.row,x.length=9:=fun l x hx=>by
  obtain⟨a,_,rfl⟩:=List.mem_map.1 hx;rfl
 refine aU (bw KC au Try.func89 rfl rfl Lp rfl rfl rfl (by simp) hH ?_);have hw:=dM (x:=(act:Int)+1) (by omega) (by omega);have hnl: ¬H.length≤H.length-1:=(by omega);rw [iP];simp only [bs]at C D;unfold oS;rw [hg];by_cases e2:kind=2
 ·subst e2;have hab:=hr.ab _ (List.getElem_mem h);have hfl:=hab.flip (hk2 rfl);have hhand:r.aj[act].hand=0∨r.aj[act].hand=1:=hab.hand;have hwh:IntKind.i64.wrap (1-r.aj[act].hand)=1-r.aj[act].hand:=dM (by omega) (by omega);have B:=Br (c:=28) (H:=[(3,bs r),(28685, .arr 9 ((r.aj.map ai.row).set act ({r.aj[act]with hand:=1-r.aj[act].hand}:ai).row) r.aj.length false)]::H) hr h hp (by simp);have M:=fun c (H:ae) (hH:0<H.length)=>uy (c:=c) (H:=H) (DS hr r.aj[act]) hr.w hfl hH;rw [if_pos rfl];simp only [bs,ai.row]at B;rw [iP]at B;obtain⟨a',ha'⟩: ∃a':ai,{r.aj[act]with hand:=1-r.aj[act].hand}=a':=⟨_,rfl⟩;have hrow:(r.aj.map ai.row).set act [.int .i64 r.aj[act].aQ, .int .i64 r.aj[act].aY, .int .i64 r.aj[act].kind, .int .i64 (1-r.aj[act].hand), .int .i64 r.aj[act].bL, .int .i64 r.aj[act].cell, .int .i64 r.aj[act].other, .int .i64 r.aj[act].dE, .int .i64 r.aj[act].lf]=(r.aj.set act a').map ai.row:=by
   rw [List.map_set,←ha'];rfl
  obtain⟨T,hT⟩: ∃T,(r.aj.set act a').map ai.row=T:=⟨_,rfl⟩;have hTl:T.length=r.aj.length:=(by rw [←hT];simp);have hTg: ∀h,T[act]'h=a'.row:=fun h=>(by simp only [←hT,List.getElem_map,List.getElem_set_self]);have hT9:=w9 (r.aj.set act a');rw [hT]at hrow hT9;rw [hrow]at B;have D2:=D T r.aj.length hTl (Nat.le_refl _) hT9;have ee:r.aj.eraseIdx act=r.aj.take act++r.aj.drop (act+1):=List.eraseIdx_eq_take_drop_succ ..;have tkd:List.take act T=(r.aj.take act).map ai.row:=by
   rw [←hT,←List.map_take,List.take_set_of_le (Nat.le_refl _)]
  have drd:List.drop (act+1) T=(r.aj.drop (act+1)).map ai.row:=by
   rw [←hT,←List.map_drop,List.drop_set_of_lt (by omega)]
  rw [ha']at M⊢;simp only [ai.row]at M hTg
  cases hpos:cd r (vl r r.aj[act]) r.aj[act].aY.toNat a' with
  |true=>
   rw [hpos]at M;simp [C,ai.row,h,hwh,aD,hrow,B,M,hTl,hTg];rw [ah (by simp)];have tl:List.take r.aj.length T=(r.aj.set act a').map ai.row:=(by rw [hT];exact List.take_of_length_le (by omega));simp [hnl,hTl,tl];rfl
  |false=>
   rw [hpos]at M;simp [C,ai.row,h,hwh,aD,hrow,B,M,hTl,hTg,D2,hw];rw [ah (by simp)];have tl:List.take (r.aj.length-1) (List.take act T++(List.drop (act+1) T++[xt]))=(r.aj.eraseIdx act).map ai.row:=by
    rw [tkd,drd,ee,List.map_append,←List.append_assoc];exact List.take_left' (by simp only [List.length_append,List.length_map,List.length_take,List.length_drop];omega)
   have ml:min act r.aj.length+(r.aj.length-(act+1)+1)=r.aj.length:=(by omega);simp [hnl,tl,ml,hTl]
 ·have e2':(kind==2)=false:=(by simpa using e2);rw [if_neg e2];by_cases e3:kind=3
  ·subst e3;rw [if_pos rfl,show r.aj.take act++(r.aj.drop act).map (late r.aj[act].aY)=jA r.aj act r.aj[act].aY from rfl]
   have hn6:r.aj.length≤1000000:=(by omega);have hk6:act+(r.aj.length-act)=r.aj.length:=(by omega);have L:=fun Q h1=>DR (H:=H) r (r.aj[act]'h).aY h hn6 tm Q h1 (r.aj.length-act) act 0 hk6 (Nat.le_refl _) (Nat.zero_le _);rw [HB _ _ _ (by omega)]at L;simp only [bs]at L;have hll:=iG r.aj act r.aj[act].aY (by omega);simp [C,h,ai.row];refine L _ fun v hv=> ?_;obtain⟨v',hv',S⟩:=Bq (c:=65) (H:=[(3,bs r),(28685, .arr 9 ((jA r.aj act r.aj[act].aY).map ai.row) v false)]::H) (nm:=(H.length,28685)) (v:=v) (jA r.aj act r.aj[act].aY) hll h20 (by simp) hv;simp [bs]at S;simp [S];rw [ah (by simp)];have tl:List.take r.aj.length ((aP (jA r.aj act r.aj[act].aY)).map ai.row)=(aP (jA r.aj act r.aj[act].aY)).map ai.row:=List.take_of_length_le (by rw [List.length_map,bf,hll];exact Nat.le_refl _);have sl:(aP (jA r.aj act r.aj[act].aY)).length=r.aj.length:=(by rw [bf,hll]);simp [hnl,tl,sl,hv']
  ·have e3':(kind==3)=false:=(by simpa using e3);rw [if_neg e3];have D1:=D (r.aj.map ai.row) 0 (by simp) (Nat.zero_le _) (w9 _);have ee:r.aj.eraseIdx act=r.aj.take act++r.aj.drop (act+1):=List.eraseIdx_eq_take_drop_succ ..;simp [C,D1,e2',e3',hw];rw [ah (by simp)];have tl:List.take (r.aj.length-1) (List.take act (r.aj.map ai.row)++(List.drop (act+1) (r.aj.map ai.row)++[xt]))=(r.aj.eraseIdx act).map ai.row:=by
    rw [ee,List.map_append,List.map_take,List.map_drop,←List.append_assoc];exact List.take_left' (by rw [List.length_append,List.length_take,List.length_drop,List.length_map];omega)
   have ml:min act r.aj.length+(r.aj.length-(act+1)+1)=r.aj.length:=(by omega);simp [hnl,tl,ml]
theorem Bb {r:aI}(hr:yO r){act:Nat}(h:act<r.aj.length)(hp:r.aj.Pairwise fun a b=>a.aQ≤b.aQ)(tm: ∀a∈r.aj,0≤a.aQ∧a.aQ≤1000000)(h20:r.aj.length≤20){kind:Int}(hk2:kind=2→r.aj[act].kind≠1)(hH:0<H.length):
  aK KC (aE KC) 89 [.pure (.agg r.row), .pure (.int .i64 act), .pure (.int .i64 kind)] c H=some (.pure (.slice ((oS r act kind).map ai.row)),H):=xr hr h hp tm (by omega) hk2 hH
end
section
variable {c:Nat} {H:ae}
end
section
variable {c:Nat} {H:ae}
end
section
variable {c:Nat} {H:ae}
end
section
variable {c:Nat} {H:ae}
end
section
variable {c:Nat} {H:ae}
end
section
variable {c:Nat} {H:ae}
end
theorem zT {w d:Int}(h1:1≤w*d)(h2:w*d≤1000000):c9 w d=w*d-1:=by
 rw [vI,dM (x:=w*d) (by omega) (by omega),dM (x:=w*d-1) (by omega) (by omega)]
theorem gv {g:Nat→Int}: ∀{k i:Nat},bH g k i=0→ ∀j,i≤j→j<i+k→g j=0
 |0,_,_=>fun j a b=>by omega
 |k+1,i,h=>fun j a b=>by
  unfold bH at h;by_cases h0:g i=0
  ·by_cases e:j=i
   ·rw [e];exact h0
   ·refine gv (k:=k) (i:=i+1) ?_ j (by omega) (by omega);simpa [h0]using h
  ·simp [h0]at h
theorem fx {x lo hi:Int}(h:cF x lo hi≠false):lo≤x∧x≤hi:=by
 cases e:cF x lo hi with
 |false=>exact absurd e h
 |true=>exact l6.1 e
theorem bT {p:Prop} [Decidable p]{a b:Int}(ha:a≠0)(h:(if p then a else b)=0): ¬p∧b=0:=by
 by_cases hp:p
 ·rw [if_pos hp]at h;exact absurd h ha
 ·rw [if_neg hp]at h;exact⟨hp,h⟩
theorem ite_self {a b:Int}(h:(if a≠0 then a else b)=0):a=0∧b=0:=by
 by_cases hp:a≠0
 ·rw [if_pos hp]at h;exact absurd h hp
 ·rw [if_neg hp]at h;exact⟨by simpa using hp,h⟩
structure sx (r:aI):Prop where
 w:1≤r.wide∧r.wide≤6
 d:1≤r.deep∧r.deep≤6
 p0:r.ak≠[]
 p4:r.ak.length≤4
 t8:r.aa.length≤8
 pc: ∀p∈r.ak,0≤p.cell∧p.cell<r.wide*r.deep
 pn:(r.ak.map (·.cell)).Nodup
 tc: ∀t∈r.aa,(0≤t.cell∧t.cell<r.wide*r.deep)∧0≤t.state∧t.state<16
 ls: ∀x∈r.bg,1≤x∧x≤3
theorem sx.Di {r:aI}(h:sx r):1≤r.wide*r.deep∧r.wide*r.deep≤36:=by
 have h1:=h.w;have h2:=h.d;constructor
 ·have:=Int.mul_le_mul h1.1 h2.1 (by omega) (by omega);omega
 ·have:=Int.mul_le_mul h1.2 h2.2 (by omega) (by omega);omega
theorem HD {r:aI}(h:kO r=0):sx r:=by
 rw [td]at h;obtain⟨h1,h⟩:=bT (by decide) h;obtain⟨h2,h⟩:=bT (by decide) h;obtain⟨h3,h⟩:=bT (by decide) h;obtain⟨h4,h⟩:=ite_self h;obtain⟨h5,h⟩:=bT (by decide) h;obtain⟨h6,h⟩:=ite_self h;obtain⟨h7,h8⟩:=ite_self h;have w:=fx (fun e=>h1 (.inl e));have d:=fx (fun e=>h1 (.inr e));have ar:1≤r.wide*r.deep∧r.wide*r.deep≤36:=by
  constructor
  ·have:=Int.mul_le_mul w.1 d.1 (by omega) (by omega);omega
  ·have:=Int.mul_le_mul w.2 d.2 (by omega) (by omega);omega
 have top:c9 r.wide r.deep=r.wide*r.deep-1:=zT ar.1 (by omega);rw [top]at h4 h6;have P: ∀j (hj:j<r.ak.length),(0≤r.ak[j].cell∧r.ak[j].cell<r.wide*r.deep)∧dc r.ak j r.ak[j].cell=false:=fun j hj=>by
  have e:=gv h4 j (Nat.zero_le _) (by omega);rw [o9,aX hj]at e;obtain⟨_,e⟩:=bT (by decide) e;obtain⟨e2,e⟩:=bT (by decide) e;obtain⟨e3,_⟩:=bT (by decide) e;have:=fx e2;exact⟨⟨this.1,by omega⟩,by simpa using e3⟩
 refine⟨w,d,fun e=>h2 (by rw [e];rfl),by omega,by omega,fun p hp=> ?_, ?_,fun t ht=> ?_,fun x hx=> ?_⟩
 ·obtain⟨j,hj,rfl⟩:=List.getElem_of_mem hp;exact(P j hj).1
 ·rw [List.Nodup,List.pairwise_iff_getElem];intro i j hi hj hij;simp only [List.length_map]at hi hj;simp only [List.getElem_map];intro e;have:=(P j hj).2;unfold dc at this;rw [List.any_eq_false]at this;exact this r.ak[i] (List.mem_take_iff_getElem.2 ⟨i,by omega,rfl⟩) (by simpa using e)
 ·obtain⟨j,hj,rfl⟩:=List.getElem_of_mem ht;have e:=gv h6 j (Nat.zero_le _) (by omega);rw [qM,aX hj]at e;obtain⟨e1,e⟩:=bT (by decide) e;obtain⟨e2,_⟩:=bT (by decide) e;have a:=fx (fun x=>e1 (.inl x));have b:=fx (fun x=>e2 (.inl x));exact⟨⟨a.1,by omega⟩,b.1,by omega⟩
 ·obtain⟨j,hj,rfl⟩:=List.getElem_of_mem hx;have e:=gv h8 j (Nat.zero_le _) (by omega);rw [vK,aX hj]at e;obtain⟨e1,_⟩:=bT (by decide) e;exact fx e1
theorem HE {r:aI}(h:sx r){a:ai}(hw:0≤a.aY∧a.aY<r.ak.length)(hf:eK (c9 r.wide r.deep) r.aa.length r.ak.length a=0):AB r a.aY.toNat a:=by
 have ar:=h.Di;rw [zT ar.1 (by omega),pe]at hf;obtain⟨h1,hf⟩:=bT (by decide) hf;obtain⟨h2,hf⟩:=bT (by decide) hf;obtain⟨h3,hf⟩:=bT (by decide) hf;obtain⟨h4,hf⟩:=bT (by decide) hf;obtain⟨h5,hf⟩:=bT (by decide) hf;obtain⟨h6,hf⟩:=bT (by decide) hf;obtain⟨h7,_⟩:=bT (by decide) hf;have k:=fx h1;have hd:=fx h4;refine⟨by omega,by omega,by omega,k,fun e=> ?_,fun e=> ?_,fun e=> ?_,by simpa using h2⟩
 ·have:=fx (fun x=>h5 ⟨e,x⟩);exact⟨a.bL.toNat,by omega,by omega⟩
 ·have:=fx (fun x=>h6 ⟨e,x⟩);have h7': ¬a.other=a.aY:=fun x=>h7 ⟨e,x⟩;exact⟨a.other.toNat,by omega,by omega,by omega⟩
 ·have:=fx (fun x=>h3 ⟨e,x⟩);exact⟨this.1,by omega⟩
structure Sn (r:aI):Prop where
 n:r.aj.length≤40
 ab: ∀a∈r.aj,AB r a.aY.toNat a
 tm: ∀a∈r.aj,0≤a.aQ∧a.aQ≤1000
 pw:r.aj.Pairwise fun a b=>a.aQ≤b.aQ∧(a.aQ=b.aQ→a.aY≠b.aY)
theorem vd {r:aI}(h:c7 r=0):sx r∧Sn r:=by
 rw [qP]at h;obtain⟨h1,h⟩:=ite_self h;obtain⟨h2,h⟩:=bT (by decide) h;have R:=HD h1;have A: ∀j (hj:j<r.aj.length),AB r r.aj[j].aY.toNat r.aj[j]∧(0≤r.aj[j].aQ∧r.aj[j].aQ≤1000)∧(0<j→(r.aj.getD (j-1) ct).aQ≤r.aj[j].aQ)∧(r.aj.take j).any (jB r.aj[j])=false:=fun j hj=>by
  have e:=gv h j (Nat.zero_le _) (by omega);rw [vN,aX hj]at e;obtain⟨e1,e⟩:=bT (by decide) e;obtain⟨e2,e⟩:=bT (by decide) e;obtain⟨e3,e⟩:=bT (by decide) e;obtain⟨e4,e⟩:=bT (by decide) e;obtain⟨e5,e⟩:=ite_self e;have w:=fx e3;refine⟨HE R ⟨w.1,by omega⟩ e5,fx e1,fun h0=> ?_,by simpa using e4⟩;have: ¬r.aj[j].aQ<(r.aj.getD (j-1) ct).aQ:=fun x=>e2 ⟨h0,x⟩;omega
 have mono: ∀i j (hi:i<r.aj.length) (hj:j<r.aj.length),i<j→r.aj[i].aQ≤r.aj[j].aQ:=fun i j=>by
  induction j with
  |zero=>intro _ _ h;omega
  |succ j ih=>
   intro hi hj hij;have s:=(A (j+1) hj).2.2.1 (by omega);rw [Nat.add_sub_cancel,aX (by omega)]at s;by_cases e:i=j
   ·subst e;exact s
   ·have:=ih hi (by omega) (by omega);omega
 refine⟨R,by omega,fun a ha=> ?_,fun a ha=> ?_, ?_⟩
 ·obtain⟨j,hj,rfl⟩:=List.getElem_of_mem ha;exact(A j hj).1
 ·obtain⟨j,hj,rfl⟩:=List.getElem_of_mem ha;exact(A j hj).2.1
 ·rw [List.pairwise_iff_getElem];intro i j hi hj hij;refine⟨mono i j hi hj hij,fun e1 e2=> ?_⟩;have:=(A j hj).2.2.2;rw [List.any_eq_false]at this;refine this r.aj[i] (List.mem_take_iff_getElem.2 ⟨i,by omega,rfl⟩) ?_;unfold jB;simp [e1,e2]
theorem yR {r:aI}(h:sx r):e9 r (aV r):=by
 have ce: ∀l:List bA,∀t:Nat,ib (l.map fun _=>empty) t=0:=fun l t=>by
  induction l with
  |nil=>rfl
  |cons a l ih=>
   have: ¬(-1:Int)=t:=(by omega);simp only [List.map_cons,ib,ih];simp [uq,empty,this]
 refine {pl:=by simp [aV],hl:=by simp [aV],tl:=by simp [aV],hr:=fun i hi=> ?_,pr:=fun x hx=> ?_,pn:=h.pn,th:=fun t ht=> ?_,st:=fun t ht=> ?_}
 ·simp only [aV,List.getElem_map,empty,List.length_map];omega
 ·simp only [aV,List.mem_map]at hx;obtain⟨p,hp,rfl⟩:=hx;exact h.pc p hp
 ·have ht':t<r.aa.length:=(by simpa [aV]using ht);have e:((aV r).aa.getD t aJ)=j9 r.aa[t]:=by
   rw [aX ht];simp [aV]
  rw [e];exact .inr ⟨ce _ _,(h.tc _ (List.getElem_mem ht')).1.1,(h.tc _ (List.getElem_mem ht')).1.2⟩
 ·have ht':t<r.aa.length:=(by simpa [aV]using ht);have e:((aV r).aa.getD t aJ)=j9 r.aa[t]:=by
   rw [aX ht];simp [aV]
  rw [e];exact⟨(h.tc _ (List.getElem_mem ht')).2.1,(h.tc _ (List.getElem_mem ht')).2.2⟩
theorem zU {r:aI}(h:c7 r=0)(sh:jM r):yO r:=by
 obtain⟨R,A⟩:=vd h;have ar:=R.Di;have w:=R.w;have:=R.p4;have:=R.t8;have:=A.n;exact {w:=⟨w.1,by omega,by omega,by omega,by omega⟩,snd:=yR R,p0:=R.p0,al:=by omega,ab:=A.ab,sh:=sh,ck:=h}
section
variable {c:Nat} {H:ae}
end
section
variable {c:Nat} {H:ae}
end
section
variable {c:Nat} {H:ae}
end
section
variable {c:Nat} {H:ae}
noncomputable def HF (r:aI):PV:= .tuple (if c7 r=0 then (if (im r).2.2.2=0 then [.agg (im r).2.1.row, .int .i64 (-1), .int .i64 0]else [.agg [.slice [], .slice [], .slice []], .int .i64 (im r).2.2.1, .int .i64 (im r).2.2.2])else [.agg [.slice [], .slice [], .slice []], .int .i64 0, .int .i64 (c7 r)])
theorem xi {r:aI}(sh:jM r)(hH:0<H.length):bG KC (aE KC) 20 [.pure (.agg r.row)] c H=some (.pure (HF r),H):=by
 unfold HF;by_cases h0:c7 r=0
 ·rw [if_pos h0];exact HG (zU h0 sh) hH
 ·rw [if_neg h0];refine aU (aM KC au Try.func20 rfl rfl B3 (by simp) hH ?_);have C:=fun c (H:ae) (hH:0<H.length)=>vO (c:=c) (H:=H) r sh.s sh.l sh.p sh.t sh.a hH;have he':(c7 r !=0)=true:=(by simpa using h0);rw [iP]at C⊢;simp [C,he',aD];rw [ah (by simp)];simp
end
section
variable {c:Nat} {H:ae}
end
section
variable {c:Nat} {H:ae}
theorem DT (l:List ai)(hn:l.length≤1000000){F:Fr}(hf:F.get (aq c 7)=none):
  aK KC (aE KC) 80 [.pure (.slice (l.map ai.row))] c (F::H)=some (jL (H.length,aq c 7) 9 (l.map ai.row),kN (aq c 7) 9 (l.map ai.row) F::H):=by
 by_cases h:l=[]
 ·subst h;unfold aK;rw [show KC.vw 80=true from rfl]
  simp [jN,uh,qp]
 ·have h':l.map ai.row≠[]:=(by simpa using h);rw [pq (c:=c) (H:=F::H) l h hn (by simp) (by simpa using hf)];unfold jL kN;rw [if_neg h',if_neg h'];simp
end
section
variable {c:Nat} {H:ae}
end
section
variable {c:Nat} {H:ae}
end
section
variable {c:Nat} {H:ae}
end
section
variable {c:Nat} {H:ae}
def og (f f':Fr):Prop:=(f.ow→f'.ow)∧ ∀k,f'.get k=f.get k∨ ∃es rows v ro,f.get k=some (.arr es rows v ro)∧f'.get k=some (.arr es rows v true)
theorem og.refl (f:Fr):og f f:=⟨id,fun _=> .inl rfl⟩
theorem og.trans {a b d:Fr}(h1:og a b)(h2:og b d):og a d:=by
 refine⟨fun h=>h2.1 (h1.1 h),fun k=> ?_⟩;rcases h1.2 k with e1|⟨es,rows,v,ro,x1,y1⟩
 ·rcases h2.2 k with e2|⟨es,rows,v,ro,x2,y2⟩
  ·exact .inl (e2.trans e1)
  ·exact .inr ⟨es,rows,v,ro,e1▸x2,y2⟩
 ·rcases h2.2 k with e2|⟨es',rows',v',ro',x2,y2⟩
  ·exact .inr ⟨es,rows,v,ro,x1,e2.trans y1⟩
  ·rw [y1]at x2;cases x2;exact .inr ⟨es,rows,v,ro,x1,y2⟩
theorem og.none {f f':Fr}(h:og f f'){k:Nat}(hk:f.get k=none):f'.get k=none:=by
 rcases h.2 k with e|⟨es,rows,v,ro,x,y⟩
 ·rw [e,hk]
 ·rw [hk]at x;cases x
theorem og.empty {f':Fr}(h:og [] f'):f'=[]:=by
 cases f' with
 |nil=>rfl
 |cons x r=>
  obtain⟨k,b⟩:=x;have:=h.none (k:=k) rfl;simp at this
inductive kW:ae→ae→Prop
 |nil:kW [] []
 |cons {f f':Fr} {H H':ae} (h:og f f') (t:kW H H'):kW (f::H) (f'::H')
theorem kW.refl: ∀H:ae,kW H H
 | []=> .nil
 |f::H=> .cons (og.refl f) (kW.refl H)
theorem kW.trans {A B D:ae}(h1:kW A B)(h2:kW B D):kW A D:=by
 induction h1 generalizing D with
 |nil=>exact h2
 |cons h t ih=>cases h2 with|cons h' t'=>exact .cons (h.trans h') (ih t')
theorem kW.len {A B:ae}(h:kW A B):B.length=A.length:=by
 induction h with
 |nil=>rfl
 |cons _ _ ih=>simp [ih]
theorem kW.get {A B:ae}(h:kW A B)(nm:Nm):B.get nm=A.get nm∨ ∃es rows v ro,A.get nm=some (.arr es rows v ro)∧B.get nm=some (.arr es rows v true):=by
 induction h with
 |nil=>exact .inl rfl
 | @cons f f' H H' h t ih=>
  have hl:=t.len;rw [ae.eF,ae.eF,hl];by_cases e:nm.1=H.length
  ·rw [if_pos e,if_pos e];exact h.2 nm.2
  ·rw [if_neg e,if_neg e];exact ih
theorem kW.UM {A B:ae}(h:kW A B):gR A B:=fun nm es rows v ro hg=>by
 rcases h.get nm with e|⟨es',rows',v',ro',x,y⟩
 ·exact⟨ro,e.trans hg⟩
 ·rw [hg]at x;cases x;exact⟨true,y⟩
theorem og.ins {f:Fr}{k es:Nat}{rows:List (List PV)}{v:Nat}{ro:Bool}(h:f.get k=some (.arr es rows v ro)):og f (f.ins k (.arr es rows v true)):=by
 refine⟨fun hs=>Fr.fm hs,fun j=> ?_⟩;by_cases e:j=k
 ·subst e;exact .inr ⟨es,rows,v,ro,h,Fr.bO ..⟩
 ·exact .inl (Fr.aF _ e _)
theorem kW.set {nm:Nm}{es:Nat}{rows:List (List PV)}{v:Nat}{ro:Bool}: ∀{H:ae},H.get nm=some (.arr es rows v ro)→kW H (H.set nm (.arr es rows v true))
 | [],h=>by simp [ae.get]at h
 |f::H,h=>by
  rw [ae.eF]at h;simp only [ae.set];by_cases e:nm.1=H.length
  ·rw [if_pos e]at h⊢;exact .cons (og.ins h) (kW.refl H)
  ·rw [if_neg e]at h⊢;exact .cons (og.refl f) (kW.set h)
theorem sy (H:ae)(g:GV):kW H (dp H g).2:=by
 cases g with
 |ay nm es top lo len=>
  simp only [dp,df]
  cases hg:H.get nm with
  |none=>exact kW.refl H
  |some b=>
   cases b with
   |arr es' elems vf ro=>
    simp only;split
    ·exact kW.set hg
    ·exact kW.refl H
   |_=>exact kW.refl H
 |_=>exact kW.refl H
theorem qa: ∀(l:List GV) (H:ae),kW H (eZ H l).2
 | [],H=>kW.refl H
 |g::l,H=>(sy H g).trans (qa l _)
theorem uc (H:ae)(g:GV):kW H (cZ H g).2:=by
 cases g with
 |agg l=>exact qa l H
 |_=>exact sy H _
theorem om: ∀(l:List PV) (H:ae),br H (l.map .pure)=(l.map .pure,H)
 | [],H=>rfl
 |p::l,H=>by
  rw [List.map_cons];simp only [br];have e:cZ H (.pure p)=(.pure p,H):=rfl;rw [e];simp only [om l H]
end
section
variable {c:Nat} {H:ae}
theorem sj {f:FuncId}(h1:KC.vw f=false)(h2:KC.vF f=false)(h3:KC.BH f=true)(ps:List PV):aK KC (aE KC) f (ps.map .pure) c H=bG KC (aE KC) f (ps.map .pure) c H:=by
 rw [iE h1 h2 h3,om]
end
section
variable {c:Nat} {H:ae}
noncomputable def j0:aI→Int:=o8 fun r=>if c7 r=0 then (im r).2.2.2 else c7 r
theorem sn (r:aI):j0 r=if c7 r=0 then (im r).2.2.2 else c7 r:=by rw [j0,bR]
theorem Dl {r:aI}: ∃(s:az) (n:Int),HF r= .tuple [.agg s.row, .int .i64 n, .int .i64 (j0 r)]:=by
 unfold HF;rw [sn];by_cases h0:c7 r=0
 ·rw [if_pos h0,if_pos h0];by_cases he:(im r).2.2.2=0
  ·rw [if_pos he,he];exact⟨_,_,rfl⟩
  ·rw [if_neg he];exact⟨⟨[],[],[]⟩,_,rfl⟩
 ·rw [if_neg h0,if_neg h0];exact⟨⟨[],[],[]⟩,0,rfl⟩
noncomputable def vz:aI→Int→Int→Int:=o8 fun r act kind=>
 if j0 r≠0 then j0 r else if cF act 0 ((r.aj.length:Int)-1)=false then 7 else if cF kind 1 3=false then 4 else if kind=2∧(r.aj.getD act.toNat ct).kind=1 then 3 else 0
theorem vp (r:aI)(act kind:Int):vz r act kind=if j0 r≠0 then j0 r else if cF act 0 ((r.aj.length:Int)-1)=false then 7 else if cF kind 1 3=false then 4 else if kind=2∧(r.aj.getD act.toNat ct).kind=1 then 3 else 0:=by rw [vz,bR]
theorem sm {r:aI}(sh:jM r)(act kind:Int)(hH:0<H.length):
  bG KC (aE KC) 81 [.pure (.agg r.row), .pure (.int .i64 act), .pure (.int .i64 kind)] c H=some (.pure (.int .i64 (vz r act kind)),H):=by
 refine aU (aM KC au Try.func81 rfl rfl Lm (by simp) hH ?_);have R:=fun(c:Nat) (H:ae) (hH:0<H.length)=>(sj (f:=20) (c:=c) (H:=H) rfl rfl rfl [.agg r.row]).trans (xi (c:=c) sh hH);obtain⟨s,n,hs⟩:=Dl (r:=r);rw [hs]at R;have I:=fun(c:Nat) (x lo hi:Int) (H:ae) (hH:0<H.length)=>cE (c:=c) (x:=x) (lo:=lo) (hi:=hi) (H:=H) hH;have ha:=sh.a;have hw:IntKind.i64.wrap ((r.aj.length:Int)-1)=(r.aj.length:Int)-1:=dM (by omega) (by omega);simp only [List.map_cons,List.map_nil]at R;rw [iP]at R⊢;rw [vp];unfold az.row at R;by_cases he:j0 r=0
 ·rw [he]at R⊢;by_cases h1:cF act 0 ((r.aj.length:Int)-1)=true
  ·obtain⟨a1,a2⟩:=l6.1 h1;obtain⟨k,rfl⟩:=Int.eq_ofNat_of_zero_le a1;have hk:k<r.aj.length:=(by omega);have hg:r.aj.getD k ct=r.aj[k]:=aX hk;by_cases h2:cF kind 1 3=true
   ·by_cases h3:kind=2
    ·subst h3;have h2':cF 2 1 3=true:=(by decide);by_cases h4:r.aj[k].kind=1
     ·simp [R,I,hw,h1,h2',hk,ai.row,h4,ah,aD,hg]
     ·have h4':(r.aj[k].kind==1)=false:=(by simpa using h4);simp [R,I,hw,h1,h2',hk,ai.row,h4,h4',ah,aD,hg]
    ·have h3':(kind==2)=false:=(by simpa using h3);simp [R,I,hw,h1,h2,h3,h3',ah,aD]
   ·have h2':cF kind 1 3=false:=(by simpa using h2);simp [R,I,hw,h1,h2',ah,aD]
  ·have h1':cF act 0 ((r.aj.length:Int)-1)=false:=(by simpa using h1);simp [R,I,hw,h1',ah,aD]
 ·have he':(j0 r !=0)=true:=(by simpa using he);simp [R,he,he',ah,aD]
end
section
variable {c:Nat} {H:ae}
end
section
variable {c:Nat} {H:ae}
def M4 (H:ae)(fr:Fr)(g:GV)(A:List ai):Prop:=
 (g= .aO∧A=[])∨(A≠[]∧ ∃key v,g= .ay (H.length,key) 9 A.length 0 A.length∧fr.get key=some (.arr 9 (A.map ai.row) v false)∧v≤A.length)
theorem DU {key:Nat} {fr:Fr} {g:GV} {A:List ai} (a:ai) (L:M4 H fr g A) (hf:fr.get key=none) (hn:A.length+1≤1000000) (R:GV×ae→Prop)
  (h: ∀g' fr',M4 H fr' g' (A++[a])→(∀q top,g'= .ay (H.length,q) 9 top 0 top→q=key∨ ∃top,g= .ay (H.length,q) 9 top 0 top)→(∀k,k≠key→(∀top,g≠ .ay (H.length,k) 9 top 0 top)→fr'.get k=fr.get k)→R (g',fr'::H)):
  j5 (Eb H.length key g 9 72 [a.row] (fr::H)) R:=by
 rcases L with ⟨rfl,rfl⟩|⟨hne,qg,v,rfl,hg,hv⟩
 ·have hm: ¬H.length+1≤H.length:=(by omega);have:=h (.ay (H.length,key) 9 1 0 1) (fr.ins key (.arr 9 [a.row] 0 false)) (Or.inr ⟨by simp,key,0,rfl,Fr.bO _ _ _,Nat.zero_le _⟩) (fun q top e=>by cases e;exact Or.inl rfl) (fun k hk _=>Fr.aF _ hk _);simp [hf,hm];exact this
 ·have hb:(A.length+1)*72≤1099511627776:=(by omega);have:=h (.ay (H.length,qg) 9 (A.length+1) 0 (A.length+1)) (fr.ins qg (.arr 9 (A.map ai.row++[a.row]) v false)) (Or.inr ⟨by simp,qg,v,by simp,by rw [Fr.bO];simp,by simp;omega⟩) (fun q top e=>by cases e;exact Or.inr ⟨_,rfl⟩) (fun k _ hk=>Fr.aF _ (fun e=>by subst e;exact hk _ rfl) _);simp [hg,hv,hb];exact this
end
section
variable {c:Nat} {H:ae}
end
section
variable {c:Nat} {H:ae}
end
section
structure sS (r:aI)(k:Nat)(kind:Int):Prop where
 run:yO r
 lt:k<r.aj.length
 kd:kind=1∨kind=2∨kind=3
 hand:kind=2→(r.aj[k]'lt).kind≠1
 ok:(im r).2.2.2=0
 tm: ∀a∈r.aj,0≤a.aQ∧a.aQ≤1000
 pw:r.aj.Pairwise fun a b=>a.aQ≤b.aQ
 TC:r.aj.length≤40
 room:sx r
theorem xg {r:aI}(sh:jM r){act kind:Int}(h:vz r act kind=0): ∃k:Nat,act=k∧sS r k kind:=by
 rw [vp]at h;obtain⟨h1,h⟩:=ite_self h;obtain⟨h2,h⟩:=bT (by decide) h;obtain⟨h3,h⟩:=bT (by decide) h;obtain⟨h4,h⟩:=bT (by decide) h;have h2':cF act 0 ((r.aj.length:Int)-1)=true:=(by simpa using h2);have h3':cF kind 1 3=true:=(by simpa using h3);obtain⟨a1,a2⟩:=l6.1 h2';obtain⟨b1,b2⟩:=l6.1 h3';obtain⟨k,rfl⟩:=Int.eq_ofNat_of_zero_le a1;have hk:k<r.aj.length:=(by omega);rw [sn]at h1;have hc:c7 r=0:=by
  rcases Decidable.em (c7 r=0)with e|e
  ·exact e
  ·rw [if_neg e]at h1;exact h1
 rw [if_pos hc]at h1;obtain⟨R,A⟩:=vd hc;refine⟨k,rfl,zU hc sh,hk,by omega,fun e=> ?_,h1,A.tm,A.pw.imp fun x=>x.1,A.n,R⟩;have hg:r.aj.getD (Int.toNat (k:Int)) ct=r.aj[k]:=aX hk;rw [hg]at h4;exact fun e2=>h4 ⟨e,e2⟩
section
variable {r:aI} {k:Nat} {kind:Int} (h:sS r k kind)
include h
theorem sS.get:r.aj.getD k ct=r.aj[k]'h.lt:=aX h.lt
theorem De:(oS r k kind).length≤r.aj.length:=by
 unfold oS;have:=h.lt;split
 ·split
  ·simp
  ·rw [List.length_eraseIdx];split<;>omega
 ·split
  ·rw [bf];simp;omega
  ·rw [List.length_eraseIdx];split<;>omega
omit h in
theorem yS (aY:Int)(a:ai):(late aY a=a∨late aY a=setAt a (a.aQ+1)):=by
 unfold late;split
 ·exact Or.inr rfl
 ·exact Or.inl rfl
theorem Df {x:ai}(hx:x∈oS r k kind):AB r x.aY.toNat x∧0≤x.aQ∧x.aQ≤1001:=by
 have hm: ∀a∈r.aj,AB r a.aY.toNat a∧0≤a.aQ∧a.aQ≤1001:=fun a ha=>by
  have:=h.tm a ha;exact⟨h.run.ab a ha,by omega,by omega⟩
 unfold oS at hx;rw [h.get]at hx;split at hx
 ·rename_i hk;split at hx
  ·rcases List.mem_or_eq_of_mem_set hx with hx|rfl
   ·exact hm x hx
   ·have h1:=hm _ (List.getElem_mem h.lt);exact⟨h1.1.flip (h.hand hk),h1.2⟩
  ·exact hm x (List.mem_of_mem_eraseIdx hx)
 ·split at hx
  ·have hx:=(ni _).mem_iff.1 hx;rcases List.mem_append.1 hx with hx|hx
   ·exact hm x (List.mem_of_mem_take hx)
   ·obtain⟨a,ha,rfl⟩:=List.mem_map.1 hx;have ha':=List.mem_of_mem_drop ha;have h1:=hm a ha';have h2:=h.tm a ha';rcases yS (r.aj[k]'h.lt).aY a with e|e
    ·rw [e];exact h1
    ·rw [e];exact⟨Cp h1.1,by show 0≤a.aQ+1;omega,by show a.aQ+1≤1001;omega⟩
  ·exact hm x (List.mem_of_mem_eraseIdx hx)
end
def JT (r:aI)(w:Nat):List ai:=cL (r.wide*r.deep).toNat r.aa.length r.ak.length w
def sg (r:aI)(k:Nat):Nat:=(r.aj.getD k ct).aY.toNat
noncomputable def Dh (r:aI)(k:Nat)(kind:Int):List az×az×Int×Int:=dn r (fu (qm r k kind) (oS r k kind)).length (aV r) (fu (qm r k kind) (oS r k kind)) 0
noncomputable def zG (fin:az→List ai→Bool)(r:aI)(k:Nat)(kind:Int):Option (List ai):=
 if (Dh r k kind).2.2.2≠0 then none else (List.range 4).findSome? fun n=>xG r (sg r k) (JT r (sg r k)) fin n (Dh r k kind).2.1 []
noncomputable def gq (r:aI)(k:Nat)(kind:Int):Option (List ai):=zG (mz r (behind (qm r k kind) (oS r k kind))) r k kind
theorem sS.wl {r:aI}{k:Nat}{kind:Int}(h:sS r k kind):sg r k<r.ak.length:=by
 unfold sg;rw [h.get];exact(h.run.ab _ (List.getElem_mem h.lt)).wl
theorem sS.Di {r:aI}{k:Nat}{kind:Int}(h:sS r k kind):((r.wide*r.deep).toNat:Int)=r.wide*r.deep∧0<(r.wide*r.deep).toNat∧(r.wide*r.deep).toNat≤36:=by
 have:=h.room.Di;omega
noncomputable def zH (r:aI)(act kind:Int):PV:= .tuple (if vz r act kind≠0 then [.slice [], .int .i64 (vz r act kind)]else match gq r act.toNat kind with|some l=> [.slice (l.map ai.row), .int .i64 0]|none=> [.slice [], .int .i64 7])
noncomputable def pU (r:aI)(i:Nat)(x:Int):Bool:=decide (x=2∧(r.aj.getD i ct).kind=1)||(gq r i x).isSome
noncomputable def mN (r:aI)(i:Nat)(l:List Int):Option (Int×Int):=l.findSome? fun x=>if pU r i x=true then none else some ((i:Int),x)
noncomputable def mO (r:aI)(k i:Nat):Option (Int×Int):=(List.range' i k).findSome? fun i=>mN r i r.bg
noncomputable def ub (r:aI):PV:= .tuple (if j0 r≠0 then [.int .i64 0, .int .i64 0, .int .i64 (j0 r)]else match mO r r.aj.length 0 with|some (i,x)=> [.int .i64 i, .int .i64 x, .int .i64 0]|none=> [.int .i64 (-1), .int .i64 0, .int .i64 0])
theorem Hh {r:aI}(h:j0 r=0){i:Nat}(hi:i<r.aj.length){x:Int}(hx:1≤x∧x≤3)(hk: ¬(x=2∧(r.aj.getD i ct).kind=1)):vz r i x=0:=by
 rw [vp,if_neg (by simpa using h),if_neg (by have:cF (i:Int) 0 ((r.aj.length:Int)-1)=true:=l6.2 ⟨by omega,by omega⟩;simp [this]),if_neg (by have:cF x 1 3=true:=l6.2 hx;simp [this]),if_neg (by simpa using hk)]
end
section
variable {c:Nat} {H:ae}
@[simp] theorem M5 {cs:List PV}:canon (.bF cs)= .bF cs:= .trans rfl rfl
theorem kJ {G:ae}{nm:Nm}(h:nm.1<G.length): ∀pre:ae,ae.get (pre++G) nm=ae.get G nm
 | []=>rfl
 |X::pre=>by
  show ae.get (X::(pre++G)) nm=_
  rw [ae.eF,if_neg (by simp;omega),kJ h pre]
structure xu (nm:Nm)(n0:Nat)(α:Type)(C:α→ae)(ps:ai→Bool)(cont:ai→α→Bool)(next:ai→α→α)(ok:α→Prop)(A:ai→Prop):Prop where
 pos:0<n0
 lp:nm.1<n0
 len: ∀a,(C a).length=n0
 gr: ∀(x:ai) (a:α) (pre:ae),A x→ps x=true→ok a→ground (aE KC) nm [.pure (.agg x.row)] (pre++C a)=some (.pure (.bool (cont x a)),pre++C (next x a))
 So: ∀(x:ai) (a:α),A x→ok a→cont x a=true→ok (next x a)
def dI {α:Type}(pos:ai→Bool)(cont:ai→α→Bool)(next:ai→α→α):List ai→α→α×Bool
 | [],a=>(a,true)
 |x::l,a=>if pos x=true then (if cont x a=true then dI pos cont next l (next x a)else (next x a,false))else dI pos cont next l a
theorem gw {α:Type}{pos:ai→Bool}{cont:ai→α→Bool}{next:ai→α→α}: ∀(l m:List ai) (a:α),dI pos cont next (l++m) a=if (dI pos cont next l a).2=true then dI pos cont next m (dI pos cont next l a).1 else dI pos cont next l a
 | [],m,a=>by simp [dI]
 |x::l,m,a=>by
  simp only [List.cons_append,dI];split
  ·split
   ·exact gw l m _
   ·simp
  ·exact gw l m a
section
variable {r:aI} {s:az} {w:Nat} {nm:Nm} {n0:Nat} {α:Type} {C:α→ae} {cont:ai→α→Bool} {next:ai→α→α} {ok:α→Prop} {A:ai→Prop} (hC:xu nm n0 α C (cd r s w) cont next ok A) (hS:e9 r s) (hW:WB r) (hA: ∀x,A x→AB r w x)
include hC hS hW hA
theorem qG {F0:Fr}(f3:F0.get 3=some (.box [.yield nm])){x:ai}(hx:A x){a:α}(ha:ok a)(pre:ae):
  aK KC (aE KC) 105 [.pure (.agg x.row), .bF (aH r s), .aA (n0,3) 0] c (pre++F0::C a)=
   some (.pure (.bool (if cd r s w x=true then cont x a else true)),pre++F0::C (if cd r s w x=true then next x a else a)):=by
 refine aU (bw KC au Try.func105 rfl rfl FM rfl rfl rfl (by simp) (by simp;omega) ?_);have hlen:=hC.len;have g3:ae.get (pre++F0::C a) (n0,3)=some (.box [.yield nm]):=by
  rw [kJ (by simp [hlen])];rw [ae.eF,if_pos (by simp [hlen])];exact f3
 have M:=fun(c:Nat) (H:ae) (hH:0<H.length)=>uy (c:=c) (H:=H) hS hW (hA x hx) hH;have G:=fun hp=>hC.gr x a ([(3, .box (x.row.map .pure))]::(pre++[F0])) hx hp ha;simp only [List.cons_append,List.append_assoc,List.nil_append]at G;have ne: ¬n0=pre.length+(n0+1):=(by omega);rw [bh]at G;rw [aH,bh]at M;rw [aH,bh]
 cases hp:cd r s w x with
 |true=>
  have G:=G hp;simp at G;simp [g3,hlen,ne,M,hp,G,ah]
 |false=>simp [g3,hlen,ne,M,hp,ah]
end
end
section
variable {c:Nat} {H:ae}
def hJ (r:aI)(s:az)(n0:Nat):GV:= .func 105 [] [.bF (aH r s), .aA (n0,3) 0]
section
variable {r:aI} {s:az} {n0:Nat}
theorem gF {G:ae}{l0:Nat}(h:n0≤l0):clean G l0 (hJ r s n0)=hJ r s n0:=by
 show fN G l0 (.func _ [] [_,_])=_
 have e:cT l0 ([]:List GV)=true:=rfl;have e2:cT l0 [.bF (aH r s), .aA (n0,3) 0]=true:=(by simp [cT,h]);show (if (cT l0 [] && cT l0 [.bF (aH r s), .aA (n0,3) 0])=true then _ else _)=_
 rw [e,e2];rfl
theorem dA {rec:Rec}{x:GV}{c:Nat}{G:ae}:cV KC rec (hJ r s n0) [x] c G=aK KC rec 105 [x, .bF (aH r s), .aA (n0,3) 0] c G:=rfl
end
section
variable {r:aI} {s:az} {w:Nat} {nm:Nm} {n0:Nat} {α:Type} {C:α→ae} {cont:ai→α→Bool} {next:ai→α→α} {ok:α→Prop} {A:ai→Prop} (hC:xu nm n0 α C (cd r s w) cont next ok A) (hS:e9 r s) (hW:WB r) (hA: ∀x,A x→AB r w x)
include hC hS hW hA
theorem yT {F0:Fr}(f3:F0.get 3=some (.box [.yield nm])){n:Nat}(hn:n≤1000000)(hall: ∀x∈lk w n 0,A x)(Q:GX→bE→Prop): ∀(k i:Nat) (a:α),i+k=n→ok a→
  (∀a',dI (cd r s w) cont next (lk w k i) a=(a',true)→ok a'→Q (.exit 2) ⟨[(1, .bF (aH r s)),(2, .bF [.int .i64 w]),(4,hJ r s n0),(5, .pure (.int .i64 1))],[]::F0::C a',79⟩)→
  (∀a',dI (cd r s w) cont next (lk w k i) a=(a',false)→Q .ret ⟨[(1, .bF (aH r s)),(2, .bF [.int .i64 w]),(4,hJ r s n0),(5, .pure (.int .i64 1))],[]::F0::C a',79⟩)→
  jf KC au 104 (lp Try.f104 1) [1,2,4,5,18,19] [1,2,4,5] Q
   [(1, .bF (aH r s)),(2, .bF [.int .i64 w]),(4,hJ r s n0),(5, .pure (.int .i64 1)),(18, .pure (.int .i64 n)),(19, .pure (.int .i64 i))] ([]::F0::C a) 79:=by
 have hlen:=hC.len;have CL:=fun(G:ae) (l0:Nat) (h:n0≤l0)=>gF (r:=r) (s:=s) (G:=G) h;have c1:=fun G=>CL G n0 (by omega);have c2:=fun G=>CL G (n0+1) (by omega);intro k
 induction k with
 |zero=>
  intro i a hk ho h1 _;have h1':=h1 a rfl ho;have hnl: ¬i<n:=(by omega);apply aw;conv=>arg 4;whnf
  simp [hnl,hlen,c1,c2];simpa using h1'
 |succ k ih=>
  intro i a hk ho h1 h2;have hil:i<n:=(by omega);have hw:=dM (x:=(i:Int)+1) (by omega) (by omega)
  have hx:A (cn w 1 0 0 i 0):=hall _ (by
   unfold lk;exact List.mem_map.2 ⟨i,by simp [List.mem_range'];omega,rfl⟩)
  have HO:=fun(c:Nat)=>qG (c:=c) hC hS hW hA f3 hx ho [[],[]];rw [xM]at h1 h2;simp only [dI]at h1 h2;simp only [List.cons_append,List.nil_append]at HO;generalize hB:cd r s w (cn w 1 0 0 i 0)=b at HO h1 h2;have hrow:(cn w 1 0 0 i 0).row=[.int .i64 0, .int .i64 w, .int .i64 1, .int .i64 0, .int .i64 0, .int .i64 i, .int .i64 0, .int .i64 0, .int .i64 0]:=rfl;rw [hrow]at HO;apply aw;conv=>arg 4;whnf
  cases b with
  |false=>
   simp only [Bool.false_eq_true,if_false]at HO h1 h2;have ih':=ih (i+1) a (by omega) ho h1 h2;simp [hil,hlen,c1,c2,dA,HO,hw];simpa using ih'
  |true=>
   simp only [if_true]at HO h1 h2
   cases hc:cont (cn w 1 0 0 i 0) a with
   |true=>
    rw [hc]at HO h1 h2;simp only [if_true]at h1 h2;have ih':=ih (i+1) (next (cn w 1 0 0 i 0) a) (by omega) (hC.So _ _ hx ho hc) h1 h2
    simp [hil,hlen,c1,c2,dA,HO,hw];simpa using ih'
   |false=>
    rw [hc]at HO h1 h2;have h2':=h2 _ rfl;simp [hil,hlen,c1,c2,dA,HO,hw];simpa using h2'
def aB (x:ai):Fr:=[(8, .box [.pure (.int .i64 x.aQ), .pure (.int .i64 x.aY), .pure (.int .i64 x.kind), .pure (.int .i64 x.hand), .pure (.int .i64 x.bL), .pure (.int .i64 x.cell), .pure (.int .i64 x.other), .pure (.int .i64 x.dE), .pure (.int .i64 x.lf)])]
theorem xv {F0:Fr}(f3:F0.get 3=some (.box [.yield nm])){n h:Nat}(hn:n≤1000000)(hall: ∀x∈jC w h n 0,A x)(Q:GX→bE→Prop): ∀(k i:Nat) (t:Int) (a:α),i+k=n→ok a→
  (∀a' t',dI (cd r s w) cont next (jC w h k i) a=(a',true)→ok a'→Q (.exit 7) ⟨[(1, .bF (aH r s)),(2, .bF [.int .i64 w]),(4,hJ r s n0),(5, .pure (.int .i64 2)),(30, .pure (.int .i64 h))],aB (cn w 2 h t' 0 0)::[]::F0::C a',79⟩)→
  (∀a' F1,dI (cd r s w) cont next (jC w h k i) a=(a',false)→Q .ret ⟨[(1, .bF (aH r s)),(2, .bF [.int .i64 w]),(4,hJ r s n0),(5, .pure (.int .i64 2)),(30, .pure (.int .i64 h))],F1::[]::F0::C a',79⟩)→
  jf KC au 104 (lp Try.f104 3) [1,2,4,5,8,30,47,48] [1,2,4,5,30] Q
   [(1, .bF (aH r s)),(2, .bF [.int .i64 w]),(4,hJ r s n0),(5, .pure (.int .i64 2)),(8, .aA (n0+2,8) 0),(30, .pure (.int .i64 h)),(47, .pure (.int .i64 n)),(48, .pure (.int .i64 i))] (aB (cn w 2 h t 0 0)::[]::F0::C a) 79:=by
 have hlen:=hC.len;have CL:=fun(G:ae) (l0:Nat) (h:n0≤l0)=>gF (r:=r) (s:=s) (G:=G) h;have c1:=fun G=>CL G (n0+1) (by omega);have c2:=fun G=>CL G (n0+2) (by omega);have ne1: ¬n0+2=n0+3:=(by omega);intro k
 induction k with
 |zero=>
  intro i t a hk ho h1 _;have h1':=h1 a t rfl ho;have hnl: ¬i<n:=(by omega);apply aw;conv=>arg 4;whnf
  simp [hnl,hlen,c1,c2];simpa using h1'
 |succ k ih=>
  intro i t a hk ho h1 h2;have hil:i<n:=(by omega);have hw:=dM (x:=(i:Int)+1) (by omega) (by omega)
  have hx:A (cn w 2 h i 0 0):=hall _ (by
   unfold jC;exact List.mem_map.2 ⟨i,by simp [List.mem_range'];omega,rfl⟩)
  have HO:=fun(c:Nat)=>qG (c:=c) hC hS hW hA f3 hx ho [[],aB (cn w 2 h i 0 0),[]];rw [vQ]at h1 h2;simp only [dI]at h1 h2;simp only [List.cons_append,List.nil_append]at HO;generalize hB:cd r s w (cn w 2 h i 0 0)=b at HO h1 h2;have hrow:(cn w 2 h i 0 0).row=[.int .i64 0, .int .i64 w, .int .i64 2, .int .i64 h, .int .i64 i, .int .i64 0, .int .i64 0, .int .i64 0, .int .i64 0]:=rfl;rw [hrow]at HO;simp only [aB,cn]at HO ih⊢;apply aw;conv=>arg 4;whnf
  cases b with
  |false=>
   simp only [Bool.false_eq_true,if_false]at HO h1 h2;have ih':=ih (i+1) i a (by omega) ho h1 h2;simp [hil,hlen,c1,c2,ne1,dA,HO,hw];simpa using ih'
  |true=>
   simp only [if_true]at HO h1 h2
   cases hc:cont (cn w 2 h i 0 0) a with
   |true=>
    rw [hc]at h1 h2;simp only [cn]at hc;rw [hc]at HO;simp only [if_true]at h1 h2;have ih':=ih (i+1) i (next (cn w 2 h i 0 0) a) (by omega) (hC.So _ _ hx ho hc) h1 h2
    simp only [cn]at ih';simp [hil,hlen,c1,c2,ne1,dA,HO,hw];simpa using ih'
   |false=>
    rw [hc]at h1 h2;have h2':=h2 _ [(8, .box [.pure (.int .i64 0), .pure (.int .i64 w), .pure (.int .i64 2), .pure (.int .i64 h), .pure (.int .i64 i), .pure (.int .i64 0), .pure (.int .i64 0), .pure (.int .i64 0), .pure (.int .i64 0)])] rfl;simp only [cn]at hc h2';rw [hc]at HO;simp [hil,hlen,c1,c2,ne1,dA,HO,hw];simpa using h2'
theorem xw {F0:Fr}(f3:F0.get 3=some (.box [.yield nm])){n h:Nat}(hn:n≤1000000)(hall: ∀x∈ia w h n 0,A x)(Q:GX→bE→Prop): ∀(k i:Nat) (t:Int) (a:α),i+k=n→ok a→
  (∀a' t',dI (cd r s w) cont next (ia w h k i) a=(a',true)→ok a'→Q (.exit 9) ⟨[(1, .bF (aH r s)),(2, .bF [.int .i64 w]),(4,hJ r s n0),(5, .pure (.int .i64 4)),(30, .pure (.int .i64 h))],aB (cn w 4 h 0 0 t')::[]::F0::C a',79⟩)→
  (∀a' F1,dI (cd r s w) cont next (ia w h k i) a=(a',false)→Q .ret ⟨[(1, .bF (aH r s)),(2, .bF [.int .i64 w]),(4,hJ r s n0),(5, .pure (.int .i64 4)),(30, .pure (.int .i64 h))],F1::[]::F0::C a',79⟩)→
  jf KC au 104 (lp Try.f104 4) [1,2,4,5,8,30,62,63] [1,2,4,5,30] Q
   [(1, .bF (aH r s)),(2, .bF [.int .i64 w]),(4,hJ r s n0),(5, .pure (.int .i64 4)),(8, .aA (n0+2,8) 0),(30, .pure (.int .i64 h)),(62, .pure (.int .i64 n)),(63, .pure (.int .i64 i))] (aB (cn w 4 h 0 0 t)::[]::F0::C a) 79:=by
 have hlen:=hC.len;have CL:=fun(G:ae) (l0:Nat) (h:n0≤l0)=>gF (r:=r) (s:=s) (G:=G) h;have c1:=fun G=>CL G (n0+1) (by omega);have c2:=fun G=>CL G (n0+2) (by omega);have ne1: ¬n0+2=n0+3:=(by omega);intro k
 induction k with
 |zero=>
  intro i t a hk ho h1 _;have h1':=h1 a t rfl ho;have hnl: ¬i<n:=(by omega);apply aw;conv=>arg 4;whnf
  simp [hnl,hlen,c1,c2];simpa using h1'
 |succ k ih=>
  intro i t a hk ho h1 h2;have hil:i<n:=(by omega);have hw:=dM (x:=(i:Int)+1) (by omega) (by omega);by_cases hiw:(i:Int)=w
  ·rw [pf,if_pos hiw]at h1 h2;have ih':=ih (i+1) i a (by omega) ho h1 h2;have hiw2:i=w:=(by omega);subst hiw2;simp only [aB,cn]at ih'⊢;apply aw;conv=>arg 4;whnf
   simp [hil,hlen,c1,c2,ne1,hw];simpa using ih'
  ·have hiw':((i:Int)==(w:Int))=false:=by simpa using hiw
   have hx:A (cn w 4 h 0 0 i):=hall _ (by
    unfold ia;exact List.mem_map.2 ⟨i,List.mem_filter.2 ⟨by simp [List.mem_range'];omega,by simpa using hiw⟩,rfl⟩)
   have HO:=fun(c:Nat)=>qG (c:=c) hC hS hW hA f3 hx ho [[],aB (cn w 4 h 0 0 i),[]];rw [pf,if_neg hiw]at h1 h2;simp only [dI]at h1 h2;simp only [List.cons_append,List.nil_append]at HO;generalize hB:cd r s w (cn w 4 h 0 0 i)=b at HO h1 h2;have hrow:(cn w 4 h 0 0 i).row=[.int .i64 0, .int .i64 w, .int .i64 4, .int .i64 h, .int .i64 0, .int .i64 0, .int .i64 i, .int .i64 0, .int .i64 0]:=rfl;rw [hrow]at HO;simp only [aB,cn]at HO ih⊢;apply aw;conv=>arg 4;whnf
   cases b with
   |false=>
    simp only [Bool.false_eq_true,if_false]at HO h1 h2;have ih':=ih (i+1) i a (by omega) ho h1 h2;simp [hil,hlen,c1,c2,ne1,dA,HO,hw,hiw,hiw'];simpa using ih'
   |true=>
    simp only [if_true]at HO h1 h2
    cases hc:cont (cn w 4 h 0 0 i) a with
    |true=>
     rw [hc]at h1 h2;simp only [cn]at hc;rw [hc]at HO;simp only [if_true]at h1 h2;have ih':=ih (i+1) i (next (cn w 4 h 0 0 i) a) (by omega) (hC.So _ _ hx ho hc) h1 h2
     simp only [cn]at ih';simp [hil,hlen,c1,c2,ne1,dA,HO,hw,hiw,hiw'];simpa using ih'
    |false=>
     rw [hc]at h1 h2;have h2':=h2 _ [(8, .box [.pure (.int .i64 0), .pure (.int .i64 w), .pure (.int .i64 4), .pure (.int .i64 h), .pure (.int .i64 0), .pure (.int .i64 0), .pure (.int .i64 i), .pure (.int .i64 0), .pure (.int .i64 0)])] rfl;simp only [cn]at hc h2';rw [hc]at HO;simp [hil,hlen,c1,c2,ne1,dA,HO,hw,hiw,hiw'];simpa using h2'
end
end
section
variable {c:Nat} {H:ae}
def sV (r:aI)(w kind:Nat)(k h:Nat):List ai:=(List.range' h k).flatMap fun(h:Nat)=>lq r.aa.length r.ak.length w kind h
theorem oW (r:aI)(w kind k h:Nat):sV r w kind (k+1) h=lq r.aa.length r.ak.length w kind h++sV r w kind k (h+1):=by simp [sV,List.range'_succ]
theorem ud (r:aI)(w kind:Nat):sV r w kind 2 0=vP r.aa.length r.ak.length w kind:=by
 rw [oW,oW];simp [sV,vP]
section
variable {r:aI} {s:az} {w:Nat} {nm:Nm} {n0:Nat} {α:Type} {C:α→ae} {cont:ai→α→Bool} {next:ai→α→α} {ok:α→Prop} {A:ai→Prop} (hC:xu nm n0 α C (cd r s w) cont next ok A) (hS:e9 r s) (hW:WB r) (hA: ∀x,A x→AB r w x)
include hC hS hW hA
theorem xx {F0:Fr}(f3:F0.get 3=some (.box [.yield nm])){kind:Nat}(hk1:kind≠1)(hk:kind≤8)(hall: ∀x∈sV r w kind 2 0,A x)(Q:GX→bE→Prop): ∀(k h:Nat) (a:α),h+k=2→ok a→
  (∀a',dI (cd r s w) cont next (sV r w kind k h) a=(a',true)→ok a'→Q (.exit 4) ⟨[(1, .bF (aH r s)),(2, .bF [.int .i64 w]),(4,hJ r s n0),(5, .pure (.int .i64 kind))],[]::F0::C a',79⟩)→
  (∀a',dI (cd r s w) cont next (sV r w kind k h) a=(a',false)→Q .ret ⟨[(1, .bF (aH r s)),(2, .bF [.int .i64 w]),(4,hJ r s n0),(5, .pure (.int .i64 kind))],[]::F0::C a',79⟩)→
  jf KC au 104 (lp Try.f104 2) [1,2,4,5,30] [1,2,4,5] Q
   [(1, .bF (aH r s)),(2, .bF [.int .i64 w]),(4,hJ r s n0),(5, .pure (.int .i64 kind)),(30, .pure (.int .i64 h))] ([]::F0::C a) 79:=by
 have hlen:=hC.len;have CL:=fun(G:ae) (l0:Nat) (h:n0≤l0)=>gF (r:=r) (s:=s) (G:=G) h;have c0:=fun G=>CL G n0 (by omega);have c1:=fun G=>CL G (n0+1) (by omega);have c2:=fun G=>CL G (n0+2) (by omega);intro k
 induction k with
 |zero=>
  intro h a hk ho h1 _;have h1':=h1 a rfl ho;have hnl: ¬h<2:=(by omega);have hnl': ¬(h:Int)<2:=(by omega);apply aw;conv=>arg 4;whnf
  simp [hnl,hnl',hlen,c0,c1,c2];simpa using h1'
 |succ k ih=>
  intro h a hkh ho h1 h2;have hil:h<2:=(by omega);have hil':(h:Int)<2:=(by omega);have hw:=dM (x:=(h:Int)+1) (by omega) (by omega);rw [oW,gw]at h1 h2
  have hsub: ∀x∈lq r.aa.length r.ak.length w kind h,A x:=fun x hx=>hall x (by
   unfold sV;exact List.mem_flatMap.2 ⟨h,by simp [List.mem_range'];omega,hx⟩)
  have hsl:3≤(aH r s).length:=by show 3≤10;omega
  have hsl2:2≤(aH r s).length:=by show 2≤10;omega
  have hpt:List.drop 3 (aH r s)= .slice (r.aa.map bU.row)::List.drop 4 (aH r s):=rfl;have hpp:List.drop 2 (aH r s)= .slice (r.ak.map bA.row)::List.drop 3 (aH r s):=rfl;by_cases k2:kind=2
  ·subst k2;have ek:lq r.aa.length r.ak.length w 2 h=jC w h r.aa.length 0:=rfl;rw [ek]at hsub h1 h2;have L:=fun Q t h1 h2=>xv hC hS hW hA f3 (n:=r.aa.length) (h:=h) hW.tl hsub Q r.aa.length 0 t a (by omega) ho h1 h2;simp only [aB,cn]at L;apply aw;conv=>arg 4;whnf
   simp [hil,hil',hlen,c0,c1,c2,hsl,hsl2,hpt,hpp];refine L _ _ (fun a' t' e ho'=> ?_) (fun a' F1 e=> ?_)
   ·rw [e]at h1 h2;simp only [if_true]at h1 h2;have ih':=ih (h+1) a' (by omega) ho' h1 h2;simp [hlen,c0,c1,c2,hw];simpa using ih'
   ·rw [e]at h2;have h2':=h2 a' rfl;simp [hlen,c0,c1,c2];simpa using h2'
  ·have k2':((kind:Int)==2)=false:=(by simp;omega);by_cases k4:kind=4
   ·subst k4;have ek:lq r.aa.length r.ak.length w 4 h=ia w h r.ak.length 0:=rfl;rw [ek]at hsub h1 h2;have L:=fun Q t h1 h2=>xw hC hS hW hA f3 (n:=r.ak.length) (h:=h) hW.pl hsub Q r.ak.length 0 t a (by omega) ho h1 h2;simp only [aB,cn]at L;apply aw;conv=>arg 4;whnf
    simp [hil,hil',hlen,c0,c1,c2,hsl,hsl2,hpt,hpp];refine L _ _ (fun a' t' e ho'=> ?_) (fun a' F1 e=> ?_)
    ·rw [e]at h1 h2;simp only [if_true]at h1 h2;have ih':=ih (h+1) a' (by omega) ho' h1 h2;simp [hlen,c0,c1,c2,hw];simpa using ih'
    ·rw [e]at h2;have h2':=h2 a' rfl;simp [hlen,c0,c1,c2];simpa using h2'
   ·have k4':((kind:Int)==4)=false:=(by simp;omega);have ek:lq r.aa.length r.ak.length w kind h=[cn w kind h 0 0 0]:=(by unfold lq;rw [if_neg k2,if_neg k4]);rw [ek]at hsub h1 h2;have hx:=hsub _ (List.mem_singleton.2 rfl);have HO:=fun(c:Nat)=>qG (c:=c) hC hS hW hA f3 hx ho [aB (cn w kind h 0 0 0),[]];simp only [dI]at h1 h2;simp only [List.cons_append,List.nil_append]at HO;have hrow:(cn w kind h 0 0 0).row=[.int .i64 0, .int .i64 w, .int .i64 kind, .int .i64 h, .int .i64 0, .int .i64 0, .int .i64 0, .int .i64 0, .int .i64 0]:=rfl;rw [hrow]at HO;apply aw;conv=>arg 4;whnf
    cases hB:cd r s w (cn w kind h 0 0 0)with
    |false=>
     simp only [hB,Bool.false_eq_true,if_false,if_true]at HO h1 h2;have ih':=ih (h+1) a (by omega) ho h1 h2;simp only [aB,cn]at HO;simp [hil,hil',hlen,c0,c1,c2,k2',k4',dA,HO,hw];simpa using ih'
    |true=>
     simp only [hB,if_true]at HO h1 h2
     cases hc:cont (cn w kind h 0 0 0) a with
     |true=>
      simp only [hc,if_true]at HO h1 h2;have ih':=ih (h+1) (next (cn w kind h 0 0 0) a) (by omega) (hC.So _ _ hx ho hc) h1 h2
      simp only [aB,cn]at HO ih';simp [hil,hil',hlen,c0,c1,c2,k2',k4',dA,HO,hw];simpa using ih'
     |false=>
      simp only [hc,Bool.false_eq_true,if_false]at HO h2;have h2':=h2 _ rfl;simp only [aB,cn]at HO h2';simp [hil,hil',hlen,c0,c1,c2,k2',k4',dA,HO,hw];simpa using h2'
end
end
section
variable {c:Nat} {H:ae}
section
variable {r:aI} {s:az} {w:Nat} {nm:Nm} {n0:Nat} {α:Type} {C:α→ae} {cont:ai→α→Bool} {next:ai→α→α} {ok:α→Prop} {A:ai→Prop} (hC:xu nm n0 α C (cd r s w) cont next ok A) (hS:e9 r s) (hW:WB r) (hA: ∀x,A x→AB r w x)
include hC hS hW hA
theorem xy {F0:Fr}(f3:F0.get 3=some (.box [.yield nm]))(hall: ∀x∈iR r.aa.length r.ak.length w 7 2,A x)(Q:GX→bE→Prop): ∀(k i:Nat) (a:α),i+k=9→2≤i→ok a→
  (∀a',dI (cd r s w) cont next (iR r.aa.length r.ak.length w k i) a=(a',true)→ok a'→Q (.exit 0) ⟨[],F0::C a',79⟩)→
  (∀a',dI (cd r s w) cont next (iR r.aa.length r.ak.length w k i) a=(a',false)→Q .ret ⟨[],F0::C a',79⟩)→
  jf KC au 104 (lp Try.f104 0) [1,2,4,5] [] Q
   [(1, .bF (aH r s)),(2, .bF [.int .i64 w]),(4,hJ r s n0),(5, .pure (.int .i64 i))] (F0::C a) 79:=by
 have hlen:=hC.len;have CL:=fun(G:ae) (l0:Nat) (h:n0≤l0)=>gF (r:=r) (s:=s) (G:=G) h;have c0:=fun G=>CL G n0 (by omega);have c1:=fun G=>CL G (n0+1) (by omega);intro k
 induction k with
 |zero=>
  intro i a hk hi ho h1 _;have h1':=h1 a rfl ho;have hnl': ¬(i:Int)≤8:=(by omega);apply aw;conv=>arg 4;whnf
  simp [hnl',hlen,c0,c1];simpa using h1'
 |succ k ih=>
  intro i a hk hi ho h1 h2;have hil':(i:Int)≤8:=(by omega);have hi1:((i:Int)==1)=false:=(by simp;omega);have hw:=dM (x:=(i:Int)+1) (by omega) (by omega);rw [vR,gw,←ud]at h1 h2
  have hsub: ∀x∈sV r w i 2 0,A x:=fun x hx=>hall x (by
   unfold iR;rw [ud]at hx;exact List.mem_flatMap.2 ⟨i,List.mem_range'_1.2 ⟨hi,by omega⟩,hx⟩)
  have L:=fun Q h1 h2=>xx hC hS hW hA f3 (kind:=i) (by omega) (by omega) hsub Q 2 0 a rfl ho h1 h2;apply aw;conv=>arg 4;whnf
  simp [hil',hi1,hlen,c0,c1];refine L _ (fun a' e ho'=> ?_) (fun a' e=> ?_)
  ·rw [e]at h1 h2;simp only [if_true]at h1 h2;have ih':=ih (i+1) a' (by omega) (by omega) ho' h1 h2;simp [hlen,c0,c1,hw];simpa using ih'
  ·rw [e]at h2;have h2':=h2 a' rfl;simp [hlen,c0,c1];simpa using h2'
theorem vq {n:Nat}(hn:IntKind.i64.wrap (r.wide*r.deep)=n)(hn0:n≤1000000)(hall: ∀x∈cL n r.aa.length r.ak.length w,A x){a:α}(ha:ok a):
  aK KC (aE KC) 104 [.yield nm, .bF (aH r s), .bF [.int .i64 w]] c (C a)=some (.pure (.tuple []),C (dI (cd r s w) cont next (cL n r.aa.length r.ak.length w) a).1):=by
 have hlen:=hC.len;have hpos:=hC.pos;refine aU (bw KC au Try.func104 rfl rfl FL rfl rfl rfl (by simp) (by rw [hlen];exact hpos) ?_);have CL:=fun(G:ae) (l0:Nat) (h:n0≤l0)=>gF (r:=r) (s:=s) (G:=G) h;have c0:=fun G=>CL G n0 (by omega);have c1:=fun G=>CL G (n0+1) (by omega);have f3:Fr.get [(3, .box [.yield nm])] 3=some (.box [.yield nm]):=rfl;have es:cL n r.aa.length r.ak.length w=lk w n 0++iR r.aa.length r.ak.length w 7 2:=rfl;rw [es]at hall⊢;rw [gw];have h1: ∀x∈lk w n 0,A x:=fun x hx=>hall x (List.mem_append_left _ hx);have h2: ∀x∈iR r.aa.length r.ak.length w 7 2,A x:=fun x hx=>hall x (List.mem_append_right _ hx);have L1:=fun Q q1 q2=>yT hC hS hW hA f3 hn0 h1 Q n 0 a (by omega) ha q1 q2;have hlp:=hC.lp;have hm:=fun(c:Nat) (H:ae) (hH:0<H.length)=>vJ (c:=c) (H:=H) (hH:=hH) (w:=r.wide) (d:=r.deep) (x1:= .slice (r.ak.map bA.row)) (x2:= .slice (r.aa.map bU.row)) (x3:= .slice (r.seen.map ba)) (x4:= .slice (r.bg.map ba)) (x5:= .slice (r.aj.map ai.row));have hsl:(aH r s).length=10:=rfl;have hpp:List.take 7 (aH r s)=[.int .i64 r.wide, .int .i64 r.deep, .slice (r.ak.map bA.row), .slice (r.aa.map bU.row), .slice (r.seen.map ba), .slice (r.bg.map ba), .slice (r.aj.map ai.row)]:=rfl;simp [hlen];rw [show GV.func 105 [] [.bF (aH r s), .aA (n0,3) 0]=hJ r s n0 from rfl]
 apply aw;conv=>arg 4;whnf
 simp [hlen,c0,c1,hm,hsl,hpp,hn];refine L1 _ (fun a' e ho'=> ?_) (fun a' e=> ?_)
 ·rw [e];simp only [if_true];have L2:=fun Q q1 q2=>xy hC hS hW hA f3 h2 Q 7 2 a' rfl (Nat.le_refl _) ho' q1 q2;simp [hlen,c0,c1];refine L2 _ (fun a2 e2 ho2=> ?_) (fun a2 e2=> ?_)
  ·rw [e2];simp [ah,hlen]
  ·rw [e2];simp [ah,hlen]
 ·rw [e];simp [ah,hlen,c0,c1]
end
theorem Dd {r:aI}{s:az}{w:Nat}(hH:0<H.length):
  aK KC (aE KC) 94 [.pure (.agg (aH r s)), .pure (.int .i64 w)] c H=some (.func 104 [] [.bF (aH r s), .bF [.int .i64 w]],H):=by
 refine aU (bw KC au Try.func94 rfl rfl Lt rfl rfl rfl (by simp) hH ?_);have h1: ¬H.length≤H.length-1:=(by omega);rw [aH];simp;rw [ah (by simp)];simp [clean,fN,cT,mE,nJ,h1,bd,canon,cb]
end
section
variable {c:Nat} {H:ae}
noncomputable def eS:aI→Nat→az→Bool:=o8 fun r w s=>r.seen.contains (s.ak.getD w 0)
theorem oX (r:aI)(w:Nat)(s:az):eS r w s=r.seen.contains (s.ak.getD w 0):=by rw [eS,bR]
theorem ue {r:aI}{w:Nat}{s:az}{a:ai}(hk:1≤a.kind∧a.kind≤8)(hw:w<s.ak.length):sT r s w a=(cd r s w a && !(eS r w s||eS r w (dt s w a))):=by
 have e:(dt s w a).ak.getD w 0=if a.kind=1 then a.cell else s.ak.getD w 0:=by
  by_cases k1:a.kind=1
  ·rw [if_pos k1,jo k1];simp [List.getD_eq_getElem?_getD,hw]
  ·rw [if_neg k1,qZ hk k1]
 rw [DV,oX,oX,e,vS];congr 2;rw [Bool.eq_iff_iff];simp;constructor
 ·rintro⟨x,h1,h2|h2⟩
  ·exact Or.inl (h2▸h1)
  ·exact Or.inr (h2▸h1)
 ·rintro(h|h)
  ·exact⟨_,h,Or.inl rfl⟩
  ·exact⟨_,h,Or.inr rfl⟩
noncomputable def fh (r:aI)(w:Nat)(all:List ai)(fin:az→List ai→Bool):Nat→az→List ai→GV→GV×Bool
 |0,s,l,g=>(.pure (.slice (l.map ai.row)),fin s l)
 |n+1,s,l,g=>if eS r w s=true then (g,false)else
  (dI (cd r s w) (fun x (a:GV×Bool)=>if eS r w (dt s w x)=true then true else !(fh r w all fin n (dt s w x) (l++[x]) a.1).2)
   (fun x (a:GV×Bool)=>if eS r w (dt s w x)=true then a else fh r w all fin n (dt s w x) (l++[x]) a.1) all (g,false)).1
theorem zE {r:aI}{w:Nat}{all:List ai}{fin:az→List ai→Bool}(hab: ∀x∈all,AB r w x): ∀(n:Nat) (s:az) (l:List ai) (g:GV),e9 r s→
  (fh r w all fin n s l g).2=(xG r w all fin n s l).isSome∧ ∀x,xG r w all fin n s l=some x→(fh r w all fin n s l g).1= .pure (.slice (x.map ai.row))
 |0,s,l,g,_=>by
  unfold fh xG
  cases fin s l with
  |true=>exact⟨rfl,fun x e=>by cases e;rfl⟩
  |false=>exact⟨rfl,fun x e=>by cases e⟩
 |n+1,s,l,g,hS=>by
  unfold fh xG
  have hf: ∀(all':List ai),(∀x∈all',AB r w x)→ ∀g:GV,eS r w s=false→
    let q:=(dI (cd r s w) (fun x (a:GV×Bool)=>if eS r w (dt s w x)=true then true else !(fh r w all fin n (dt s w x) (l++[x]) a.1).2)
     (fun x (a:GV×Bool)=>if eS r w (dt s w x)=true then a else fh r w all fin n (dt s w x) (l++[x]) a.1) all' (g,false)).1
    let o:=all'.findSome? fun a=>if sT r s w a=true then xG r w all fin n (dt s w a) (l++[a])else none
    q.2=o.isSome∧ ∀x,o=some x→q.1= .pure (.slice (x.map ai.row)):=fun all'=>by
   induction all' with
   |nil=>intro _ g _;exact⟨rfl,fun x e=>by cases e⟩
   |cons a all' ih=>
    intro ha g hs;have hA:=ha a (by simp);have hu:=ue (r:=r) (s:=s) hA.kind (by rw [hS.pl];exact hA.wl);rw [hs,Bool.false_or]at hu;simp only [dI,List.findSome?_cons]
    cases hp:cd r s w a with
    |false=>
     rw [hp,Bool.false_and]at hu;rw [if_neg (by simp),if_neg (by simp [hu])];exact ih (fun x hx=>ha x (by simp [hx])) g hs
    |true=>
     rw [hp,Bool.true_and]at hu;rw [if_pos rfl]
     cases hs2:eS r w (dt s w a)with
     |true=>
      rw [hs2]at hu;simp only [hs2,if_true];rw [if_neg (show¬sT r s w a=true by simp [hu])]
      exact ih (fun x hx=>ha x (by simp [hx])) g hs
     |false=>
      rw [hs2]at hu;obtain⟨t1,t2⟩:=zE hab n (dt s w a) (l++[a]) g (hS.T5 hA hp);simp only [hs2,Bool.false_eq_true,if_false];rw [if_pos (show sT r s w a=true by simp [hu])]
      generalize hT:fh r w all fin n (dt s w a) (l++[a]) g=T at t1 t2⊢
      cases ho:xG r w all fin n (dt s w a) (l++[a])with
      |some x=>
       rw [ho]at t1 t2;have t1':T.2=true:=t1;rw [if_neg (by simp [t1'])];exact⟨t1,fun y e=>t2 y e⟩
      |none=>
       rw [ho]at t1;have t1':T.2=false:=t1;rw [if_pos (by simp [t1'])];have e2:T=(T.1,false):=(by rw [←t1']);rw [e2];exact ih (fun x hx=>ha x (by simp [hx])) T.1 hs
  cases hs:eS r w s with
  |true=>
   rw [if_pos rfl];have:(all.findSome? fun a=>if sT r s w a=true then xG r w all fin n (dt s w a) (l++[a])else none)=none:=by
    rw [List.findSome?_eq_none_iff];intro x hx;have hA:=hab x hx;have hu:=ue (r:=r) (s:=s) hA.kind (by rw [hS.pl];exact hA.wl);rw [hs]at hu;simp [hu]
   rw [this];exact⟨rfl,fun x e=>by cases e⟩
  |false=>
   rw [if_neg (by simp)];exact hf all hab g hs
theorem zD {r:aI}(sh:jM r){s:az}{w:Nat}(hw:w<s.ak.length){n3 n9:Nm}(g3:H.get n3=some (bs r))(g9:H.get n9=some (.box [.pure (.int .i64 w)]))(hH:0<H.length):
  aK KC (aE KC) 91 [.pure (.agg (aH r s)), .aA n3 0, .aA n9 0] c H=some (.pure (.bool (eS r w s)),H):=by
 refine aU (bw KC au Try.func91 rfl rfl Lr rfl rfl rfl (by simp) hH ?_);have l3:=ae.cj g3;have l9:=ae.cj g9;have ne3: ¬n3.1=H.length:=(by omega);have ne9: ¬n9.1=H.length:=(by omega);have C:=fun(c:Nat) (H:ae) (hH:0<H.length)=>kQ (c:=c) (H:=H) r.seen s.ak[w] sh.s hH;have hgd:s.ak.getD w 0=s.ak[w]:=aX hw;rw [oX,hgd];simp only [bs]at g3;rw [aH];simp [g3,g9,ne3,ne9,l3,l9,hw,ba,C,ah]
theorem zF {r:aI}(hW:WB r)(aj:List ai)(hal:aj.length≤1000000)(hA: ∀a∈aj,AB r a.aY.toNat a){s:az}(hS:e9 r s)(hF:Full s)(hH:0<H.length):
  aK KC (aE KC) 73 [.pure (.agg (aH r s)), .pure (.slice (aj.map ai.row)), .pure (.fn 54)] c H=
   some (.pure (.tuple [.agg (aH r (dn r aj.length s aj 0).2.1), .int .i64 (dn r aj.length s aj 0).2.2.1, .int .i64 (dn r aj.length s aj 0).2.2.2]),H):=by
 rw [iE rfl rfl rfl];exact vo (c:=c) hW (oU r H hH) aj hal hA hS hF
end
section
variable {c:Nat} {H:ae}
theorem oo {G:ae}{nm:Nm}{b:dW}(h:nm.1<G.length): ∀pre:ae,ae.set (pre++G) nm b=pre++ae.set G nm b
 | []=>rfl
 |X::pre=>by
  show ae.set (X::(pre++G)) nm b=_
  rw [ae.jX,if_neg (by simp;omega),oo h pre];rfl
structure R8 (r:aI)(w:Nat)(aj:List ai)(nU:Nat)(n3 n8 n9 n11 n15 n16 n17:Nm)(n0:Nat)(C:GV→ae):Prop where
 pos:0<n0
 len: ∀g,(C g).length=n0
 l3:n3.1<n0
 l8:n8.1<n0
 l9:n9.1<n0
 Uw:n11.1<n0
 Sa:n15.1<n0
 TB:n16.1<n0
 Ux:n17.1<n0
 g3: ∀g,(C g).get n3=some (bs r)
 g8: ∀g,(C g).get n8=some (.box [.pure (.slice (aj.map ai.row))])
 g9: ∀g,(C g).get n9=some (.box [.pure (.int .i64 w)])
 Pz: ∀g,(C g).get n11=some (.box [.pure (.int .i64 nU)])
 JR: ∀g,(C g).get n15=some (.box [.func 91 [] [.aA n3 0, .aA n9 0]])
 UK: ∀g,(C g).get n16=some (.box [g])
 UL: ∀g g',(C g).set n16 (.box [g'])=C g'
 PA: ∀g,(C g).get n17=some (.box [.func 93 [] [.aA n8 0, .aA n11 0, .aA n16 0, .aA n15 0, .aA n9 0, .aA n17 0]])
structure ua (r:aI)(w:Nat)(aj:List ai)(nU:Nat):Prop where
 hr:JW r
 wl:w<r.ak.length
 ab: ∀a∈aj,AB r a.aY.toNat a
 len:aj.length≤1000000
 u:nU≤aj.length
section
variable {r:aI} {w:Nat} {aj:List ai} {nU:Nat} {n3 n8 n9 n11 n15 n16 n17:Nm} {n0:Nat} {C:GV→ae} (M:R8 r w aj nU n3 n8 n9 n11 n15 n16 n17 n0 C) (P:ua r w aj nU)
include M P
theorem R9 {s:az}(hS:e9 r s)(hF:Full s)(l:List ai)(g:GV)(pre:ae):
  bG KC (aE KC) 93 [.pure (.agg (aH r s)), .pure (.slice (l.map ai.row)), .pure (.int .i64 0), .aA n8 0, .aA n11 0, .aA n16 0, .aA n15 0, .aA n9 0, .aA n17 0] c (pre++C g)=
   some (.pure (.bool (mz r (aj.drop nU) s l)),pre++C (.pure (.slice (l.map ai.row)))):=by
 refine aU (aM KC au Try.func93 rfl rfl B6 (by simp) (by simp [M.len];have:=M.pos;omega) ?_);have hlen:=M.len;have G:=fun(g:GV) (nm:Nm) (h:nm.1<n0)=>kJ (G:=C g) (nm:=nm) (by rw [hlen];exact h) pre;have G8:=fun g=>(G g n8 M.l8).trans (M.g8 g);have G11:=fun g=>(G g n11 M.Uw).trans (M.Pz g);have G16:=fun g=>(G g n16 M.TB).trans (M.UK g);have S16:=fun g g'=>(oo (G:=C g) (nm:=n16) (b:= .box [g']) (by rw [hlen];exact M.TB) pre).trans (by rw [M.UL g g']);have ne8: ¬n8.1=pre.length+n0:=(by have:=M.l8;omega);have ne11: ¬n11.1=pre.length+n0:=(by have:=M.Uw;omega);have ne16: ¬n16.1=pre.length+n0:=(by have:=M.TB;omega);have R:=fun(c:Nat) (H:ae) (hH:0<H.length)=>zF (c:=c) (H:=H) P.hr.w (aj.drop nU) (by have:=P.len;simp;omega) (fun a ha=>P.ab a (List.mem_of_mem_drop ha)) hS hF hH;have hsn:=(lW (aj.drop nU).length s (aj.drop nU) 0 hS (fun a ha=>P.ab a (List.mem_of_mem_drop ha))).1;unfold mz;obtain⟨q,hq⟩: ∃q,dn r (aj.drop nU).length s (aj.drop nU) 0=q:=⟨_,rfl⟩;rw [hq]at R hsn⊢;have O:=fun(c:Nat) (H:ae) (hH:0<H.length)=>rj (c:=c) (H:=H) r q.2.1 P.hr.w.tl (by rw [hsn.hl];exact P.hr.w.pl) hsn.tl hH;rw [aH]at R O;rw [aH]at R;rw [aH];have hu:=P.u;have hdm:List.drop nU (aj.map ai.row)=(aj.drop nU).map ai.row:=(by rw [List.map_drop]);have hall: ∀x:ai,x.row.length=9:=fun _=>rfl;have tl:List.take aj.length (aj.map ai.row)=aj.map ai.row:=List.take_of_length_le (by simp);by_cases he:q.2.2.2=0
 ·rw [he]at R⊢;simp [hlen,G8,G11,G16,S16,ne8,ne11,ne16,hu,hdm,hall,tl,R,O,-List.map_drop,ah]
 ·have he':(q.2.2.2==0)=false:=(by simpa using he);simp [hlen,G8,G11,G16,S16,ne8,ne11,ne16,hu,hdm,hall,tl,R,O,he,he',-List.map_drop,ah]
end
end
section
variable {c:Nat} {H:ae}
end
section
variable {c:Nat} {H:ae}
def Bh (l:Nat)(g:GV):Prop:= ∀nm es top lo len,g= .ay nm es top lo len→nm.1=l
theorem fX {l:Nat}{p:PV}:Bh l (.pure p):=fun _ _ _ _ _ h=>by cases h
theorem zV {F:Fr}{nm:Nm}{b:dW}(h:nm.1=H.length): ∀pre:ae,ae.set (pre++F::H) nm b=pre++F.ins nm.2 b::H
 | []=>by
  show ae.set (F::H) nm b=_
  rw [ae.jX,if_pos h];rfl
 |X::pre=>by
  show ae.set (X::(pre++F::H)) nm b=_
  rw [ae.jX,if_neg (by simp;omega),zV h pre];rfl
theorem qb {F:Fr}{g:GV}(h:Bh H.length g)(pre:ae): ∃F',(dp (pre++F::H) g).2=pre++F'::H:=by
 cases g with
 |ay nm es top lo len=>
  have hn:=h _ _ _ _ _ rfl;simp only [dp,df];split
  ·split
   ·exact⟨_,zV hn pre⟩
   ·exact⟨F,rfl⟩
  ·exact⟨F,rfl⟩
 |_=>exact⟨F,rfl⟩
theorem ot (pre:ae): ∀{l:List GV} {F:Fr},(∀g∈l,Bh H.length g)→ ∃F',(eZ (pre++F::H) l).2=pre++F'::H
 | [],F,_=>⟨F,rfl⟩
 |g::l,F,h=>by
  obtain⟨F1,e1⟩:=qb (F:=F) (h g (List.mem_cons_self ..)) pre;obtain⟨F2,e2⟩:=ot pre (l:=l) (F:=F1) fun x hx=>h x (List.mem_cons_of_mem _ hx);exact⟨F2,by simp only [eZ,e1,e2]⟩
def DF (L:Nat):GV→Prop
 | .agg l=> ∀x∈l,Bh L x
 |g=>Bh L g
theorem sA {F:Fr}{g:GV}(h:DF H.length g)(pre:ae): ∃F',(cZ (pre++F::H) g).2=pre++F'::H:=by
 cases g with
 |agg l=>
  obtain⟨F',e⟩:=ot pre (F:=F) (l:=l) h;exact⟨F',by simp only [cZ,e]⟩
 |_=>exact qb h pre
theorem Bz {H:ae}{g:GV}{q:PV}(hg:zb H g q):canon (cZ H g).1= .pure q:=by
 have h3:=(mT hg).1
 cases g with
 |ay nm es top lo len=>
  show canon (dp H (.ay nm es top lo len)).1=_
  have e: ∃p,(dp H (.ay nm es top lo len)).1= .pure p:=⟨_,rfl⟩;obtain⟨p,hp⟩:=e;rw [hp]at h3⊢;have:p=q:=by
   have h4:cb (.pure p)=GV.pure p:=rfl;rw [h4]at h3;cases h3;rfl
  rw [this];obtain⟨rows,v,ro,a1,a2,a3,a4,a5,a6⟩:=hg;rw [a6];rfl
 |pure p=>cases hg;rfl
 |aO=>cases hg;rfl
 |_=>exact hg.elim
inductive kX (H:ae) (F:Fr) (pre:ae):List GV→List GV→Prop
 |nil:kX H F pre [] []
 |ptr {nm:Nm} {o:Nat} {l m:List GV} (h:kX H F pre l m):kX H F pre (.aA nm o::l) (.aA nm o::m)
 |rd {g:GV} {q:PV} {l m:List GV} (hg:xE (pre++F::H) g q) (ht:DF H.length g) (h:kX H F pre l m):kX H F pre (g::l) (.pure q::m)
 |Sc {g:GV} {q:PV} {l m:List GV} (hg:zb (pre++F::H) g q) (hq:canon (.pure q)= .pure q) (ht:DF H.length g) (h:kX H F pre l m):kX H F pre (g::l) (.pure q::m)
theorem kW.pre {F F':Fr}(h:og F F'): ∀pre:ae,kW (pre++F::H) (pre++F'::H)
 | []=> .cons h (kW.refl H)
 |X::pre=> .cons (og.refl X) (kW.pre h pre)
theorem og.yU {F F':Fr}: ∀{pre:ae},kW (pre++F::H) (pre++F'::H)→og F F'
 | [],h=>by cases h with|cons a _=>exact a
 |X::pre,h=>by cases h with|cons _ b=>exact og.yU b
theorem kX.ro {F F':Fr}{pre:ae}(hr:og F F'){l m:List GV}(h:kX H F pre l m):kX H F' pre l m:=by
 induction h with
 |nil=>exact .nil
 |ptr _ ih=>exact .ptr ih
 |rd hg ht _ ih=>exact .rd (zd (kW.UM (kW.pre hr pre)) hg) ht ih
 |Sc hg hq ht _ ih=>exact .Sc (zc (kW.UM (kW.pre hr pre)) hg) hq ht ih
theorem qH {pre:ae}: ∀{l m:List GV} {F:Fr},kX H F pre l m→ ∃F',og F F'∧(br (pre++F::H) l).2=pre++F'::H∧(br (pre++F::H) l).1.map canon=m.map canon
 |_,_,F, .nil=>⟨F,og.refl F,rfl,rfl⟩
 |_,_,F, .ptr h=>by
  obtain⟨F',r,e1,e2⟩:=qH h;refine⟨F',r, ?_, ?_⟩
  ·simp only [br,cZ,dp,e1]
  ·simp only [br,cZ,dp,List.map_cons,e2]
 |g::l,_,F, .rd hg ht h=>by
  obtain⟨F1,e1⟩:=sA (F:=F) ht pre;have r1:og F F1:=by
   have:=uc (pre++F::H) g;rw [e1]at this;exact og.yU this
  obtain⟨F',r,e2,e3⟩:=qH (h.ro r1);have hc:=(qu hg).1;refine⟨F',r1.trans r, ?_, ?_⟩
  ·simp only [br,e1,e2]
  ·simp only [br,e1,List.map_cons,e3,hc];congr 1
 |g::l,_,F, .Sc hg hq ht h=>by
  obtain⟨F1,e1⟩:=sA (F:=F) ht pre;have r1:og F F1:=by
   have:=uc (pre++F::H) g;rw [e1]at this;exact og.yU this
  obtain⟨F',r,e2,e3⟩:=qH (h.ro r1);have hc:=Bz hg;refine⟨F',r1.trans r, ?_, ?_⟩
  ·simp only [br,e1,e2]
  ·simp only [br,e1,List.map_cons,e3,hc,hq]
theorem sf {f:FuncId}(h1:KC.vw f=false)(h2:KC.vF f=false)(h3:KC.BH f=true)(pre:ae){l m:List GV}{F:Fr}(h:kX H F pre l m):
  ∃F',og F F'∧ ∀c,aK KC (aE KC) f l c (pre++F::H)=bG KC (aE KC) f m c (pre++F'::H):=by
 obtain⟨F',r,e1,e2⟩:=qH h;refine⟨F',r,fun c=> ?_⟩;rw [iE h1 h2 h3,e1];exact sW e2
theorem M4.rd {F:Fr}{g:GV}{A:List ai}(h:M4 H F g A):zb (F::H) g (.slice (A.map ai.row)):=by
 rcases h with ⟨rfl,rfl⟩|⟨hne,key,v,rfl,hg,hv⟩
 ·rfl
 ·exact⟨A.map ai.row,v,false,by simpa using hg,by simpa using hv,by simp,rfl,rfl,rfl⟩
theorem M4.top {F:Fr}{g:GV}{A:List ai}(h:M4 H F g A):DF H.length g:=by
 rcases h with ⟨rfl,rfl⟩|⟨hne,key,v,rfl,hg,hv⟩
 ·intro nm es top lo len e;cases e
 ·intro nm es top lo len e;cases e;rfl
end
section
variable {c:Nat} {H:ae}
noncomputable def sE (S:aS)(st:LoopState)(p:Option GX):dR:={c8:=S,nt:=69,params:=[44],assign:=T2 Try.f93,body:=SQ Try.f93,fn:=93,state:=st,pending:=p}
def yB (r:aI)(s:az)(l:List ai)(n:Int)(b:Bool)(lb:dR):Fr:=
 [(9,bx r s),(10, .box [.pure (.slice (l.map ai.row))]),(11, .box [.pure (.int .i64 n)]),(12, .box [.pure (.bool b)]),(10000010, .loop lb)]
def CT (r:aI)(s:az)(l:List ai)(n:Int)(b:Bool)(lb:dR)(G:ae):ae:=yB r s l n b lb::G
section
variable {r:aI} {s:az} {l:List ai} {n:Int} {b:Bool} {lb:dR} {G:ae} {L:Nat} (hL:G.length=L) (pre:ae)
include hL
theorem M6:(pre++CT r s l n b lb G).length=pre.length+(L+1):=by simp [CT,hL]
theorem oY (k:Nat):ae.get (pre++CT r s l n b lb G) (L,k)=(yB r s l n b lb).get k:=by
 rw [kJ (by simp [CT,hL])];unfold CT;rw [ae.eF,if_pos hL.symm]
theorem M7 {nm:Nm}(h:nm.1<L):ae.get (pre++CT r s l n b lb G) nm=ae.get G nm:=by
 rw [kJ (by simp [CT,hL];omega)];unfold CT;rw [ae.eF,if_neg (by omega)]
theorem zW (lb':dR):ae.set (pre++CT r s l n b lb G) (L,10000010) (.loop lb')=pre++CT r s l n b lb' G:=by
 rw [oo (by simp [CT,hL])];unfold CT;rw [ae.jX,if_pos hL.symm];rfl
theorem HH (b':Bool):ae.set (pre++CT r s l n b lb G) (L,12) (.box [.pure (.bool b')])=pre++CT r s l n b' lb G:=by
 rw [oo (by simp [CT,hL])];unfold CT;rw [ae.jX,if_pos hL.symm];rfl
end
theorem DW (l:List ai)(hn:l.length≤1000000){F:Fr}(hf:F.get (aq c 7)=none): ∃g F',M4 H F' g l∧(∀q top,g= .ay (H.length,q) 9 top 0 top→q=aq c 7)∧(∀k,k≠aq c 7→F'.get k=F.get k)∧
  aK KC (aE KC) 80 [.pure (.slice (l.map ai.row))] c (F::H)=some (g,F'::H):=by
 refine⟨_,_, ?_, ?_, ?_,DT l hn hf⟩
 ·unfold jL;by_cases h:l=[]
  ·subst h;exact Or.inl ⟨rfl,rfl⟩
  ·refine Or.inr ⟨h,aq c 7,0,by rw [if_neg (by simpa using h)];simp, ?_,Nat.zero_le _⟩;exact iK (by simpa using h)
 ·intro q top e;unfold jL at e;split at e
  ·cases e
  ·cases e;rfl
 ·intro k hk;exact nr hk
noncomputable def PC (r:aI)(s:az)(l:List ai)(n:Nat)(S:aS)(up:ae→ae)(C:GV→ae)(a:GV×Bool):ae:=
 CT r s l ((n:Int)+1) a.2 (sE S (if a.2=true then .done else .ready) (if a.2=true then some .ret else none)) (up (C a.1))
section
variable {r:aI} {w:Nat} {aj:List ai} {nU:Nat} {n3 n8 n9 n11 n15 n16 n17:Nm} {n0:Nat} {C:GV→ae} (M:R8 r w aj nU n3 n8 n9 n11 n15 n16 n17 n0 C) (P:ua r w aj nU)
include M P
theorem M8 {fin:az→List ai→Bool} {all:List ai} {s:az} (hS:e9 r s) (hF:Full s) (l:List ai) (hl:l.length≤100000) {n:Nat} (hn:n≤1000)
  (ih: ∀(c:Nat) (s:az) (l:List ai) (g:GV) (pre:ae),e9 r s→Full s→l.length+n≤100001→
   bG KC (aE KC) 93 [.pure (.agg (aH r s)), .pure (.slice (l.map ai.row)), .pure (.int .i64 n), .aA n8 0, .aA n11 0, .aA n16 0, .aA n15 0, .aA n9 0, .aA n17 0] c (pre++C g)=
    some (.pure (.bool (fh r w all fin n s l g).2),pre++C (fh r w all fin n s l g).1))
  (hln:l.length+1+n≤100001) {x:ai} (hx:AB r w x) (hp:cd r s w x=true) (S:aS) {L:Nat} (pre0:ae) (hL:pre0.length+n0=L) (h9:look S 9= .aA (L,9) 0) (h10:look S 10= .aA (L,10) 0) (h11:look S 11= .aA (L,11) 0) (h12:look S 12= .aA (L,12) 0) (h6:look S 6= .aA n15 0) (h8:look S 8= .aA n17 0) (g:GV) (pre:ae):
  ground (aE KC) (L,10000010) [.pure (.agg x.row)] (pre++CT r s l ((n:Int)+1) false (sE S .ready none) (pre0++C g))=
   some (.pure (.bool (if eS r w (dt s w x)=true then true else !(fh r w all fin n (dt s w x) (l++[x]) g).2)),pre++PC r s l n S (pre0++ ·) C (if eS r w (dt s w x)=true then (g,false)else fh r w all fin n (dt s w x) (l++[x]) g)):=by
 have hG: ∀g,(pre0++C g).length=L:=fun g=>(by rw [List.length_append,M.len,hL]);have gl:=fun(lb:dR) (g:GV) (b:Bool) (pre:ae)=>oY (r:=r) (s:=s) (l:=l) (n:=(n:Int)+1) (b:=b) (lb:=lb) (hG g) pre 10000010;refine aU (Ab KC au (l:=sE S .ready none) (s:=(44, .pure (.agg x.row))::S) ?_ rfl ?_ ?_ ?_ ?_)
 ·rw [gl];rfl
 ·simp [sE,fj]
 ·kernel_rfl
 ·kernel_rfl
 ·show wp KC au 93 (T2 Try.f93) _ _
  conv=>arg 4;whnf
  have ln:=fun lb g b pre=>M6 (r:=r) (s:=s) (l:=l) (n:=(n:Int)+1) (b:=b) (lb:=lb) (hG g) pre;have gl2:=fun(lb:dR) (g:GV) (b:Bool) (pre:ae)=>(gl lb g b pre).trans (show _=some (.loop lb)from rfl)
  have sl:=fun(lb lb':dR) (g:GV) (b:Bool) (pre:ae)=>zW (r:=r) (s:=s) (l:=l) (n:=(n:Int)+1) (b:=b) (lb:=lb) (hG g) pre lb';have g9:=fun(lb:dR) (g:GV) (b:Bool) (pre:ae)=>(oY (r:=r) (s:=s) (l:=l) (n:=(n:Int)+1) (b:=b) (lb:=lb) (hG g) pre 9).trans (show _=some (bx r s)from rfl)
  have g10:=fun(lb:dR) (g:GV) (b:Bool) (pre:ae)=>(oY (r:=r) (s:=s) (l:=l) (n:=(n:Int)+1) (b:=b) (lb:=lb) (hG g) pre 10).trans (show _=some (.box [.pure (.slice (l.map ai.row))])from rfl)
  have Pz:=fun(lb:dR) (g:GV) (b:Bool) (pre:ae)=>(oY (r:=r) (s:=s) (l:=l) (n:=(n:Int)+1) (b:=b) (lb:=lb) (hG g) pre 11).trans (show _=some (.box [.pure (.int .i64 ((n:Int)+1))])from rfl)
  have low:=fun(lb:dR) (g:GV) (b:Bool) (pre:ae) (nm:Nm) (h:nm.1<n0)=>(M7 (r:=r) (s:=s) (l:=l) (n:=(n:Int)+1) (b:=b) (lb:=lb) (hG g) pre (nm:=nm) (by omega)).trans (kJ (G:=C g) (by rw [M.len];exact h) pre0);have g3:=fun(lb:dR) (g:GV) (b:Bool) (pre:ae)=>(low lb g b pre n3 M.l3).trans (M.g3 g);have g9':=fun(lb:dR) (g:GV) (b:Bool) (pre:ae)=>(low lb g b pre n9 M.l9).trans (M.g9 g);have JR:=fun(lb:dR) (g:GV) (b:Bool) (pre:ae)=>(low lb g b pre n15 M.Sa).trans (M.JR g);have PA:=fun(lb:dR) (g:GV) (b:Bool) (pre:ae)=>(low lb g b pre n17 M.Ux).trans (M.PA g);have m15:=M.Sa;have m17:=M.Ux;have e0: ¬L=pre.length+(L+1):=(by omega);have e1: ¬L=pre.length+(L+1)+1:=(by omega);have e15: ¬n15.1=pre.length+(L+1):=(by omega);have e15': ¬n15.1=pre.length+(L+1)+1:=(by omega);have e17: ¬n17.1=pre.length+(L+1):=(by omega);have e17': ¬n17.1=pre.length+(L+1)+1:=(by omega);have hS2:=hS.T5 hx hp;have hF2:=vc hS hS2 hF;have hxw:x.aY.toNat=w:=(by rw [hx.aY];rfl);have MN:=fun(c:Nat) (H:ae) (hH:0<H.length)=>uf (c:=c) (H:=H) hS P.hr.w hF [x] (by simp) (fun a ha=>by rw [List.mem_singleton.1 ha,hxw];exact hx) hH;rw [DX (by rw [hxw];exact hp),hxw]at MN;simp only [List.map_cons,List.map_nil]at MN;have SN:=fun(c:Nat) (lb:dR) (g:GV) (b:Bool) (pre:ae)=>zD (c:=c) (H:=pre++CT r s l ((n:Int)+1) b lb (pre0++C g)) P.hr.sh (s:=dt s w x) (w:=w) (by rw [hS2.pl];exact P.wl) (g3 lb g b pre) (g9' lb g b pre) (by rw [ln];omega);have SN2:=fun c lb g b X=>SN c lb g b (X::pre);simp only [List.cons_append]at SN2;rw [bh]at MN;rw [aH,aH]at MN;rw [aH]at SN2;simp [vH,bh,ln,gl2,sl];refine⟨by show 16<69;omega,rfl, ?_⟩
  show wp KC au 93 (SQ Try.f93) ⟨_,_::(pre++CT r s l ((n:Int)+1) false (sE S .busy none) (pre0++C g)),69⟩ _
  conv=>arg 4;whnf
  cases hs2:eS r w (dt s w x)with
  |true=>
   rw [hs2]at SN2;simp [h9,h10,h11,h12,h6,h8,ln,g9,bx,e0,MN,SN2,e15,e17,JR,ld,gl2,sl];rfl
  |false=>
   rw [hs2]at SN2;obtain⟨gc,F1,L1,k1,f1,CE⟩:=DW (c:=61) (H:=pre++CT r s l ((n:Int)+1) false (sE S .busy none) (pre0++C g)) l (by omega) (F:=[(16, .box [.pure (.int .i64 x.aQ), .pure (.int .i64 x.aY), .pure (.int .i64 x.kind), .pure (.int .i64 x.hand), .pure (.int .i64 x.bL), .pure (.int .i64 x.cell), .pure (.int .i64 x.other), .pure (.int .i64 x.dE), .pure (.int .i64 x.lf)]),(17, .box [.pure (.int .i64 r.wide), .pure (.int .i64 r.deep), .pure (.slice (r.ak.map bA.row)), .pure (.slice (r.aa.map bU.row)), .pure (.slice (r.seen.map ba)), .pure (.slice (r.bg.map ba)), .pure (.slice (r.aj.map ai.row)), .pure (.slice ((dt s w x).ak.map ba)), .pure (.slice ((dt s w x).ao.map bt.row)), .pure (.slice ((dt s w x).aa.map cg.row))])]) (by simp [aq]);have d16:(16:Nat)≠aq 61 7:=(by decide);have d64:(64:Nat)≠aq 61 7:=(by decide);have f16:=f1 16 d16;have f64:=f1 64 d64;have f17:=f1 17 (by decide);simp at f16 f64 f17;simp [h9,h10,h11,h12,h6,h8,ln,g9,g10,Pz,bx,e0,MN,SN2,e15,e17,JR,PA,CE,f16,f17,-BP];rw [←ln (sE S .busy none) g false pre];refine DU (key:=64) (H:=pre++CT r s l ((n:Int)+1) false (sE S .busy none) (pre0++C g)) x L1 f64 (by omega) _ fun g2 F2 L2 k2 f2=> ?_;have nk: ∀q,q≠aq 61 7→ ∀top,gc≠ .ay ((pre++CT r s l ((n:Int)+1) false (sE S .busy none) (pre0++C g)).length,q) 9 top 0 top:=fun q hq top e=>hq (k1 q top e);have f16':=(f2 16 (by decide) (nk 16 d16)).trans f16;have f17':=(f2 17 (by decide) (nk 17 (by decide))).trans f17;obtain⟨F3,r3,e3⟩:=sf (f:=93) rfl rfl rfl [] (F:=F2) (H:=pre++CT r s l ((n:Int)+1) false (sE S .busy none) (pre0++C g)) (.rd (g:= .pure (.agg (aH r (dt s w x)))) rfl fX (.Sc L2.rd rfl L2.top (.rd (g:= .pure (.int .i64 n)) rfl fX (.ptr (nm:=n8) (o:=0) (.ptr (nm:=n11) (o:=0) (.ptr (nm:=n16) (o:=0) (.ptr (nm:=n15) (o:=0) (.ptr (nm:=n9) (o:=0) (.ptr (nm:=n17) (o:=0) .nil)))))))));have I0:=ih 67 (dt s w x) (l++[x]) g ((F3::pre)++[yB r s l ((n:Int)+1) false (sE S .busy none)]++pre0) hS2 hF2 (by simp;omega);have hsh: ∀g,((F3::pre)++[yB r s l ((n:Int)+1) false (sE S .busy none)]++pre0)++C g=F3::(pre++CT r s l ((n:Int)+1) false (sE S .busy none) (pre0++C g)):=fun g=>(by simp [CT]);rw [hsh,hsh]at I0;have I:=(e3 67).trans I0;have fl:=fun(lb:dR) (g:GV) (b b':Bool) (pre:ae)=>HH (r:=r) (s:=s) (l:=l) (n:=(n:Int)+1) (b:=b) (lb:=lb) (hG g) pre b';have g12:=fun(lb:dR) (g:GV) (b:Bool) (pre:ae)=>(oY (r:=r) (s:=s) (l:=l) (n:=(n:Int)+1) (b:=b) (lb:=lb) (hG g) pre 12).trans (show _=some (.box [.pure (.bool b)])from rfl)
   have hwn:=dM (x:=(n:Int)) (by omega) (by omega);rw [aH]at I;simp only [List.nil_append]at I;generalize hT:fh r w all fin n (dt s w x) (l++[x]) g=T at I⊢;obtain⟨Tg,Tb⟩:=T
   cases Tb with
   |true=>
    simp only at I;simp [h9,h10,h11,h12,h6,h8,ln,g9,g10,Pz,bx,e0,e15,e17,JR,PA,f16',f17',hwn,I,fl,g12,ld,gl2,sl];rfl
   |false=>
    simp only at I;simp [h9,h10,h11,h12,h6,h8,ln,g9,g10,Pz,bx,e0,e15,e17,JR,PA,f16',f17',hwn,I,fl,g12,ld,gl2,sl];rfl
end
end
section
variable {c:Nat} {H:ae}
section
variable {r:aI} {w:Nat} {aj:List ai} {nU:Nat} {n3 n8 n9 n11 n15 n16 n17:Nm} {n0:Nat} {C:GV→ae} (M:R8 r w aj nU n3 n8 n9 n11 n15 n16 n17 n0 C) (P:ua r w aj nU)
include M P
theorem Sp {fin:az→List ai→Bool} {all:List ai} {s:az} (hS:e9 r s) (hF:Full s) (l:List ai) (hl:l.length≤100000) {n:Nat} (hn:n≤1000)
  (ih: ∀(c:Nat) (s:az) (l:List ai) (g:GV) (pre:ae),e9 r s→Full s→l.length+n≤100001→
   bG KC (aE KC) 93 [.pure (.agg (aH r s)), .pure (.slice (l.map ai.row)), .pure (.int .i64 n), .aA n8 0, .aA n11 0, .aA n16 0, .aA n15 0, .aA n9 0, .aA n17 0] c (pre++C g)=
    some (.pure (.bool (fh r w all fin n s l g).2),pre++C (fh r w all fin n s l g).1))
  (hln:l.length+1+n≤100001) (S:aS) {L:Nat} (pre0:ae) (hL:pre0.length+n0=L) (h9:look S 9= .aA (L,9) 0) (h10:look S 10= .aA (L,10) 0) (h11:look S 11= .aA (L,11) 0) (h12:look S 12= .aA (L,12) 0) (h6:look S 6= .aA n15 0) (h8:look S 8= .aA n17 0):
  xu (L,10000010) (L+1) (GV×Bool) (PC r s l n S (pre0++ ·) C) (cd r s w) (fun x (a:GV×Bool)=>if eS r w (dt s w x)=true then true else !(fh r w all fin n (dt s w x) (l++[x]) a.1).2)
   (fun x (a:GV×Bool)=>if eS r w (dt s w x)=true then a else fh r w all fin n (dt s w x) (l++[x]) a.1) (fun a=>a.2=false) (AB r w) where
 pos:=by omega
 lp:=by simp
 len:=fun a=>by simp [PC,CT,M.len,hL]
 gr:=fun x a pre hx hp ha=>by
  obtain⟨g,b⟩:=a;simp only at ha;subst ha;exact M8 M P hS hF l hl hn ih hln hx hp S pre0 hL h9 h10 h11 h12 h6 h8 g pre
 So:=fun x a hx ha hc=>by
  split at hc
  ·rename_i hs;rw [if_pos hs];exact ha
  ·rename_i hs;rw [if_neg hs];simpa using hc
theorem Ba {fin:az→List ai→Bool} {s:az} (hS:e9 r s) (hF:Full s) (l:List ai) (hl:l.length≤100000) {n nc:Nat} (hn:n≤1000) (hnc:IntKind.i64.wrap (r.wide*r.deep)=nc) (hnc2:(nc:Int)=r.wide*r.deep) (hnc0:nc≤1000000)
  (ih: ∀(c:Nat) (s:az) (l:List ai) (g:GV) (pre:ae),e9 r s→Full s→l.length+n≤100001→
   bG KC (aE KC) 93 [.pure (.agg (aH r s)), .pure (.slice (l.map ai.row)), .pure (.int .i64 n), .aA n8 0, .aA n11 0, .aA n16 0, .aA n15 0, .aA n9 0, .aA n17 0] c (pre++C g)=
    some (.pure (.bool (fh r w (cL nc r.aa.length r.ak.length w) fin n s l g).2),pre++C (fh r w (cL nc r.aa.length r.ak.length w) fin n s l g).1))
  (hln:l.length+1+n≤100001) {L:Nat} (pre0:ae) (hL:pre0.length+n0=L) (g:GV) (hs:eS r w s=false) (st:bE) (Q:GX→bE→Prop)
  (hh:st.h=[(9,bx r s),(10, .box [.pure (.slice (l.map ai.row))]),(11, .box [.pure (.int .i64 ((n:Int)+1))]),(12, .box [.pure (.bool false)])]::(pre0++C g))
  (hnt:st.nt=69) (h9:look st.s 9= .aA (L,9) 0) (h10:look st.s 10= .aA (L,10) 0) (h11:look st.s 11= .aA (L,11) 0) (h12:look st.s 12= .aA (L,12) 0) (h6:look st.s 6= .aA n15 0) (h8:look st.s 8= .aA n17 0)
  (h43:look st.s 43= .func 104 [] [.bF (aH r s), .bF [.int .i64 w]])
  (hq: ∀lb,Q (if (fh r w (cL nc r.aa.length r.ak.length w) fin (n+1) s l g).2=true then .ret else .normal)
   {st with h:=CT r s l ((n:Int)+1) (fh r w (cL nc r.aa.length r.ak.length w) fin (n+1) s l g).2 lb (pre0++C (fh r w (cL nc r.aa.length r.ak.length w) fin (n+1) s l g).1)}):
  WP KC au 93 (.rangeFunc (.tmp 43) #[44] (T2 Try.f93) (SQ Try.f93)) st Q:=by
 have hC:=Sp M P hS hF l hl hn ih hln st.s pre0 hL h9 h10 h11 h12 h6 h8;have hR:=fun c=>vq (c:=c) hC hS P.hr.w (fun x hx=>hx) hnc hnc0 (fun x hx=>(te (n:=nc) hnc2.symm P.wl hx).1) (a:=(g,false)) rfl;have hfr:aL (SQ Try.f93)=10:=by kernel_rfl
 have et:fh r w (cL nc r.aa.length r.ak.length w) fin (n+1) s l g=(dI (cd r s w) (fun x (a:GV×Bool)=>if eS r w (dt s w x)=true then true else !(fh r w (cL nc r.aa.length r.ak.length w) fin n (dt s w x) (l++[x]) a.1).2)
   (fun x (a:GV×Bool)=>if eS r w (dt s w x)=true then a else fh r w (cL nc r.aa.length r.ak.length w) fin n (dt s w x) (l++[x]) a.1) (cL nc r.aa.length r.ak.length w) (g,false)).1:=by
  conv=>lhs;unfold fh
  rw [if_neg (by simp [hs])]
 rw [et]at hq
 generalize (dI (cd r s w) (fun x (a:GV×Bool)=>if eS r w (dt s w x)=true then true else !(fh r w (cL nc r.aa.length r.ak.length w) fin n (dt s w x) (l++[x]) a.1).2)
   (fun x (a:GV×Bool)=>if eS r w (dt s w x)=true then a else fh r w (cL nc r.aa.length r.ak.length w) fin n (dt s w x) (l++[x]) a.1) (cL nc r.aa.length r.ak.length w) (g,false)).1=T at hR hq
 have hG: ∀g,(pre0++C g).length=L:=fun g=>(by rw [List.length_append,M.len,hL]);refine B8 KC au (nm:=(L,10000010)) (H1:=PC r s l n st.s (pre0++ ·) C (g,false)) (H2:=PC r s l n st.s (pre0++ ·) C T) (v:= .pure (.tuple [])) ?_ ?_ ?_
 ·rw [hh,hfr,hnt];simp [fK,hQ,PC,CT,yB,sE,hL,M.len]
 ·simp only [ev,h43];exact hR 0
 ·have gl:=oY (r:=r) (s:=s) (l:=l) (n:=(n:Int)+1) (b:=T.2) (lb:=sE st.s (if T.2=true then .done else .ready) (if T.2=true then some .ret else none)) (hG T.1) [] 10000010;have hlp:=gl.trans (show _=some (dW.loop (sE st.s (if T.2=true then .done else .ready) (if T.2=true then some .ret else none)))from rfl)
  have sl:=zW (r:=r) (s:=s) (l:=l) (n:=(n:Int)+1) (b:=T.2) (lb:=sE st.s (if T.2=true then .done else .ready) (if T.2=true then some .ret else none)) (hG T.1) [];unfold qL;show I3 (ae.get (CT r s l ((n:Int)+1) T.2 (sE st.s _ _) (pre0++C T.1)) (L,10000010)) _
  rw [show ae.get (CT r s l ((n:Int)+1) T.2 (sE st.s (if T.2=true then .done else .ready) (if T.2=true then some .ret else none)) (pre0++C T.1)) (L,10000010)=_ from hlp,B7]
  refine⟨?_, ?_⟩
  ·show (if T.2=true then LoopState.done else .ready)≠ .busy
   split<;>simp
  ·have q:=hq {sE st.s (if T.2=true then .done else .ready) (if T.2=true then some .ret else none)with state:= .exhausted};have s2:=sl {sE st.s (if T.2=true then .done else .ready) (if T.2=true then some .ret else none)with state:= .exhausted};simp only [List.nil_append]at s2;show Q _ {st with h:=ae.set (CT r s l ((n:Int)+1) T.2 (sE st.s (if T.2=true then .done else .ready) (if T.2=true then some .ret else none)) (pre0++C T.1)) (L,10000010) _}
   rw [s2]
   cases hb:T.2 with
   |true=>rw [hb]at q;exact q
   |false=>rw [hb]at q;exact q
end
end
end Go.Gh
