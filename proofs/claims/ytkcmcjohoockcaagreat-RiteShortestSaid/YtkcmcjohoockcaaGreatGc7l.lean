/- Texts joined: the evaluator over ghost values, its soundness, the walks. Spaces struck and names made short by a program, for the size. -/
import Derived.Test.YtkcmcjohoockcaaGreatGc7k
import Derived.Test.YtkcmcjohoockcaaGreatGc7e
import Derived.ProofKit
import Derived.OpenShut
import Derived.ChangeOld
import Derived.Below
import Derived.Carry
import Derived.Test.YtkcmcjohoockcaaGreatGc7b
import Derived.ChangeKeysEq
import Derived.Test.YtkcmcjohoockcaaGreatGc7f
namespace Go.Gh
open Go.Proofs
set_option linter.unusedVariables false
set_option linter.unusedSimpArgs false
set_option linter.unnecessarySimpa false
set_option maxRecDepth 100000
set_option maxHeartbeats 8000000
section
def nP (l m:List ak):Nat→Bool
 |0=>true
 |j+1=>nP l m j && (l.getD j bH==m.getD j bH)
theorem xS {l m:List ak}: ∀{j:Nat},nP l m j=true↔ ∀i,i<j→l.getD i bH=m.getD i bH
 |0=>by simp [nP]
 |j+1=>by
  unfold nP;rw [Bool.and_eq_true,xS,beq_iff_eq];constructor
  ·rintro⟨h1,h2⟩ i hi;rcases Nat.lt_or_eq_of_le (Nat.le_of_lt_succ hi)with h|h
   ·exact h1 i h
   ·rw [h];exact h2
  ·exact fun h=>⟨fun i hi=>h i (by omega),h j (by omega)⟩
theorem Fl {l m:List ak}(h:l.length=m.length):nP l m l.length=true↔l=m:=by
 rw [xS];constructor
 ·intro h1;refine List.ext_getElem h fun i a b=> ?_;have:=h1 i a
  rwa [aM a,aM b]at this
 ·rintro rfl i _;rfl
theorem TV (a b:ak):(a.a7==b.a7 && (a.aN==b.aN && (a.kind==b.kind && (a.hand==b.hand && (a.bd==b.bd && (a.cell==b.cell && (a.other==b.other && (a.bZ==b.bZ && a.gz==b.gz))))))))=(a==b):=by
 rw [Bool.eq_iff_iff];simp only [Bool.and_eq_true,beq_iff_eq];cases a;cases b;simp
theorem CI {r:aA}{k:Nat}{kind e:Int}{all l:List ak}{is:List Nat}{wd:Int}{v:Nat}(hi: ∀i∈is,i<all.length)(hl:is.length≤1000)(hll:l.length=is.length)(hv:v≤is.length)(Q:GX→bN→Prop): ∀(n j:Nat),j+n=is.length→
  Q (.exit 4) ⟨[(4, .ay (1,4) 0),(5, .pure (.int .i64 k)),(6, .pure (.int .i64 kind)),(7, .pure (.slice (l.map ak.row))),(8, .pure (.int .i64 e)),(9, .pure (.slice (all.map ak.row))),(10, .pure (.int .i64 is.length)),(11, .a8 (2,87) 1 is.length 0 is.length),(13, .pure (.bool (nP (is.map (all.getD · bH)) l is.length)))],
   [[],[(87, .arr 1 (is.map fun(i:Nat)=>aG i) v false)],[(4,aR r),(24593,bz wd)],[]],141⟩→
  gS KC au 7 (lp Tryz.f7 2) [4,5,6,7,8,9,10,11,13,14] [4,5,6,7,8,9,10,11,13] Q
   [(4, .ay (1,4) 0),(5, .pure (.int .i64 k)),(6, .pure (.int .i64 kind)),(7, .pure (.slice (l.map ak.row))),(8, .pure (.int .i64 e)),(9, .pure (.slice (all.map ak.row))),(10, .pure (.int .i64 is.length)),(11, .a8 (2,87) 1 is.length 0 is.length),(13, .pure (.bool (nP (is.map (all.getD · bH)) l j))),(14, .pure (.int .i64 j))]
   [[],[(87, .arr 1 (is.map fun(i:Nat)=>aG i) v false)],[(4,aR r),(24593,bz wd)],[]] 141:=by
 intro n
 induction n with
 |zero=>
  intro j hj h1;have hjj:j=is.length:=(by omega);subst hjj;apply ax;conv=>arg 4;whnf
  simp;simpa using h1
 |succ n ih=>
  intro j hj h1;have hjl:j<is.length:=(by omega);have hjm:j<l.length:=(by omega);have hw:=dh (x:=(j:Int)+1) (by omega) (by omega);have hij:=hi _ (List.getElem_mem hjl);obtain⟨i,hii⟩: ∃i,is[j]=i:=⟨_,rfl⟩;rw [hii]at hij;have ih':=ih (j+1) (by omega) h1;have es:nP (is.map (all.getD · bH)) l (j+1)=(nP (is.map (all.getD · bH)) l j && (all[i]==l[j])):=by
   show (_ && _)=_
   rw [aM (by simpa using hjl),aM hjm,List.getElem_map,hii,aM hij]
  rw [es]at ih';generalize hS:nP (is.map (all.getD · bH)) l j=S at ih'⊢;simp only [aR]at ih'⊢
  cases S with
  |false=>
   apply ax;conv=>arg 4;whnf
   simp [hjl,hw];simpa using ih'
  |true=>
   apply ax;conv=>arg 4;whnf
   simp [hjl,hjm,hw,hii,hij,hv,aG,ak.row];rw [TV];simpa [aG]using ih'
def Ic (e:Int)(l q:List ak):Prop:=e=0∧(l.length<q.length∨q=l)
section
variable {r:aA} {k:Nat} {kind e:Int} {l:List ak} {wd:Int}
def zd (r:aA)(k:Nat)(kind e:Int)(l:List ak)(n:Nat):aZ:=[(4, .ay (1,4) 0),(5, .pure (.int .i64 k)),(6, .pure (.int .i64 kind)),(7, .pure (.slice (l.map ak.row))),(8, .pure (.int .i64 e)),(9, .pure (.slice ((bP r (bS r k)).map ak.row))),(10, .pure (.int .i64 n))]
def qB (r:aA)(wd:Int)(is:List Nat)(v:Nat):aj:=[[(87, .arr 1 (is.map fun(i:Nat)=>aG i) v false)],[(4,aR r),(24593,bz wd)],[]]
theorem qC (sh:iG r) (hc:cB r=0) (h:jq r k kind) (hn:r.ai.length≤20) (ht: ∀a∈r.ai,a.a7≤100) (he:e=0∨e=7) (hl3:l.length≤3) {is is':List Nat} {v v':Nat} {nb:Bool} (hl:is.length≤2) (hi: ∀i∈is,i<(bP r (bS r k)).length) (hv:v≤is.length)
  (hbad: ¬Ic e l (is.map ((bP r (bS r k)).getD · bH))→Xq r k kind is=false)
  (NX:0<is.length→ ∀c,aL KC (aE KC) 42 [.a8 (2,87) 1 is.length 0 is.length, .pure (.int .i64 (bP r (bS r k)).length)] c ([]::qB r wd is v)=some (.pure (.bool nb),[]::qB r wd is' v'))
  (Q:GX→bN→Prop) (hX:Q (.exit 2) ⟨(2,aP)::zd r k kind e l is.length,qB r wd is v,141⟩)
  (hC: ¬Ic e l (is.map ((bP r (bS r k)).getD · bH))→gS KC au 7 (lp Tryz.f7 1) [4,5,6,7,8,9,10,11,12] [2,4,5,6,7,8,9,10] Q (zd r k kind e l is.length++[(11, .a8 (2,87) 1 is.length 0 is.length),(12, .pure (.bool (decide (0<is.length) && nb)))]) (qB r wd (if is.length=0 then is else is') (if is.length=0 then v else v')) 141):
  gS KC au 7 (lp Tryz.f7 1) [4,5,6,7,8,9,10,11,12] [2,4,5,6,7,8,9,10] Q (zd r k kind e l is.length++[(11, .a8 (2,87) 1 is.length 0 is.length),(12, .pure (.bool true))]) (qB r wd is v) 141:=by
 obtain⟨q,hq⟩: ∃q,is.map ((bP r (bS r k)).getD · bH)=q:=⟨_,rfl⟩;have hql:q.length=is.length:=(by rw [←hq,List.length_map]);rw [hq]at hbad hC;have W:=fun c=>H9 (c:=c) (H:=[]::qB r wd is v) sh hc h hn ht (is:=is) (by omega) hi (nm:=(2,87)) (v:=v) (by simp [qB]) hv (by simp);rw [eE]at W;rcases he with rfl|rfl
 ·by_cases c1:l.length<is.length
  ·have c1':(l.length:Int)<is.length:=(by omega);simp only [zd,qB,aR,List.cons_append,List.nil_append]at hX⊢;apply ax;conv=>arg 4;whnf
   simp [c1,c1'];simpa using hX
  ·have c1': ¬(l.length:Int)<is.length:=(by omega);by_cases c2:is.length=l.length
   ·have SL:=fun Q hQ=>CI (r:=r) (k:=k) (kind:=kind) (e:=0) (all:=bP r (bS r k)) (l:=l) (is:=is) (wd:=wd) (v:=v) hi (by omega) c2.symm hv Q is.length 0 (by omega) hQ;rw [hq]at SL;have hb:Ic 0 l q↔nP q l is.length=true:=by
     rw [←hql];rw [Fl (by omega)];unfold Ic;constructor
     ·rintro⟨_,h1|h1⟩
      ·omega
      ·exact h1
     ·exact fun h1=>⟨rfl, .inr h1⟩
    simp only [zd,qB,aR,List.cons_append,List.nil_append]at hX hC SL W NX⊢;simp only [c2]at hX hC SL W NX hb⊢
    cases hS:nP q l l.length with
    |true=>
     rw [hS]at SL;apply ax;conv=>arg 4;whnf
     simp;refine SL _ ?_;simp;simpa using hX
    |false=>
     rw [hS]at SL;have nb': ¬Ic 0 l q:=fun x=>(by rw [hb,hS]at x;cases x);rw [hbad nb']at W;have hC:=hC nb';apply ax;conv=>arg 4;whnf
     simp;refine SL _ ?_;by_cases n0:l.length=0
     ·rw [if_pos n0,if_pos n0,decide_eq_false (by omega),Bool.false_and]at hC;have n0': ¬(0:Int)<(l.length:Int):=(by omega);have n0'': ¬0<l.length:=(by omega);simp [W,n0',n0''];simpa using hC
     ·have n1:0<l.length:=(by omega);have n1':(0:Int)<(l.length:Int):=(by omega);have NX':=NX n1;rw [if_neg n0,if_neg n0,decide_eq_true n1,Bool.true_and]at hC;simp [W,n1',n1,NX'];simpa using hC
   ·have nb': ¬Ic 0 l q:=fun x=>by
     unfold Ic at x;rcases x.2 with y|y
     ·omega
     ·rw [←hql,y]at c2;exact c2 rfl
    rw [hbad nb']at W;have hC:=hC nb';have c2':((is.length:Int)==l.length)=false:=(by simp;omega);simp only [zd,qB,aR,List.cons_append,List.nil_append]at hX hC W NX⊢;apply ax;conv=>arg 4;whnf
    by_cases n0:is.length=0
    ·rw [if_pos n0,if_pos n0,decide_eq_false (by omega),Bool.false_and]at hC;have n0': ¬(0:Int)<(is.length:Int):=(by omega);have n0'': ¬0<is.length:=(by omega);simp [c1,c1',c2,c2',W,n0',n0''];simpa using hC
    ·have n1:0<is.length:=(by omega);have n1':(0:Int)<(is.length:Int):=(by omega);have NX':=NX n1;rw [if_neg n0,if_neg n0,decide_eq_true n1,Bool.true_and]at hC;simp [c1,c1',c2,c2',W,n1',n1,NX'];simpa using hC
 ·have nb': ¬Ic 7 l q:=fun x=>by
   unfold Ic at x;exact absurd x.1 (by decide)
  rw [hbad nb']at W;have hC:=hC nb';simp only [zd,qB,aR,List.cons_append,List.nil_append]at hX hC W NX⊢;apply ax;conv=>arg 4;whnf
  by_cases n0:is.length=0
  ·rw [if_pos n0,if_pos n0,decide_eq_false (by omega),Bool.false_and]at hC;have n0': ¬(0:Int)<(is.length:Int):=(by omega);have n0'': ¬0<is.length:=(by omega);simp [W,n0',n0''];simpa using hC
  ·have n1:0<is.length:=(by omega);have n1':(0:Int)<(is.length:Int):=(by omega);have NX':=NX n1;rw [if_neg n0,if_neg n0,decide_eq_true n1,Bool.true_and]at hC;simp [W,n1',n1,NX'];simpa using hC
end
end
section
def Told (r:aA)(k:Nat)(kind e:Int)(l:List ak):Prop:=(e=7∧l=[]∧iE r k kind=none)∨(e=0∧iE r k kind=some l)
def TW (all:List ak)(e:Int)(l:List ak)(is:List Nat):Prop:= ∀is',is'.length=is.length→(∀i∈is',i<all.length)→Ei is' is→is'≠is→e=0→is'.map (all.getD · bH)≠l
theorem CJ {r:aA}{k:Nat}{kind e:Int}{l:List ak}(h:jq r k kind)(hsn:r.seen=[])(hT:Told r k kind e l){is:List Nat}(hl:is.length≤3)(hi: ∀i∈is,i<(bP r (bS r k)).length)(hv:TW (bP r (bS r k)) e l is)(hb: ¬Ic e l (is.map ((bP r (bS r k)).getD · bH))):Xq r k kind is=false:=by
 unfold Xq;refine decide_eq_false fun he=> ?_;rcases hT with ⟨_,_,ho⟩|⟨e0,ho⟩
 ·exact Cz h hsn ho hl hi he
 ·unfold Ic at hb;have h1:is.length≤l.length:=by
   rcases Nat.lt_or_ge l.length is.length with q|q
   ·exact absurd ⟨e0, .inl (by simpa using q)⟩ hb
   ·exact q
  obtain⟨is',a1,a2,a3,a4⟩:=CA h hsn ho h1 hi he;by_cases e1:is'=is
  ·subst e1;exact hb ⟨e0, .inr a4.symm⟩
  ·exact hv is' a1 a3 a2 e1 e0 a4.symm
section
variable {r:aA} {k:Nat} {kind e:Int} {l:List ak} {wd:Int} (sh:iG r) (hc:cB r=0) (h:jq r k kind) (hn:r.ai.length≤20) (ht: ∀a∈r.ai,a.a7≤100) (hsn:r.seen=[]) (hT:Told r k kind e l) (hl3:l.length≤3)
theorem sQ {n:Nat}{g:GV}{is:List Nat}{v:Nat}(Q:GX→bN→Prop)(hX:Q (.exit 2) ⟨(2,aP)::zd r k kind e l n,qB r wd is v,141⟩):
  gS KC au 7 (lp Tryz.f7 1) [4,5,6,7,8,9,10,11,12] [2,4,5,6,7,8,9,10] Q (zd r k kind e l n++[(11,g),(12, .pure (.bool false))]) (qB r wd is v) 141:=by
 simp only [zd,qB,aR,List.cons_append,List.nil_append]at hX⊢;apply ax;conv=>arg 4;whnf
 simp;simpa using hX
include sh hc h hn ht hsn hT hl3
theorem M1 (Q:GX→bN→Prop)(hX: ∀is v,Q (.exit 2) ⟨(2,aP)::zd r k kind e l 0,qB r wd is v,141⟩):
  gS KC au 7 (lp Tryz.f7 1) [4,5,6,7,8,9,10,11,12] [2,4,5,6,7,8,9,10] Q (zd r k kind e l 0++[(11, .a8 (2,87) 1 0 0 0),(12, .pure (.bool true))]) (qB r wd [] 0) 141:=by
 have he:e=0∨e=7:=by
  rcases hT with ⟨a,_⟩|⟨a,_⟩
  ·exact .inr a
  ·exact .inl a
 refine qC (is:=[]) (is':=[]) (v:=0) (v':=0) (nb:=false) sh hc h hn ht he hl3 (by simp) (by simp) (by simp) (fun hb=>CJ h hsn hT (by simp) (by simp) (fun is' a1 _ _ a4=>absurd (List.length_eq_zero_iff.1 a1) a4) hb) (fun h0=>by simp at h0) Q (hX _ _) fun _=> ?_;exact sQ Q (hX _ _)
theorem M3 (hA:(bP r (bS r k)).length≤1000)(Q:GX→bN→Prop)(hX: ∀is v,Q (.exit 2) ⟨(2,aP)::zd r k kind e l 1,qB r wd is v,141⟩): ∀(m i v:Nat),i+m=(bP r (bS r k)).length→0<m→v≤1→TW (bP r (bS r k)) e l [i]→
  gS KC au 7 (lp Tryz.f7 1) [4,5,6,7,8,9,10,11,12] [2,4,5,6,7,8,9,10] Q (zd r k kind e l 1++[(11, .a8 (2,87) 1 1 0 1),(12, .pure (.bool true))]) (qB r wd [i] v) 141:=by
 have he:e=0∨e=7:=by
  rcases hT with ⟨a,_⟩|⟨a,_⟩
  ·exact .inr a
  ·exact .inl a
 intro m
 induction m with
 |zero=>intro i v _ h0;omega
 |succ m ih=>
  intro i v hi _ hv hinv;have hia:i<(bP r (bS r k)).length:=(by omega);have hval: ∀x∈[i],x<(bP r (bS r k)).length:=fun x hx=>(by rw [List.mem_singleton.1 hx];exact hia);have NX:=fun c=>TN (c:=c) (H:=[]::qB r wd [i] v) (nm:=(2,87)) (v:=v) (i:=i) hA hia (by simp [qB,aG]) hv (by simp);have e2: ∀x:Nat,aj.set ([]::qB r wd [i] v) (2,87) (.arr 1 [[.int .i64 (x:Int)]] 1 false)=[]::qB r wd [x] 1:=fun x=>(by simp [qB,aG]);simp only [e2]at NX;refine qC (is:=[i]) (is':=[if i+1<(bP r (bS r k)).length then i+1 else 0]) (v:=v) (v':=1) (nb:=decide (i+1<(bP r (bS r k)).length)) sh hc h hn ht he hl3 (by simp) hval (by simpa using hv) (fun hb=>CJ h hsn hT (by simp) hval hinv hb) (fun _=>NX) Q (hX _ _) fun hnb=> ?_;by_cases hlt:i+1<(bP r (bS r k)).length
  ·rw [decide_eq_true hlt,if_pos hlt];refine ih (i+1) 1 (by omega) (by omega) (by omega) fun is' a1 a2 a3 a4 e0=> ?_
   match is',a1 with
   | [x],_=>
    rcases a3 with a3|⟨a3,_⟩
    ·rcases Nat.lt_or_eq_of_le (Nat.le_of_lt_succ a3)with q|q
     ·exact hinv [x] rfl a2 (.inl q) (fun e=>by cases e;omega) e0
     ·subst q;exact fun e3=>hnb ⟨e0, .inr e3⟩
    ·exact absurd (by rw [a3]) a4
  ·rw [decide_eq_false hlt,Bool.and_false];exact sQ Q (hX _ _)
theorem M4 (hA:(bP r (bS r k)).length≤1000)(Q:GX→bN→Prop)(hX: ∀is v,Q (.exit 2) ⟨(2,aP)::zd r k kind e l 2,qB r wd is v,141⟩): ∀(m i j v:Nat),i*(bP r (bS r k)).length+j+m=(bP r (bS r k)).length*(bP r (bS r k)).length→i<(bP r (bS r k)).length→j<(bP r (bS r k)).length→v≤2→TW (bP r (bS r k)) e l [i,j]→
  gS KC au 7 (lp Tryz.f7 1) [4,5,6,7,8,9,10,11,12] [2,4,5,6,7,8,9,10] Q (zd r k kind e l 2++[(11, .a8 (2,87) 1 2 0 2),(12, .pure (.bool true))]) (qB r wd [i,j] v) 141:=by
 have he:e=0∨e=7:=by
  rcases hT with ⟨a,_⟩|⟨a,_⟩
  ·exact .inr a
  ·exact .inl a
 obtain⟨N,hN⟩: ∃N,(bP r (bS r k)).length=N:=⟨_,rfl⟩;intro m
 induction m with
 |zero=>
  intro i j v hm hi hj;exfalso;rw [hN]at hm hi hj;have h1:=Nat.mul_le_mul_right N (show i+1≤N by omega)
  rw [Nat.add_mul]at h1;omega
 |succ m ih=>
  intro i j v hm hi hj hv hinv;have hval: ∀x∈[i,j],x<(bP r (bS r k)).length:=fun x hx=>by
   rcases List.mem_cons.1 hx with rfl|hx
   ·exact hi
   ·rw [List.mem_singleton.1 hx];exact hj
  have NX:=fun c=>TP (c:=c) (H:=[]::qB r wd [i,j] v) (nm:=(2,87)) (v:=v) (i:=i) (j:=j) hA hi hj (by simp [qB,aG]) hv (by simp);have e2: ∀x y:Nat,aj.set ([]::qB r wd [i,j] v) (2,87) (.arr 1 [[.int .i64 (x:Int)],[.int .i64 (y:Int)]] 2 false)=[]::qB r wd [x,y] 2:=fun x y=>(by simp [qB,aG]);simp only [e2]at NX;refine qC (is:=[i,j]) (is':=[(MW (bP r (bS r k)).length i j).1,(MW (bP r (bS r k)).length i j).2]) (v:=v) (v':=2) (nb:=decide (j+1<(bP r (bS r k)).length∨i+1<(bP r (bS r k)).length)) sh hc h hn ht he hl3 (by simp) hval (by simpa using hv) (fun hb=>CJ h hsn hT (by simp) hval hinv hb) (fun _=>NX) Q (hX _ _) fun hnb=> ?_;have hbef: ∀a b:Nat,(a<i∨(a=i∧b≤j))→a<(bP r (bS r k)).length→b<(bP r (bS r k)).length→e=0→[a,b].map ((bP r (bS r k)).getD · bH)≠l:=fun a b hab ha hb e0=>by
   by_cases heq:[a,b]=[i,j]
   ·rw [heq];exact fun e3=>hnb ⟨e0, .inr e3⟩
   ·refine hinv [a,b] rfl (fun x hx=> ?_) ?_ heq e0
    ·rcases List.mem_cons.1 hx with rfl|hx
     ·exact ha
     ·rw [List.mem_singleton.1 hx];exact hb
    ·rcases hab with q|⟨q1,q2⟩
     ·exact .inl q
     ·refine .inr ⟨q1, ?_⟩;rcases Nat.lt_or_eq_of_le q2 with q|q
      ·exact .inl q
      ·exact absurd (by rw [q1,q]) heq
  have h1:=Nat.mul_le_mul_right N (show i+1≤N by omega)
  rw [Nat.add_mul]at h1;by_cases hj1:j+1<(bP r (bS r k)).length
  ·have en:MW (bP r (bS r k)).length i j=(i,j+1):=(by unfold MW;rw [if_pos hj1]);rw [decide_eq_true (Or.inl hj1),en];refine ih i (j+1) 2 (by omega) hi hj1 (by omega) fun is' a1 a2 a3 a4 e0=> ?_
   match is',a1 with
   | [a,b],_=>
    have ha:=a2 a (by simp);have hb:=a2 b (by simp);rcases a3 with q|⟨q,q2|⟨q2,_⟩⟩
    ·exact hbef a b (.inl q) ha hb e0
    ·exact hbef a b (.inr ⟨q,by omega⟩) ha hb e0
    ·exact absurd (by rw [q,q2]) a4
  ·by_cases hi1:i+1<(bP r (bS r k)).length
   ·have en:MW (bP r (bS r k)).length i j=(i+1,0):=(by unfold MW;rw [if_neg hj1,if_pos hi1]);rw [decide_eq_true (Or.inr hi1),en];refine ih (i+1) 0 2 (by rw [hN]at hm hj1 hj⊢;rw [Nat.add_mul];omega) hi1 (by omega) (by omega) fun is' a1 a2 a3 a4 e0=> ?_
    match is',a1 with
    | [a,b],_=>
     have ha:=a2 a (by simp);have hb:=a2 b (by simp);rcases a3 with q|⟨q,q2|⟨q2,_⟩⟩
     ·rcases Nat.lt_or_eq_of_le (Nat.le_of_lt_succ q)with q'|q'
      ·exact hbef a b (.inl q') ha hb e0
      ·exact hbef a b (.inr ⟨q',by omega⟩) ha hb e0
     ·omega
     ·exact absurd (by rw [q,q2]) a4
   ·rw [decide_eq_false (p:=j+1<(bP r (bS r k)).length∨i+1<(bP r (bS r k)).length) (fun x=>x.elim hj1 hi1),Bool.and_false];exact sQ Q (hX _ _)
end
end
section
section
variable {r:aA} {k:Nat} {kind e:Int} {l:List ak} {wd:Int} (sh:iG r) (hc:cB r=0) (h:jq r k kind) (hn:r.ai.length≤20) (ht: ∀a∈r.ai,a.a7≤100) (hsn:r.seen=[]) (hT:Told r k kind e l) (hl3:l.length≤3)
include sh hc h hn ht hsn hT hl3
theorem CK (hA:(bP r (bS r k)).length≤1000)(hA0:0<(bP r (bS r k)).length)(Q:GX→bN→Prop)(hQ:Q (.exit 0) ⟨[(2,aP)],[[(4,aR r),(24593,bz wd)],[]],141⟩):
  gS KC au 7 (lp Tryz.f7 0) [4,5,6,7,8,9,10] [2] Q (zd r k kind e l 0) [[(4,aR r),(24593,bz wd)],[]] 141:=by
 have W0:=fun Q hX=>M1 (wd:=wd) sh hc h hn ht hsn hT hl3 Q hX;have W1:=fun Q hX=>M3 (wd:=wd) sh hc h hn ht hsn hT hl3 hA Q hX (bP r (bS r k)).length 0 0 (by omega) hA0 (by omega) (fun is' a1 a2 a3 a4 _=>by
  match is',a1 with
  | [x],_=>
   rcases a3 with q|⟨q,_⟩
   ·omega
   ·exact absurd (by rw [q]) a4)
 have W2:=fun Q hX=>M4 (wd:=wd) sh hc h hn ht hsn hT hl3 hA Q hX ((bP r (bS r k)).length*(bP r (bS r k)).length) 0 0 0 (by omega) hA0 hA0 (by omega) (fun is' a1 a2 a3 a4 _=>by
  match is',a1 with
  | [x,y],_=>
   rcases a3 with q|⟨q,q2|⟨q2,_⟩⟩
   ·omega
   ·omega
   ·exact absurd (by rw [q,q2]) a4)
 have hw1:IntKind.i64.wrap 1=1:=rfl;have hw2:IntKind.i64.wrap 2=2:=rfl;have hw3:IntKind.i64.wrap 3=3:=rfl;simp only [zd,qB,aR,List.cons_append,List.nil_append,List.map_cons,List.map_nil,aG]at W0 W1 W2 hQ⊢;apply ax;conv=>arg 4;whnf
 simp;refine W0 _ fun is v=> ?_;simp;apply ax;conv=>arg 4;whnf
 simp;refine W1 _ fun is v=> ?_;simp [hw2];apply ax;conv=>arg 4;whnf
 simp [hw2,List.replicate];refine W2 _ fun is v=> ?_;simp [hw3];apply ax;conv=>arg 4;whnf
 simp [hw3];simpa using hQ
end
theorem aca (nums:List Int)(hnums:nums.length≤9223372036854775807):
  ∃H',aL KC (aE KC) 7 [.pure (.slice (nums.map aG))] 0 [[]]=some (.pure (.bool true),H'):=by
 suffices hs:mh (aL KC (aE KC) 7 [.pure (.slice (nums.map aG))] 0 [[]]) (fun x=>x.1= .pure (.bool true))by
  obtain⟨⟨v,H'⟩,h1,rfl⟩:=hs;exact⟨H',h1⟩
 refine bf KC au Tryz.func7 rfl rfl Zu rfl rfl rfl (by simp) (by simp) ?_;obtain⟨w,eB⟩:=HF (c:=16) (H:=[[],[]]) nums hnums (by simp) (by simp [aq]);have k24:aq 16 6=24593:=(by decide);simp only [List.length_cons,List.length_nil,Nat.zero_add,Nat.add_sub_cancel,k24]at eB;have hfin: ∀w,aj.set [[],[]] (1,24593) (bz w)=[[(24593,bz w)],[]]:=fun w=>(by simp);rw [hfin]at eB;have hBx: ∀w,fS [[(24593,bz w)],[]] (1,24593):=fun w=>⟨w,by simp,by simp⟩;obtain⟨r0,ai,s,wd,hRB,eR⟩:=EM (c:=18) (hBx w) (sd:=2) (N:=4) (by omega) (by omega) (by omega);have hset: ∀w x,aj.set [[(24593,bz w)],[]] (1,24593) (bz x)=[[(24593,bz x)],[]]:=fun w x=>(by simp);rw [hset]at eR;change aL KC (aE KC) 11 [.ay (1,24593) 0, .pure (.int .i64 2), .pure (.int .i64 4)] 18 _=_ at eR;have hck:cB (fH r0 ai s)=0:=CM hRB (by omega);obtain⟨gs,e1,hT,hP,hs1,hacc⟩:=Ie hRB;have hok:(dw (fH r0 ai s)).2.2.2=0:=(by rw [hacc]);have htm: ∀a∈(fH r0 ai s).ai,a.a7≤100:=fun a ha=>by
  obtain⟨t,hM,ht⟩:=hRB.made;have:=hM.lt a ha;omega
 obtain⟨m,hm⟩: ∃m,fH r0 ai s=m:=⟨_,rfl⟩;have lnb:m.ah.length≤3∧m.aa.length≤4∧m.br.length≤3∧m.ai.length≤14∧m.seen=[]∧m.ah≠[]∧1≤m.wide∧m.wide≤3∧1≤m.deep∧m.deep≤3:=by
  rw [←hm];refine⟨hRB.room.p3, ?_,hRB.room.ll,hRB.len,hRB.room.seen,hRB.room.p0,hRB.room.w1,hRB.room.w3,hRB.room.d1,hRB.room.d3⟩;show (kB _ _ _).length≤4;rw [mq];exact hRB.room.t4
 rw [hm]at eR hck hok htm;obtain⟨l1,l2,l3,l4,l5,l6,l7,l8,l9,l10⟩:=lnb;have mS:iG m:=⟨by omega,by omega,by rw [l5];simp,by omega,by omega⟩;have hwd:1≤m.wide*m.deep∧m.wide*m.deep≤9:=by
  constructor
  ·have:=Int.mul_le_mul l7 l9 (by omega) (by omega);omega
  ·have:=Int.mul_le_mul l8 l10 (by omega) (by omega);omega
 have hRE:uq m=0:=(by rw [oD,if_pos hck];exact hok);have hBx3: ∀x,fS [[(4,aR m),(24593,bz x)],[]] (1,24593):=fun x=>⟨x,by simp,by simp⟩;have hw3: ∀x,bD [[(4,aR m),(24593,bz x)],[]] (1,24593)=x:=fun x=>(by simp [bD,bz]);have hset3: ∀w x,aj.set [[(4,aR m),(24593,bz w)],[]] (1,24593) (bz x)=[[(4,aR m),(24593,bz x)],[]]:=fun w x=>(by simp);have U:=fun c x=>kv (c:=c) (n:=(m.ai.length:Int)) (hBx3 x) (by omega);have Y:=fun c x=>sA (c:=c) (lo:=1) (hi:=3) (hBx3 x);simp only [hw3,hset3]at U Y;have hur:=jS wd (m.ai.length:Int) (by omega);obtain⟨u,w3,hu⟩: ∃u w3,kS wd (m.ai.length:Int)=(u,w3):=⟨_,_,rfl⟩;rw [hu]at hur;have hvr:=vo w3 1 3 (by omega) (by omega) (by omega);obtain⟨kind,w4,hv⟩: ∃v w4,um w3 1 3=(v,w4):=⟨_,_,rfl⟩;rw [hv]at hvr;simp only at hur hvr;have U:=fun c=>U c wd;have Y:=fun c=>Y c w3;simp only [hu]at U;simp only [hv]at Y;obtain⟨k,rfl⟩:=Int.eq_ofNat_of_zero_le hur.1;by_cases h0:m.ai.length=0
 ·simp only [aR]at U Y;simp only [eE]at eR;have h0c:((m.ai.length:Int)==0)=true:=(by rw [h0];rfl);have h0':m.ai=[]:=List.length_eq_zero_iff.1 h0;have hra:m.ai.map ak.row=[]:=(by rw [h0'];rfl);rw [hra]at eR U Y;rw [h0]at U;have z:((0:Nat):Int)=0:=rfl;rw [z]at U;simp [eB,eR,U,Y,mC,ae]
 ·have hk:k<m.ai.length:=(by omega);by_cases hst:kind=2∧(m.ai[k]'hk).kind=1
  ·obtain⟨s1,s2⟩:=hst;subst s1;simp only [aR]at U Y;simp only [eE]at eR;have h0': ¬m.ai=[]:=fun e=>h0 (by rw [e];rfl);have h0c:((m.ai.length:Int)==0)=false:=(by simp;exact h0');simp [eB,eR,U,Y,h0',h0c,hk,s2,ak.row,mC,ae]
  ·have hcl:=Eh hRE hk hvr (by rw [aM hk];exact hst);obtain⟨k',e',L⟩:=vy mS hcl;have:k'=k:=(by omega);subst this;have hwho:(m.ai[k']'hk).aN=bS m k':=by
    unfold bS;rw [L.get];exact(L.run.ab _ (List.getElem_mem hk)).aN
   obtain⟨e,l,hTold,hl3,hM⟩: ∃e l,Told m k' kind e l∧l.length≤3∧AD m k' kind= .tuple [.slice (l.map ak.row), .int .i64 e]:=by
    cases ho:iE m k' kind with
    |none=>exact⟨7,[], .inl ⟨rfl,rfl,ho⟩,by simp,by unfold AD;rw [hcl,if_neg (by simp),Int.toNat_natCast,ho];rfl⟩
    |some l=>exact⟨0,l, .inr ⟨rfl,ho⟩,(lg L ho).1,by unfold AD;rw [hcl,if_neg (by simp),Int.toNat_natCast,ho]⟩
   have M:=fun(c:Nat) (H:aj) (hH:0<H.length)=>(lf (f:=34) (c:=c) (H:=H) rfl rfl rfl [.agg m.row, .int .i64 k', .int .i64 kind]).trans (HQ (c:=c) (H:=H) mS (fun _=>by omega) k' kind hH);rw [hM]at M
   have D:=fun(c:Nat) (H:aj) (hH:0<H.length) (he:e=0)=>H5 (c:=c) (H:=H) (l:=l) mS hck L (by
    rcases hTold with ⟨q,_⟩|⟨_,q⟩
    ·omega
    ·exact q) (by omega) htm hH
   have E:=fun(c:Nat) (H:aj) (hH:0<H.length)=>AW (c:=c) (H:=H) m (bS m k') (m.wide*m.deep).toNat m.aa.length m.ah.length (by rw [dh (by omega) (by omega)];omega) (by omega) (by omega) rfl rfl mS.t mS.p hH;have hal:bJ (m.wide*m.deep).toNat m.aa.length m.ah.length (bS m k')=bP m (bS m k'):=rfl;rw [hal]at E;have hlen:(bP m (bS m k')).length≤1000:=by
    have:=qg (m.wide*m.deep).toNat m.aa.length m.ah.length (bS m k');rw [hal]at this;omega
   have hlen0:0<(bP m (bS m k')).length:=by
    rw [←hal];unfold bJ gC;rw [List.length_append,List.length_map,List.length_range'];omega
   have SL:=fun Q hQ=>CK (wd:=w4) mS hck L (by omega) htm l5 hTold hl3 hlen hlen0 Q hQ;have he:e=0∨e=7:=by
    rcases hTold with ⟨a,_⟩|⟨a,_⟩
    ·exact .inr a
    ·exact .inl a
   have h0': ¬m.ai=[]:=fun e=>h0 (by rw [e];rfl);have h0c:((m.ai.length:Int)==0)=false:=(by simp;exact h0');have h3: ¬(3:Int)<l.length:=(by omega);have h3': ¬3<l.length:=(by omega);simp only [zd,aR,List.cons_append,List.nil_append]at U Y SL;simp only [List.map_cons,List.map_nil]at M;simp only [eE]at eR M D E;rcases he with rfl|rfl
   ·have D:=fun c H hH=>D c H hH rfl;by_cases k2:kind=2
    ·have s2: ¬(m.ai[k']'hk).kind=1:=fun x=>hst ⟨k2,x⟩;subst k2;simp [eB,eR,U,Y,M,D,E,h0',h0c,hk,s2,h3,h3',hwho,ak.row];refine SL _ ?_;simp [mC,ae]
    ·simp [eB,eR,U,Y,M,D,E,h0',h0c,hk,k2,h3,h3',hwho,ak.row];refine SL _ ?_;simp [mC,ae]
   ·by_cases k2:kind=2
    ·have s2: ¬(m.ai[k']'hk).kind=1:=fun x=>hst ⟨k2,x⟩;subst k2;simp [eB,eR,U,Y,M,E,h0',h0c,hk,s2,h3,h3',hwho,ak.row];refine SL _ ?_;simp [mC,ae]
    ·simp [eB,eR,U,Y,M,E,h0',h0c,hk,k2,h3,h3',hwho,ak.row];refine SL _ ?_;simp [mC,ae]
end
section
open Go.ChangeShapes Go.WideShapes Go.RowKit Go.ChangeAt
def zY (P:Program):Nat→TypeId→List PV→Prop
 |0,_,_=>False
 |n+1,t,ps=>
  match P.underlying t with
  |some .bool=> ∃b,ps=[.bool b]
  |some (.int k)=> ∃m,(Lit.int k m).wf=true∧ps=[.int k m]
  |some .string=> ∃l:List UInt8,l.length≤maxLen∧ps=[.str l]
  |some (.slice e)=> ∃rows,rows.length≤maxLen∧(∀r∈rows,r.length=P.cellsOf e∧zY P n e r)∧ps=[.slice rows]
  |some (.struct fs)=>ps.length=P.cellsOf t∧ ∀f∈fs.toList,zY P n f.type ((ps.drop f.offset).take (P.cellsOf f.type))
  |some (.array m e)=>ps.length=P.cellsOf t∧ ∀i,i<m→zY P n e ((ps.drop (i*P.cellsOf e)).take (P.cellsOf e))
  |_=>False
def eY (P:Program)(tot:Nat):Nat→List (Nat×TypeId)→Bool
 |o,[]=>o==tot
 |o,(off,t)::r=>off==o && eY P tot (o+P.cellsOf t) r
def jW (P:Program):Nat→TypeId→Bool
 |0,_=>false
 |n+1,t=>
  match P.underlying t with
  |some .bool|some (.int _)|some .string=>true
  |some (.slice e)=>decide (0<P.cellsOf e) && jW P n e
  |some (.struct fs)=>eY P (P.cellsOf t) 0 (fs.toList.map fun f=>(f.offset,f.type)) && fs.toList.all fun f=>jW P n f.type
  |some (.array m e)=>eY P (P.cellsOf t) 0 ((List.range m).map fun i=>(i*P.cellsOf e,e)) && jW P n e
  |_=>false
def S0 (w:World):Nat→Prop:=fun b=>b<w.heap.size
def vN (w:World)(cs:List Value)(ps:List PV):Prop:=ps.length=cs.length∧ ∀j,j<cs.length→(cs.getD j undef).oneCell'=true∧cf w (S0 w) (cs.getD j undef) (ps.getD j .dead)
theorem vN.append {w:World}{a b:List Value}{p q:List PV}(h:vN w a p)(k:vN w b q):vN w (a++b) (p++q):=by
 obtain⟨h1,h2⟩:=h;obtain⟨k1,k2⟩:=k;refine⟨by simp [h1,k1],fun j hj=> ?_⟩;by_cases hja:j<a.length
 ·have e1:(a++b).getD j undef=a.getD j undef:=(by simp [List.getD_eq_getElem?_getD,List.getElem?_append_left hja]);have e2:(p++q).getD j .dead=p.getD j .dead:=by simp [List.getD_eq_getElem?_getD,List.getElem?_append_left (show j<p.length by omega)]
  rw [e1,e2];exact h2 j hja
 ·have e1:(a++b).getD j undef=b.getD (j-a.length) undef:=by simp [List.getD_eq_getElem?_getD,List.getElem?_append_right (show a.length≤j by omega)]
  have e2:(p++q).getD j .dead=q.getD (j-a.length) .dead:=by rw [List.getD_eq_getElem?_getD,List.getElem?_append_right (show p.length≤j by omega),h1,List.getD_eq_getElem?_getD]
  rw [e1,e2];exact k2 _ (by simp at hj;omega)
theorem pI {w : World} {v : Value} {p : PV} (h1 : v.oneCell' = true) (h : cf w (S0 w) v p) : vN w [v] [p] :=
  ⟨rfl, fun j hj => by have : j = 0 := by simpa using hj
                       subst this; exact ⟨h1, h⟩⟩
section
variable {P:Program} {w:World}
theorem qD (n : Nat) {cs : List Value} : ∀ (l : List (Nat × TypeId)) (o : Nat), eY P cs.length o l = true →
    (∀ x ∈ l, ∃ ps, vN w ((cs.drop x.1).take (P.cellsOf x.2)) ps ∧ zY P n x.2 ps) →
    o ≤ cs.length ∧ ∃ ps, vN w (cs.drop o) ps ∧ ∀ x ∈ l, o ≤ x.1 ∧ zY P n x.2 ((ps.drop (x.1 - o)).take (P.cellsOf x.2))
  | [], o, hc, h => by
    simp only [eY, beq_iff_eq] at hc
    subst hc
    exact ⟨Nat.le_refl _, [], by simp [vN], by simp⟩
  | (off, t) :: r, o, hc, h => by
    simp only [eY, Bool.and_eq_true, beq_iff_eq] at hc
    obtain ⟨rfl, hc⟩ := hc
    obtain ⟨hle, ps, h1, h2⟩ := qD n r _ hc (fun x hx => h x (List.mem_cons_of_mem _ hx))
    obtain ⟨p, q1, q2⟩ := h (off, t) (List.mem_cons_self ..)
    simp only at q1 q2
    have hpl : p.length = P.cellsOf t := by rw [q1.1, List.length_take, List.length_drop]; omega
    refine ⟨by omega, p ++ ps, ?_, fun x hx => ?_⟩
    · have := q1.append h1
      rw [← List.drop_drop, List.take_append_drop] at this
      exact this
    · rcases List.mem_cons.1 hx with rfl | hx
      · refine ⟨Nat.le_refl _, ?_⟩
        simp only [Nat.sub_self, List.drop_zero]
        rw [← hpl, List.take_left]
        exact q2
      · obtain ⟨g1, g2⟩ := h2 x hx
        refine ⟨by omega, ?_⟩
        have e : (p ++ ps).drop (x.1 - off) = ps.drop (x.1 - (off + P.cellsOf t)) := by
          rw [List.drop_append, List.drop_of_length_le (by omega), List.nil_append, hpl, Nat.sub_sub]
        rw [e]; exact g2
theorem CN {H:Type}{enc:TypeId×Value→H}: ∀(n:Nat) (t:TypeId) (fuel:Nat) (cs:List Value) (x:DataW H×List MemPlace),jW P n t=true→
    DataW.trod enc P w 0 (fun _=>true) true fuel t cs=some x→ ∃ps,vN w cs ps∧zY P n t ps:=by
  intro n
  induction n with
  |zero=>intro t fuel cs x h;simp [jW]at h
  |succ n ih=>
    intro t fuel cs x h hx;unfold jW at h;unfold zY;split at h
    · rename_i ht
      obtain⟨b,rfl,_⟩:=DataW.trod_bool ht hx;exact⟨[.bool b],pI rfl (.bool b),b,rfl⟩
    · rename_i k ht
      obtain⟨m,rfl,_,hw⟩:=DataW.trod_int ht hx;exact⟨[.int k m],pI rfl (.int k m),m,hw,rfl⟩
    · rename_i ht
      obtain⟨s,rfl,_,hs⟩:=DataW.trod_string ht hx;exact⟨[.str s.data.toList],pI rfl (.str s),_,by simpa using hs,rfl⟩
    · rename_i e ht
      simp only [Bool.and_eq_true,decide_eq_true_eq]at h;obtain⟨he,hp⟩:=h;rcases DataW.trod_slice ht hx with ⟨rfl,_⟩|⟨a,len,cap,elems,rest,m,_,rfl,_,hb,hl,hm,hlen,hel,_,_⟩
      · exact⟨[.slice []],pI rfl (.fD none 0),[],by simp,by simp,rfl⟩
      · by_cases h0:len=0
        · subst h0
          exact⟨[.slice []],pI rfl (.fD _ _),[],by simp,by simp,rfl⟩
        · have each: ∀i,i<len→ ∃c ps,w.cells? 0 (a.add (i*P.cellsOf e)) (P.cellsOf e)=some c∧vN w c ps∧zY P n e ps:=by
            intro i hi;have h1:=hel i hi;rw [List.getElem?_eq_getElem (show i<elems.length by omega),Option.bind_eq_some_iff]at h1
            obtain⟨c,h1,h2⟩:=h1;obtain⟨ps,h3,h4⟩:=ih e m c _ hp h2;exact⟨c,ps,h1,h3,h4⟩
          have ch: ∃fc:Nat→List Value,∃fp:Nat→List PV,∀i,i<len→w.cells? 0 (a.add (i*P.cellsOf e)) (P.cellsOf e)=some (fc i)∧vN w (fc i) (fp i)∧zY P n e (fp i):=by
            refine⟨fun i=>if h:i<len then Classical.choose (each i h)else [],fun i=>if h:i<len then Classical.choose (Classical.choose_spec (each i h))else [],fun i hi=> ?_⟩;simp only [hi,↓reduceDIte];exact Classical.choose_spec (Classical.choose_spec (each i hi))
          obtain⟨fc,fp,hf⟩:=ch;have hcell: ∀i j,i<len→j<P.cellsOf e→w.cell? (a.add (i*P.cellsOf e+j))=some ((fc i).getD j undef):=by
            intro i j hi hj;obtain⟨h1,_⟩:=hf i hi;obtain⟨_,g1,g2⟩:=World.cells?_some h1;have:=g2 j hj;rw [List.getElem?_eq_getElem (by omega)]at this;have e1:(a.add (i*P.cellsOf e)).add j=a.add (i*P.cellsOf e+j):=by
              unfold Addr.add;by_cases c1:i*P.cellsOf e=0<;>by_cases c2:j=0<;>simp_all [Nat.add_assoc]
            rw [e1]at this;rw [this,List.getD_eq_getElem?_getD,List.getElem?_eq_getElem (by omega)];rfl
          obtain⟨b,off,spot⟩:=a;have hsp:spot=none:=by
            have:=World.cell?_spot (hcell 0 0 (by omega) he);simpa [Addr.add]using this
          subst hsp;have hcell': ∀i j,i<len→j<P.cellsOf e→w.cell? ⟨b,off+(i*P.cellsOf e+j),none⟩=some ((fc i).getD j undef):=by
            intro i j hi hj;have:=hcell i j hi hj;unfold Addr.add at this;split at this
            · rename_i c;rw [c,Nat.add_zero];exact this
            · exact this
          have hfl: ∀i,i<len→(fp i).length=P.cellsOf e∧(fc i).length=P.cellsOf e:=by
            intro i hi;obtain⟨h1,h2,_⟩:=hf i hi;obtain⟨_,g1,_⟩:=World.cells?_some h1;exact⟨h2.1.trans g1,g1⟩
          have hrows:((List.range len).map fp).length=len:=(by simp);refine⟨[.slice ((List.range len).map fp)],pI rfl ?_,_,by rw [hrows];omega,fun r hr=> ?_,rfl⟩
          · have:=cf.slice (w:=w) (S:=S0 w) b off cap (P.cellsOf e) ((List.range len).map fp) (fun i j=>(fc i).getD j undef) (by
                have:=hcell' 0 0 (by omega) he;unfold S0;refine Classical.byContradiction fun hn=> ?_;have hz:w.heap[b]? =none:=Array.getElem?_eq_none (by omega);simp [World.cell?,hz]at this) he
              (fun r hr=>by obtain⟨i,hi,rfl⟩:=List.mem_map.1 hr;exact(hfl i (by simpa using hi)).1)
              (fun i j hi hj=>hcell' i j (by simpa using hi) hj)
              (fun i j hi hj=>by
                have hi':i<len:=(by simpa using hi);exact((hf i hi').2.1.2 j (by rw [(hfl i hi').2];exact hj)).1)
              (fun i j hi hj=>by
                have hi':i<len:=(by simpa using hi);have e1:((List.range len).map fp).getD i []=fp i:=(by simp [List.getD_eq_getElem?_getD,hi']);rw [e1];exact((hf i hi').2.1.2 j (by rw [(hfl i hi').2];exact hj)).2)
              (by rw [hrows];exact hl)
            rw [hrows]at this;exact this
          · obtain⟨i,hi,rfl⟩:=List.mem_map.1 hr
            have hi':i<len:=(by simpa using hi);exact⟨(hfl i hi').1,(hf i hi').2.2⟩
    · rename_i fs ht
      simp only [Bool.and_eq_true,List.all_eq_true]at h;obtain⟨hc,hp⟩:=h;obtain⟨xs,m,_,_,hl,hlen,hfld⟩:=DataW.trod_struct ht hx;rw [←hl]at hc;obtain⟨_,ps,h1,h2⟩:=qD (w:=w) n _ 0 hc (fun y hy=>by
        obtain⟨f,hf,rfl⟩:=List.mem_map.1 hy;obtain⟨i,hi,e⟩:=List.getElem_of_mem hf;have hi':i<fs.size:=(by simpa using hi);have h3:=hfld i f (by rw [Array.getElem?_eq_getElem hi'];rw [←e];simp);rw [List.getElem?_eq_getElem (by omega)]at h3;obtain⟨p,q1,q2⟩:=ih f.type m _ _ (hp f hf) h3;exact⟨p,q1,q2⟩)
      rw [List.drop_zero]at h1;refine⟨ps,h1,by rw [h1.1,hl],fun f hf=> ?_⟩;exact(h2 (f.offset,f.type) (List.mem_map.2 ⟨f,hf,rfl⟩)).2
    · rename_i k e ht
      simp only [Bool.and_eq_true]at h;obtain⟨hc,hp⟩:=h;obtain⟨xs,m,_,_,hl,hlen,hfld⟩:=DataW.trod_array ht hx;rw [←hl]at hc;obtain⟨_,ps,h1,h2⟩:=qD (w:=w) n _ 0 hc (fun y hy=>by
        obtain⟨i,hi,rfl⟩:=List.mem_map.1 hy;have hi':i<k:=(by simpa using hi);have h3:=hfld i hi';rw [List.getElem?_eq_getElem (by omega)]at h3;obtain⟨p,q1,q2⟩:=ih e m _ _ hp h3;exact⟨p,q1,q2⟩)
      rw [List.drop_zero]at h1;refine⟨ps,h1,by rw [h1.1,hl],fun i hi=> ?_⟩;exact(h2 (i*P.cellsOf e,e) (List.mem_map.2 ⟨i,by simpa using hi,rfl⟩)).2
    · cases h
def Fm (P:Program)(n:Nat)(t:TypeId)(p:PV):Prop:=
 match P.underlying t with
 |some (.struct _)|some (.array _ _)=> ∃ps,p= .agg ps∧zY P n t ps
 |_=>zY P n t [p]
def xT (P:Program)(n:Nat):List TypeId→List PV→Prop
 | [],[]=>True
 |t::ts,p::ps=>Fm P n t p∧xT P n ts ps
 |_,_=>False
def M5:Mu:=fun _ _=>none
theorem M6 {n:Nat}{t:TypeId}{ps:List PV}(h:zY P n t ps)(hs: ∀fs,P.underlying t≠some (.struct fs))(ha: ∀m e,P.underlying t≠some (.array m e)): ∃p,ps=[p]:=by
 cases n with
 |zero=>exact h.elim
 |succ n=>
  unfold zY at h;split at h
  ·obtain⟨b,rfl⟩:=h;exact⟨_,rfl⟩
  ·obtain⟨m,_,rfl⟩:=h;exact⟨_,rfl⟩
  ·obtain⟨m,_,rfl⟩:=h;exact⟨_,rfl⟩
  ·obtain⟨m,_,_,rfl⟩:=h;exact⟨_,rfl⟩
  ·rename_i ht;exact absurd ht (hs _)
  ·rename_i ht;exact absurd ht (ha _ _)
  ·exact h.elim
theorem M7 {H:Type} {enc:TypeId×Value→H} {n:Nat} {t:TypeId} {v:Value} {d:DataW H} {ps0:List MemPlace} {base:Nat} (hp:jW P n t=true) (hok:Value.okWide P w .any base t v)
  (h:DataW.Trod enc P w 0 (fun _=>true) true t v d ps0): ∃p,aC w (S0 w) M5 0 v (.pure p)∧Fm P n t p:=by
 obtain⟨fuel,hf⟩:=h;obtain⟨ps,h1,h2⟩:=CN n t fuel _ _ hp hf;have agg: ∀cs,v= .agg cs→ ∃p,aC w (S0 w) M5 0 v (.pure p)∧ ∃ps,p= .agg ps∧zY P n t ps:=by
  intro cs e;subst e;simp only [Value.cells]at h1;refine⟨.agg ps, .pure _ _ (.agg cs ps (by simpa using h1.1.symm) (fun j hj=> ?_) (fun j hj=> ?_)),ps,rfl,h2⟩
  ·have:=(h1.2 j (by rw [←h1.1];exact hj)).1;simpa [List.getD_eq_getElem?_getD]using this
  ·have:=(h1.2 j (by rw [←h1.1];exact hj)).2;simpa [List.getD_eq_getElem?_getD]using this
 unfold Fm;split
 ·rename_i fs ht;obtain⟨cs,e,_⟩:=okWide_struct ht hok;exact agg cs e
 ·rename_i m e ht;simp only [Value.okWide,ht]at hok;obtain⟨cs,e,_⟩:=hok;exact agg cs e
 ·rename_i hs ha;obtain⟨p,rfl⟩:=M6 h2 (fun fs e=>hs fs e) (fun m e e'=>ha m e e');have hv:v.cells.toList=[v]:=by
   have hl:=h1.1;cases v<;>first|rfl|skip
   ·exfalso;rename_i cs
    cases n with
    |zero=>exact h2.elim
    |succ n=>
     unfold jW at hp;simp only [Value.okWide]at hok;split at hp<;>rename_i ht<;>first|(simp [Cell.okWide,Cell.ok,ht]at hok;done)|(exact absurd ht (hs _))|(exact absurd ht (ha _ _))|(cases hp;done)|skip
  rw [hv]at h1;exact⟨p, .pure _ _ (h1.2 0 (by simp)).2,h2⟩
end
end
section
open Go.WideShapes
def lL (f:TypeId→Option (List SK)):List TypeId→Option (List SK)
 | []=>some []
 |t::r=>match f t,lL f r with|some a,some b=>some (a++b)|_,_=>none
def gO (P:Program):Nat→TypeId→Option (List SK)
 |0,_=>none
 |n+1,t=>
  match P.underlying t with
  |some .bool=>if P.cellsOf t=1 then some [.bool]else none
  |some (.int k)=>if P.cellsOf t=1 then some [.int k]else none
  |some .string=>if P.cellsOf t=1 then some [.str]else none
  |some (.struct fs)=>if eY P (P.cellsOf t) 0 (fs.toList.map fun f=>(f.offset,f.type)) && fs.toList.all (·.name != "_") && !P.stoodInHeld t then lL (gO P n) (fs.toList.map (·.type))else none
  |some (.array m e)=>if decide (0<m) && eY P (P.cellsOf t) 0 ((List.range m).map fun i=>(i*P.cellsOf e,e))then lL (gO P n) ((List.range m).map fun _=>e)else none
  |_=>none
def valOf (P:Program)(t:TypeId)(l:List Value):Value:=
 match P.underlying t with
 |some (.struct _)|some (.array _ _)=> .agg l.toArray
 |_=>l.headD undef
theorem nj: ∀(k1 k2:List SK) (a b:List PV) (q:Bool),cg (k1++k2) a b=some q→
  ∃q1 q2,cg k1 (a.take k1.length) (b.take k1.length)=some q1∧cg k2 (a.drop k1.length) (b.drop k1.length)=some q2∧q=(q1 && q2)
 | [],k2,a,b,q,h=>⟨true,q,rfl,h,by simp⟩
 |s::ks,k2,[],b,q,h=>by cases s<;>cases b<;>simp [cg]at h
 |s::ks,k2,x::a,[],q,h=>by cases s<;>cases x<;>simp [cg]at h
 |s::ks,k2,x::a,y::b,q,h=>by
  have key: ∀q',cg (ks++k2) a b=some q'→ ∃q1 q2,cg ks (a.take ks.length) (b.take ks.length)=some q1∧cg k2 (a.drop ks.length) (b.drop ks.length)=some q2∧q'=(q1 && q2):=
   fun q' h=>nj ks k2 a b q' h
  cases s with
  |int k=>
   cases x<;>cases y<;>simp only [List.cons_append,cg]at h
   all_goals first|(cases h;done)|skip
   split at h
   ·rename_i hk;split at h
    ·rename_i q' hq';obtain⟨q1,q2,e1,e2,rfl⟩:=key q' hq';simp only [Option.some.injEq]at h;exact⟨_,q2,by simp only [List.length_cons,List.take_succ_cons,cg,hk,and_self,if_true,e1];rfl,by simpa using e2,by rw [←h,Bool.and_assoc]⟩
    ·cases h
   ·cases h
  |bool=>
   cases x<;>cases y<;>simp only [List.cons_append,cg]at h
   all_goals first|(cases h;done)|skip
   split at h
   ·rename_i q' hq';obtain⟨q1,q2,e1,e2,rfl⟩:=key q' hq';simp only [Option.some.injEq]at h;exact⟨_,q2,by simp only [List.length_cons,List.take_succ_cons,cg,e1];rfl,by simpa using e2,by rw [←h,Bool.and_assoc]⟩
   ·cases h
  |str=>
   cases x<;>cases y<;>simp only [List.cons_append,cg]at h
   all_goals first|(cases h;done)|skip
   split at h
   ·rename_i q' hq';obtain⟨q1,q2,e1,e2,rfl⟩:=key q' hq';simp only [Option.some.injEq]at h;exact⟨_,q2,by simp only [List.length_cons,List.take_succ_cons,cg,e1];rfl,by simpa using e2,by rw [←h,Bool.and_assoc]⟩
   ·cases h
theorem jP: ∀(k:List SK) (a b:List PV) (q:Bool),cg k a b=some q→a.length=k.length∧b.length=k.length
 | [],a,b,q,h=>by cases a<;>cases b<;>simp_all [cg]
 |s::ks,[],b,q,h=>by cases s<;>cases b<;>simp [cg]at h
 |s::ks,x::a,[],q,h=>by cases s<;>cases x<;>simp [cg]at h
 |s::ks,x::a,y::b,q,h=>by
  have key: ∀q',cg ks a b=some q'→(x::a).length=(s::ks).length∧(y::b).length=(s::ks).length:=fun q' h=>by
   have:=jP ks a b q' h;simp [this.1,this.2]
  cases s with
  |int k=>
   cases x<;>cases y<;>simp only [cg]at h
   all_goals first|(cases h;done)|skip
   split at h
   ·split at h
    ·rename_i q' hq';exact key q' hq'
    ·cases h
   ·cases h
  |bool=>
   cases x<;>cases y<;>simp only [cg]at h
   all_goals first|(cases h;done)|skip
   split at h
   ·rename_i q' hq';exact key q' hq'
   ·cases h
  |str=>
   cases x<;>cases y<;>simp only [cg]at h
   all_goals first|(cases h;done)|skip
   split at h
   ·rename_i q' hq';exact key q' hq'
   ·cases h
section
variable {P:Program}
theorem iT {f:TypeId→Option (List SK)}{t:TypeId}{r:List TypeId}{ks:List SK}(h:lL f (t::r)=some ks): ∃a b,f t=some a∧lL f r=some b∧ks=a++b:=by
 simp only [lL]at h;split at h
 ·rename_i a b h1 h2;simp only [Option.some.injEq]at h;exact⟨a,b,h1,h2,h.symm⟩
 ·cases h
theorem qE {n : Nat} (hf : ∀ t ks, gO P n t = some ks → ks.length = P.cellsOf t) : ∀ (l : List (Nat × TypeId)) (o tot : Nat) (ks : List SK), eY P tot o l = true → lL (gO P n) (l.map (·.2)) = some ks → o + ks.length = tot
  | [], o, tot, ks, h, hk => by
    simp only [List.map_nil, lL, Option.some.injEq] at hk
    subst hk
    simpa [eY] using h
  | (off, t) :: r, o, tot, ks, h, hk => by
    simp only [eY, Bool.and_eq_true, beq_iff_eq] at h
    obtain ⟨a, b, h1, h2, rfl⟩ := iT (by simpa using hk)
    have := qE hf r _ _ _ h.2 h2
    rw [List.length_append, hf t a h1]
    omega
theorem mH : ∀ (l : List (Nat × TypeId)) (o tot : Nat), eY P tot o l = true → o ≤ tot
  | [], o, tot, h => by simp only [eY, beq_iff_eq] at h; omega
  | (off, t) :: r, o, tot, h => by
    simp only [eY, Bool.and_eq_true, beq_iff_eq] at h
    have := mH r _ _ h.2
    omega
theorem ja: ∀(n:Nat) (t:TypeId) (ks:List SK),gO P n t=some ks→ks.length=P.cellsOf t
 |0,t,ks,h=>by simp [gO]at h
 |n+1,t,ks,h=>by
  unfold gO at h;split at h
  ·split at h
   ·rename_i e;simp at h;subst h;simp [e]
   ·cases h
  ·split at h
   ·rename_i e;simp at h;subst h;simp [e]
   ·cases h
  ·split at h
   ·rename_i e;simp at h;subst h;simp [e]
   ·cases h
  ·split at h
   ·rename_i hc;simp only [Bool.and_eq_true]at hc;have:=qE (ja n) _ 0 _ ks hc.1.1 (by rw [List.map_map];exact h);omega
   ·cases h
  ·split at h
   ·rename_i hc;simp only [Bool.and_eq_true]at hc;have:=qE (ja n) _ 0 _ ks hc.2 (by rw [List.map_map];exact h);omega
   ·cases h
  ·cases h
theorem xU {n:Nat}{t:TypeId}{ks:List SK}(h:gO P n t=some ks): ∃kd,P.underlying t=some kd:=by
 cases n with
 |zero=>simp [gO]at h
 |succ n=>
  cases hu:P.underlying t with
  |none=>simp [gO,hu]at h
  |some kd=>exact⟨kd,rfl⟩
theorem ir (w:World){n:Nat}{t:TypeId}{ks:List SK}(h:gO P n t=some ks)(xs:List Value)(off:Nat)(hlen:off+P.cellsOf t≤xs.length):
  (part t xs.toArray off).run P w= .ok (valOf P t ((xs.drop off).take (P.cellsOf t))) w:=by
 cases n with
 |zero=>simp [gO]at h
 |succ n=>
  unfold gO at h;have hone:P.cellsOf t=1→((xs.drop off).take (P.cellsOf t)).headD undef=xs.getD off undef∧off<xs.length:=by
   intro e;rw [e]at hlen⊢;refine⟨?_,by omega⟩;simp [List.headD_eq_head?_getD,List.head?_take,List.head?_drop,List.getD_eq_getElem?_getD]
  have hagg: ∀kd,P.underlying t=some kd→(∃fs,kd= .struct fs)∨(∃m e,kd= .array m e)→(part t xs.toArray off).run P w= .ok (.agg ((xs.drop off).take (P.cellsOf t)).toArray) w:=by
   intro kd hu hk;obtain⟨i,hi⟩:=info_of_underlying hu;have e:xs.toArray.extract off (off+P.cellsOf t)=((xs.drop off).take (P.cellsOf t)).toArray:=by
    apply Array.toList_inj.1;simp [Array.toList_extract,List.extract]
   rcases hk with ⟨fs,rfl⟩|⟨m,e',rfl⟩<;>simp [part,isAgg,run_underlying hu,run_sizeOf w hi,e]
  unfold valOf;split at h
  ·rename_i ht;split at h
   ·rename_i e;rw [(hone e).1];have:=(hone e).2;simp [part,isAgg,run_underlying ht,this,List.getD_eq_getElem?_getD,ht]
   ·cases h
  ·rename_i ht;split at h
   ·rename_i e;rw [(hone e).1];have:=(hone e).2;simp [part,isAgg,run_underlying ht,this,List.getD_eq_getElem?_getD,ht]
   ·cases h
  ·rename_i ht;split at h
   ·rename_i e;rw [(hone e).1];have:=(hone e).2;simp [part,isAgg,run_underlying ht,this,List.getD_eq_getElem?_getD,ht]
   ·cases h
  ·rename_i fs ht;simp only [ht];exact hagg _ ht (.inl ⟨_,rfl⟩)
  ·rename_i m e ht;simp only [ht];exact hagg _ ht (.inr ⟨_,_,rfl⟩)
  ·cases h
def Ig (P:Program)(n d:Nat)(t:TypeId):Prop:= ∀ks,gO P n t=some ks→ ∀(a b:List PV) (q:Bool),cg ks a b=some q→
 ∀w,(Op.equalIn d t (valOf P t (a.map cz)) (valOf P t (b.map cz))).run P w= .ok q w
def acb (P:Program)(n d:Nat)(t:TypeId):Prop:= ∀ks,gO P n t=some ks→ ∀(a:List PV),a.length=ks.length→ ∀e w,(Instr.checkKey e d t (valOf P t (a.map cz))).run P w= .ok () w
theorem lM {n d:Nat}(ih: ∀t,Ig P n d t): ∀(fs:List Field) (o:Nat) (ks:List SK) (a b:List PV) (q:Bool),eY P a.length o (fs.map fun f=>(f.offset,f.type))=true→(fs.all (·.name != "_"))=true→
  lL (gO P n) (fs.map (·.type))=some ks→a.length=b.length→cg ks (a.drop o) (b.drop o)=some q→ ∀w,(Op.eqFields d (a.map cz).toArray (b.map cz).toArray fs).run P w= .ok q w
 | [],o,ks,a,b,q,hc,hn,hk,hl,he,w=>by
  simp only [List.map_nil,lL,Option.some.injEq]at hk;subst hk;have hl1:=jP _ _ _ _ he;have e1:a.drop o=[]:=List.length_eq_zero_iff.1 hl1.1;have e2:b.drop o=[]:=List.length_eq_zero_iff.1 hl1.2;rw [e1,e2]at he;simp only [cg,Option.some.injEq]at he;subst he;simp [Op.eqFields]
 |f::fs,o,ks,a,b,q,hc,hn,hk,hl,he,w=>by
  simp only [List.map_cons,eY,Bool.and_eq_true,beq_iff_eq]at hc;obtain⟨rfl,hc⟩:=hc;simp only [List.all_cons,Bool.and_eq_true,bne_iff_ne,ne_eq]at hn;obtain⟨k1,k2,h1,h2,rfl⟩:=iT (by simpa using hk);obtain⟨q1,q2,g1,g2,rfl⟩:=nj k1 k2 _ _ q he;have hk1:=ja n _ _ h1;have hle:=mH _ _ _ hc;have hkl:=jP _ _ _ _ he;simp only [List.length_drop,List.length_append]at hkl;rw [List.drop_drop,List.drop_drop]at g2;rw [hk1]at g1 g2;have p1:=ir w h1 (a.map cz) f.offset (by simp;omega);have p2:=ir w h1 (b.map cz) f.offset (by simp;omega);rw [←List.map_drop,←List.map_take]at p1 p2;have p3:=ih f.type k1 h1 _ _ q1 g1 w;have rest:=lM ih fs _ k2 a b q2 hc (by simpa using hn.2) h2 hl g2 w;simp only [Op.eqFields,hn.1,ne_eq,not_false_eq_true,if_true,Sem.run_bind,p1,p2,p3,Result.andThen_ok];cases q1
  ·simp
  ·simpa using rest
theorem mI {n d:Nat}{e:TypeId}(ih: ∀t,Ig P n d t): ∀(is:List Nat) (o:Nat) (ks:List SK) (a b:List PV) (q:Bool),eY P a.length o (is.map fun i=>(i*P.cellsOf e,e))=true→
  lL (gO P n) (is.map fun _=>e)=some ks→a.length=b.length→cg ks (a.drop o) (b.drop o)=some q→ ∀w,(Op.eqItems d e (P.cellsOf e) (a.map cz).toArray (b.map cz).toArray is).run P w= .ok q w
 | [],o,ks,a,b,q,hc,hk,hl,he,w=>by
  simp only [List.map_nil,lL,Option.some.injEq]at hk;subst hk;have hl1:=jP _ _ _ _ he;have e1:a.drop o=[]:=List.length_eq_zero_iff.1 hl1.1;have e2:b.drop o=[]:=List.length_eq_zero_iff.1 hl1.2;rw [e1,e2]at he;simp only [cg,Option.some.injEq]at he;subst he;simp [Op.eqItems]
 |i::is,o,ks,a,b,q,hc,hk,hl,he,w=>by
  simp only [List.map_cons,eY,Bool.and_eq_true,beq_iff_eq]at hc;obtain⟨rfl,hc⟩:=hc;obtain⟨k1,k2,h1,h2,rfl⟩:=iT (by simpa using hk);obtain⟨q1,q2,g1,g2,rfl⟩:=nj k1 k2 _ _ q he;have hk1:=ja n _ _ h1;have hle:=mH _ _ _ hc;have hkl:=jP _ _ _ _ he;simp only [List.length_drop,List.length_append]at hkl;rw [List.drop_drop,List.drop_drop]at g2;rw [hk1]at g1 g2;have p1:=ir w h1 (a.map cz) (i*P.cellsOf e) (by simp;omega);have p2:=ir w h1 (b.map cz) (i*P.cellsOf e) (by simp;omega);rw [←List.map_drop,←List.map_take]at p1 p2;have p3:=ih e k1 h1 _ _ q1 g1 w;have rest:=mI ih is _ k2 a b q2 hc h2 hl g2 w;simp only [Op.eqItems,Sem.run_bind,p1,p2,p3,Result.andThen_ok];cases q1
  ·simp
  ·simpa using rest
theorem xV (d:Nat): ∀(n:Nat) (t:TypeId),Ig P n (d+n) t
 |0,t=>fun ks h=>by simp [gO]at h
 |n+1,t=>fun ks h a b q he w=>by
  have ih:=fun t=>xV d n t;have hl:=ja _ _ _ h;have hl2:=jP _ _ _ _ he;unfold gO at h;unfold valOf;rw [show d+(n+1)=(d+n)+1 from rfl]
  split at h
  ·rename_i ht;split at h
   ·simp only [Option.some.injEq]at h;subst h
    match a,b,he with
    | [.bool x],[.bool y],he=>
     simp only [cg,Option.some.injEq,Bool.and_true]at he;simp only [List.map_cons,List.map_nil,List.headD_cons,cz,ht];rw [run_equalIn_bool' w _ _ _ _ ht,he]
   ·cases h
  ·rename_i k ht;split at h
   ·simp only [Option.some.injEq]at h;subst h
    match a,b,he with
    | [.int k1 x],[.int k2 y],he=>
     simp only [cg]at he;split at he
     ·rename_i hk;simp only [Option.some.injEq,Bool.and_true]at he;obtain⟨rfl,rfl⟩:=hk;simp only [List.map_cons,List.map_nil,List.headD_cons,cz,ht];rw [run_equalIn_int w _ _ _ _ _ _ ht,‹(x==y)=q›]
     ·cases he
   ·cases h
  ·rename_i ht;split at h
   ·simp only [Option.some.injEq]at h;subst h
    match a,b,he with
    | [.str x],[.str y],he=>
     simp only [cg,Option.some.injEq,Bool.and_true]at he;simp only [List.map_cons,List.map_nil,List.headD_cons,cz,ht];rw [run_equalIn_string w _ _ _ _ ht];simp [ByteArray.toList_eq,he]
   ·cases h
  ·rename_i fs ht;split at h
   ·rename_i hc;simp only [Bool.and_eq_true,Bool.not_eq_true']at hc;have hfo:P.fieldsOf t=fs:=(by simp [Program.fieldsOf,ht]);simp only [ht];rw [run_equalIn_struct w _ _ _ _ (by rw [hfo];exact ht) hc.2,hfo];exact lM ih fs.toList 0 ks a b q (by rw [hl2.1,hl];exact hc.1.1) hc.1.2 h (by omega) (by simpa using he) w
   ·cases h
  ·rename_i m e ht;split at h
   ·rename_i hc;simp only [Bool.and_eq_true,decide_eq_true_eq]at hc;have hinf: ∃i,P.info? e=some i:=by
     obtain⟨m,rfl⟩: ∃m',m=m'+1:=⟨m-1,by omega⟩;rw [List.range_succ_eq_map,List.map_cons]at h;obtain⟨k1,_,h1,_⟩:=iT h;obtain⟨kd,hu⟩:=xU h1;exact info_of_underlying hu
    obtain⟨i,hi⟩:=hinf;simp only [ht];rw [run_equalIn_array w _ _ _ ht hi];exact mI ih (List.range m) 0 ks a b q (by rw [hl2.1,hl];exact hc.2) h (by omega) (by simpa using he) w
   ·cases h
  ·cases h
theorem xW (d:Nat): ∀(n:Nat) (t:TypeId),acb P n (d+n) t
 |0,t=>fun ks h=>by simp [gO]at h
 |n+1,t=>fun ks h a hal e w=>by
  have ih:=fun t=>xW d n t;have hl:=ja _ _ _ h;unfold gO at h;unfold valOf;rw [show d+(n+1)=(d+n)+1 from rfl,Instr.checkKey]
  split at h
  ·rename_i ht;simp only [ht,Sem.run_bind,run_underlying ht,Result.andThen_ok,Sem.run_pure]
  ·rename_i k ht;simp only [ht,Sem.run_bind,run_underlying ht,Result.andThen_ok,Sem.run_pure]
  ·rename_i ht;simp only [ht,Sem.run_bind,run_underlying ht,Result.andThen_ok,Sem.run_pure]
  ·rename_i fs ht;split at h
   ·rename_i hc;simp only [Bool.and_eq_true,Bool.not_eq_true']at hc;simp only [ht,Sem.run_bind,run_underlying ht,Result.andThen_ok];rw [←Array.forIn_toList]
    have key: ∀(L:List Field) (o:Nat) (ks:List SK),eY P a.length o (L.map fun f=>(f.offset,f.type))=true→(L.all (·.name != "_"))=true→lL (gO P n) (L.map (·.type))=some ks→
      (forIn L PUnit.unit (fun f (_:PUnit)=>if f.name≠ "_" then (do
       let p←part f.type (a.map cz).toArray f.offset
       Instr.checkKey e (d+n) f.type p
       pure (ForInStep.yield PUnit.unit))else pure (ForInStep.yield PUnit.unit)):Sem PUnit).run P w= .ok PUnit.unit w:=by
     intro L
     induction L with
     |nil=>intro o ks _ _ _;simp
     |cons f L ihL=>
      intro o ks hc hn hk;simp only [List.map_cons,eY,Bool.and_eq_true,beq_iff_eq]at hc;obtain⟨rfl,hc⟩:=hc;simp only [List.all_cons,Bool.and_eq_true,bne_iff_ne,ne_eq]at hn;obtain⟨k1,k2,h1,h2,rfl⟩:=iT (by simpa using hk);have hk1:=ja n _ _ h1;have hle:=mH _ _ _ hc;have p1:=ir w h1 (a.map cz) f.offset (by simp;omega);rw [←List.map_drop,←List.map_take]at p1;have p2:=ih f.type k1 h1 ((a.drop f.offset).take (P.cellsOf f.type)) (by simp;omega) e w;have:=ihL _ _ hc (by simpa using hn.2) h2;simp only [List.forIn_cons,Sem.run_bind,hn.1,ne_eq,not_false_eq_true,if_true,p1,p2,Result.andThen_ok,Sem.run_pure];exact this
    have:=key fs.toList 0 ks (by rw [hal,hl];exact hc.1.1) hc.1.2 h;rw [this];rfl
   ·cases h
  ·rename_i m el ht;split at h
   ·rename_i hc;simp only [Bool.and_eq_true,decide_eq_true_eq]at hc;have hinf: ∃i,P.info? el=some i:=by
     obtain⟨m,rfl⟩: ∃m',m=m'+1:=⟨m-1,by omega⟩;rw [List.range_succ_eq_map,List.map_cons]at h;obtain⟨k1,_,h1,_⟩:=iT h;obtain⟨kd,hu⟩:=xU h1;exact info_of_underlying hu
    obtain⟨i,hi⟩:=hinf;simp only [ht,Sem.run_bind,run_underlying ht,Result.andThen_ok];simp only [Std.Legacy.Range.forIn_eq_forIn_range',Std.Legacy.Range.size,Nat.sub_zero,Nat.add_one_sub_one,Nat.div_one];rw [←List.range_eq_range']
    have key: ∀(L:List Nat) (o:Nat) (ks:List SK),eY P a.length o (L.map fun i=>(i*P.cellsOf el,el))=true→lL (gO P n) (L.map fun _=>el)=some ks→
      (forIn L PUnit.unit (fun i (_:PUnit)=>do
       Instr.checkKey e (d+n) el (←part el (a.map cz).toArray (i*(←sizeOf el)))
       pure (ForInStep.yield PUnit.unit)):Sem PUnit).run P w= .ok PUnit.unit w:=by
     intro L
     induction L with
     |nil=>intro o ks _ _;simp
     |cons j L ihL=>
      intro o ks hc hk;simp only [List.map_cons,eY,Bool.and_eq_true,beq_iff_eq]at hc;obtain⟨rfl,hc⟩:=hc;obtain⟨k1,k2,h1,h2,rfl⟩:=iT (by simpa using hk);have hk1:=ja n _ _ h1;have hle:=mH _ _ _ hc;have p1:=ir w h1 (a.map cz) (j*P.cellsOf el) (by simp;omega);rw [←List.map_drop,←List.map_take]at p1;have p2:=ih el k1 h1 ((a.drop (j*P.cellsOf el)).take (P.cellsOf el)) (by simp;omega) e w;have:=ihL _ _ hc h2;simp only [List.forIn_cons,Sem.run_bind,run_sizeOf w hi,p1,p2,Result.andThen_ok,Sem.run_pure];exact this
    have:=key (List.range m) 0 ks (by rw [hal,hl];exact hc.2) h;rw [this];rfl
   ·cases h
  ·cases h
theorem M8 {t:TypeId}{ks:List SK}(n:Nat)(hn:n≤10000)(hg:P.eqGuardType P.depth t=false)(hk:gO P n t=some ks)(ha:eI P t=some true):TU P t ks:=by
 refine⟨hg,fun a b q h w=>⟨?_,fun e=> ?_⟩⟩
 ·have h1:=xV (P:=P) (10000-n) n t ks hk a b q h w;rw [Nat.sub_add_cancel hn]at h1;unfold valOf at h1;unfold eI at ha;split at ha<;>rename_i hu<;>first|(rw [hu]at h1;exact h1)|(cases ha)
 ·have h1:=xW (P:=P) (10000-n) n t ks hk a (jP _ _ _ _ h).1 e w;rw [Nat.sub_add_cancel hn]at h1;unfold valOf at h1;unfold eI at ha;split at ha<;>rename_i hu<;>first|(rw [hu]at h1;exact h1)|(cases ha)
end
end
section
theorem vO (P:Program)(w:World)(d:Nat){t e:TypeId}{b:Option Addr}{len cap:Nat}(hu:P.underlying t=some (.slice e)):(Op.equalIn (d+1) t (.slice b len cap) (.slice none 0 0)).run P w= .ok b.isNone w:=by
 cases b<;>simp [Op.equalIn,aI w hu]
theorem Ih (P:Program)(w:World){t e:TypeId}{b:Option Addr}{len cap:Nat}(hu:P.underlying t=some (.slice e)):(binOp .eql t (.slice b len cap) (.slice none 0 0)).run P w= .ok (.bool b.isNone) w:=by
 have:=vO P w 9999 (b:=b) (len:=len) (cap:=cap) hu;simp only [binOp];simp only [Op.equal,Op.maxDepth,Sem.run_bind,this,Result.andThen_ok,Sem.run_pure]
section
variable {w:World}
theorem Ii (K:Ctx) (hK:iJ K) {n id:Nat} {f:FuncId} {g:Func} {A X D:Code} {t0 t1 t2:TypeId} {p3 p4:String} {a3 a4:Array Edge} {t t' e:TypeId} {st1 stX stD:bN}
  (hf:K.P.funcs[f]? =some g)
  (hb:g.body=some (.seq A (.seq (.seq (.region id #[⟨some 3, .move (.tmp 0),t0,p3,a3,none⟩,⟨some 4, .binOp .eql t (.tmp 3) (.const (.slice none 0 0)) t',t1,p4,a4,none⟩] false) (.cond (.tmp 4) X .skip)) D)))
  (hname:(g.name== "runtime.NumGoroutine")=false) (hnt:g.ntmps=8) (ht:K.P.underlying t=some (.slice e))
  (hA:c9 K n f A ⟨[(0, .pure (.slice []))],[[],[]],8⟩=some (.normal,st1)) (h0:look st1.s 0= .pure (.slice []))
  (hX:c9 K n f X ⟨(4, .pure (.bool true))::(3, .pure (.slice []))::st1.s,st1.h,8⟩=some (.ret,stX)) (hD:c9 K n f D ⟨(4, .pure (.bool false))::(3, .pure (.slice []))::st1.s,st1.h,8⟩=some (.ret,stD))
  (rX:fh K g stX=some [.aV]) (rD:fh K g stD=some [.aV]):y9 K.P f:=by
 intro w av cap;have hS:a9 w (fun b=>b<w.heap.size) (fun _ _=>none) ([[],[]]:aj):=⟨fun nm x hx t b hb=>by simp at hb,fun nm t b hb=>by simp at hb,fun nm nm' t t' b h1 h2=>by simp at h1,fun nm t b hb=>by simp at hb,fun b hb=>hb⟩;have hst:kF w.heap.size none w (fun b=>b<w.heap.size) (fun _ _=>none) ⟨[(0, .pure (.slice []))],[[],[]],8⟩ {tmps:= #[.slice av 0 cap]++Array.replicate 7 undef,defers:=[]}:=by
  refine⟨hS,fun q=> ?_,by simp,by simp,Nat.le_refl _,⟨fun d hd=>by simp at hd, .nil⟩,fun l hl=>by cases hl⟩;rw [xX];simp only [look];split
  ·rename_i e;subst e;exact .pure _ _ (.fD _ _)
  ·exact dK _
 refine⟨by simp only [callFunc,Sem.run_bind,run_program,Result.andThen,hf,hname,hb];rfl, ?_⟩
 have fin: ∀(st:bN),fh K g st=some [.aV]→ ∀(e':Exit) (a':Act) (w':World),lF w.heap.size none ⟨[(0, .pure (.slice []))],[[],[]],8⟩ w (fun b=>b<w.heap.size) (fun _ _=>none) .ret st e' a' w'→
   e'= .ret∧LeavesInM (Fw none) 0 K.P g a'.tmps (fun e w'=>(∃a',e= .returned (.slice a' 0 0))∧w'.os=w.os∧w'.tape=w.tape∧w'.output=w.output∧w.heap.size≤w'.heap.size∧ ∀b,b<w.heap.size→w'.heap[b]? =w.heap[b]?) a'.defers .returning w':=by
  intro st hres e' a' w' hq;obtain⟨q1,q2,q3,S',μ',q4,q5⟩:=hq;refine⟨q1,vP (s:=st.s) (k:=st.h.length-1) a'.defers w' q4.defs q4.heap q5 (Nat.le_refl _) q4.ez fun w2 h2 e2 s2=> ?_⟩;obtain⟨u,u1,u2⟩:=tK K h2 s2 hres;refine⟨u,u1, ?_,e2.os,e2.tape,e2.out,e2.size,fun b hb=>e2.same b hb (.inl hb)⟩;have u3:aC w2 S' μ' (st.h.length-1) u .aV:=u2
  cases u3 with
  |aV a=>exact⟨a,rfl⟩
 have hn8:g.ntmps-(#[Value.slice av 0 cap]:Array Value).size=7:=(by rw [hnt];rfl);refine callsIn_of_wp_marks hf hb trivial ?_;rw [hn8];refine wpIn_seq (wpIn_mono (j9 K hK n f A _ _ _ hA _ none w _ _ _ hst) fun e' a1 w1 hq1=> ?_);obtain⟨q1,q2,q3,S1,μ1,q4,q5⟩:=hq1;simp only [eN]at q1;subst q1;simp only [Exit.then];have hv:=q4.ez 0;rw [h0]at hv;obtain⟨base,cap1,hbase,_⟩:=hv.pv.kL;have hlen:st1.h.length=2:=q2;refine wpIn_seq (wpIn_seq (wpIn_region ?_));have hsz:a1.tmps.size=8:=q4.nt.trans q3;have hr:List.range (#[(⟨some 3, .move (.tmp 0),t0,p3,a3,none⟩:Oper),⟨some 4, .binOp .eql t (.tmp 3) (.const (.slice none 0 0)) t',t1,p4,a4,none⟩]:Array Oper).size=[0,1]:=rfl;rw [hr];simp only [wpOpsIn];simp only [List.getElem?_toArray,List.getElem?_cons_zero,List.getElem?_cons_succ,Region.wanted,if_true];refine uI K hK (j9 K hK n) q4.heap q4.pos q4.ez (v:= .pure (.slice [])) (H':=st1.h) (fn:=f) (o:=⟨some 3, .move (.tmp 0),t0,p3,a3,none⟩) (s:=st1.s) (by simp [cE,gP,dZ,ev,h0]) fun u3 w2 S2 μ2 hv3 hh3 he3 hl3=> ?_;obtain⟨base3,cap3,hu3,_⟩:=hv3.pv.kL;have hu3:u3= .slice base3 0 cap3:=hu3;subst hu3;have hs1: ∀q,aC w2 S2 μ2 (st1.h.length-1) (a1.tmps.getD q undef) (look st1.s q):=oL q4.ez q4.heap he3 (Nat.le_refl _) (Nat.le_refl _);obtain⟨z1,z2,z3,z4,z5⟩:=pJ (st:=⟨st1.s,st1.h,8⟩) (st':=⟨(3, .pure (.slice []))::st1.s,st1.h,8⟩) hs1 hsz hv3 rfl rfl (dst:=some 3) (by simp [bN.put]);refine⟨fun _ _=>trivial, ?_⟩;rw [Oper.semAt_eq _ _ _ (fun c e=>by cases e)];have he0:(a1.put (some 3) (.slice base3 0 cap3)).eval (.tmp 3)= .slice base3 0 cap3:=by
  show (a1.put (some 3) (.slice base3 0 cap3)).tmps.getD 3 undef=_
  rw [kb _ _ _ _ (by omega)];simp
 have hrun:(execOp (a1.put (some 3) (.slice base3 0 cap3)).eval ⟨some 4, .binOp .eql t (.tmp 3) (.const (.slice none 0 0)) t',t1,p4,a4,none⟩).run K.P w2= .ok (.value (.bool base3.isNone)) w2:=by
  have hc:(a1.put (some 3) (.slice base3 0 cap3)).eval (.const (.slice none 0 0))= .slice none 0 0:=rfl;have hg:(eqGuard .eql t (.tmp 3) (.const (.slice none 0 0)) (.slice base3 0 cap3) (.slice none 0 0)).run K.P w2= .ok () w2:=(by simp [eqGuard]);simp only [execOp,he0,hc,Sem.run_bind,hg,Result.andThen_ok,Ih K.P w2 ht,Sem.run_pure]
 rw [hrun,Oper.uponIn_value];simp only;have hb4:aC w2 S2 μ2 (st1.h.length-1) (.bool base3.isNone) (.pure (.bool base3.isNone)):= .pure _ _ (.bool _);obtain⟨y1,y2,y3,y4,y5⟩:=pJ (st:=⟨(3, .pure (.slice []))::st1.s,st1.h,8⟩) (st':=⟨(4, .pure (.bool base3.isNone))::(3, .pure (.slice []))::st1.s,st1.h,8⟩) z1 (z2.trans rfl) hb4 rfl rfl (dst:=some 4) (by simp [bN.put])
 have hst2:kF w.heap.size none w2 S2 μ2 ⟨(4, .pure (.bool base3.isNone))::(3, .pure (.slice []))::st1.s,st1.h,8⟩ ((a1.put (some 3) (.slice base3 0 cap3)).put (some 4) (.bool base3.isNone)):=
  ⟨hh3,y1,y2.trans rfl,q4.pos,Nat.le_trans q4.low he3.size,by rw [y5,z5];exact q4.defs.ev he3,fun l hl=>by cases hl⟩
 have hc4:((a1.put (some 3) (.slice base3 0 cap3)).put (some 4) (.bool base3.isNone)).eval (.tmp 4)= .bool base3.isNone:=by
  show ((a1.put (some 3) (.slice base3 0 cap3)).put (some 4) (.bool base3.isNone)).tmps.getD 4 undef=_
  rw [kb _ _ _ _ (by rw [z2];simp)];simp
 have hE:=q5.trans (he3.level (by simp [hlen]));simp only [Exit.then];refine wpIn_cond hc4 ?_
 have out: ∀(st:bN) (e':Exit) (a':Act) (w':World),lF w.heap.size none ⟨(4, .pure (.bool base3.isNone))::(3, .pure (.slice []))::st1.s,st1.h,8⟩ w2 S2 μ2 .ret st e' a' w'→
   lF w.heap.size none ⟨[(0, .pure (.slice []))],[[],[]],8⟩ w (fun b=>b<w.heap.size) (fun _ _=>none) .ret st e' a' w':=fun st e' a' w' hq=>by
  obtain⟨k1,k2,k3,S',μ',k4,k5⟩:=hq;exact⟨k1,k2.trans hlen,k3,S',μ',k4,hE.trans (k5.level (by simp [hlen]))⟩
 cases hbn:base3.isNone with
 |true=>
  simp only [if_true];rw [hbn]at hst2 out;refine wpIn_mono (j9 K hK n f X _ _ _ hX _ none w2 _ _ _ hst2) fun e' a' w' hq=> ?_;obtain⟨k1,k2⟩:=fin stX rX e' a' w' (out _ _ _ _ hq);subst k1;exact k2
 |false=>
  simp only [Bool.false_eq_true,if_false];rw [hbn]at hst2 out;refine wpIn_skip ?_;simp only [Exit.then];refine wpIn_mono (j9 K hK n f D _ _ _ hD _ none w2 _ _ _ hst2) fun e' a' w' hq=> ?_;obtain⟨k1,k2⟩:=fin stD rD e' a' w' (out _ _ _ _ hq);subst k1;exact k2
def uJ:Option (List GV)→Bool
 |some [.aV]=>true
 |_=>false
def isE:GV→Bool
 | .pure (.slice [])=>true
 |_=>false
def Ij (K:Ctx)(n:Nat)(f:FuncId)(g:Func)(A X D:Code)(t:TypeId):Bool:=
 match c9 K n f A ⟨[(0, .pure (.slice []))],[[],[]],8⟩with
 |some (.normal,st1)=>
  isE (look st1.s 0) && (dr K.P t).isSome &&
  (match c9 K n f X ⟨(4, .pure (.bool true))::(3, .pure (.slice []))::st1.s,st1.h,8⟩with|some (.ret,st)=>uJ (fh K g st)|_=>false) &&
  (match c9 K n f D ⟨(4, .pure (.bool false))::(3, .pure (.slice []))::st1.s,st1.h,8⟩with|some (.ret,st)=>uJ (fh K g st)|_=>false)
 |_=>false
theorem vQ {x:Option (List GV)}(h:uJ x=true):x=some [.aV]:=by
 unfold uJ at h;split at h
 ·rfl
 ·cases h
theorem kM (K:Ctx) (hK:iJ K) {n id:Nat} {f:FuncId} {g:Func} {A X D:Code} {t0 t1:TypeId} {p3 p4:String} {a3 a4:Array Edge} {t t':TypeId}
  (hf:K.P.funcs[f]? =some g)
  (hb:g.body=some (.seq A (.seq (.seq (.region id #[⟨some 3, .move (.tmp 0),t0,p3,a3,none⟩,⟨some 4, .binOp .eql t (.tmp 3) (.const (.slice none 0 0)) t',t1,p4,a4,none⟩] false) (.cond (.tmp 4) X .skip)) D)))
  (hname:(g.name== "runtime.NumGoroutine")=false) (hnt:g.ntmps=8) (h:Ij K n f g A X D t=true):y9 K.P f:=by
 unfold Ij at h;split at h
 ·rename_i st1 hA;simp only [Bool.and_eq_true]at h;obtain⟨⟨⟨h0,ht⟩,hX⟩,hD⟩:=h;obtain⟨e,he⟩:=Option.isSome_iff_exists.1 ht;have h0':look st1.s 0= .pure (.slice []):=by
   unfold isE at h0;split at h0
   ·assumption
   ·cases h0
  split at hX
  ·rename_i stX eX;split at hD
   ·rename_i stD eD;exact Ii K hK (t2:=0) hf hb hname hnt (db he) hA h0' eX eD (vQ hX) (vQ hD)
   ·cases hD
  ·cases hX
 ·cases h
end
end
section
open Go.ChangeShapes Go.WideShapes Go.RowKit Go.ChangeAt
section
variable {P:Program} {H:Type} {enc:TypeId×Value→H}
theorem pU (hl:laidOutB P=true){W W':World}(hb:Below W.heap.size W W'): ∀(ts:List TypeId) (vs:List Value) (ds:List (DataW H)) (ps:List MemPlace),(∀t∈ts,P.readableRec t=true∧t<P.types.size)→
  DataW.TrodAll enc P W 0 (fun _=>true) true ts vs ds ps→DataW.TrodAll enc P W' 0 (fun b=>decide (b<W.heap.size)) true ts vs ds ps
 | [],vs,ds,ps,_,h=>by
  obtain⟨rfl,rfl,rfl⟩:=trodAll_nil h;exact trodAll_mk0
 |t::ts,vs,ds,ps,ht,h=>by
  obtain⟨v,vs',d,ds',p,q,rfl,rfl,rfl,h1,h2⟩:=trodAll_cons h;obtain⟨a1,a2⟩:=ht t (List.mem_cons_self ..);have hlt: ∀x∈p,x.block<W.heap.size:=(by obtain⟨m,hm⟩:=h1;exact DataW.trod_lt m _ _ _ hm);exact trodAll_cons_mk (Below.trod hl a1 a2 h1 hb hlt) (pU hl hb ts vs' ds' q (fun t ht'=>ht t (List.mem_cons_of_mem _ ht')) h2)
theorem AX {w:World}{base:Nat}{n:Nat}: ∀(ts:List TypeId) (vs:List Value) (ds:List (DataW H)) (ps:List MemPlace),(∀t∈ts,jW P n t=true)→
  (∀(j:Nat) t v,ts[j]? =some t→vs[j]? =some v→Value.okWide P w .any base t v)→
  DataW.TrodAll enc P w 0 (fun _=>true) true ts vs ds ps→ds.length=ts.length∧ ∃pvs,xT P n ts pvs∧pvs.length=vs.length∧ ∀j,j<vs.length→aC w (S0 w) M5 0 (vs.getD j undef) (.pure (pvs.getD j .dead))
 | [],vs,ds,ps,_,_,h=>by
  obtain⟨rfl,rfl,rfl⟩:=trodAll_nil h;exact⟨rfl,[],trivial,rfl,by simp⟩
 |t::ts,vs,ds,ps,ht,hok,h=>by
  obtain⟨v,vs',d,ds',p,q,rfl,rfl,rfl,h1,h2⟩:=trodAll_cons h;obtain⟨hl,pvs,a1,a2,a3⟩:=AX ts vs' ds' q (fun t ht'=>ht t (List.mem_cons_of_mem _ ht')) (fun j t v h1 h2=>hok (j+1) t v (by simpa using h1) (by simpa using h2)) h2;obtain⟨pv,b1,b2⟩:=M7 (ht t (List.mem_cons_self ..)) (hok 0 t v rfl rfl) h1;refine⟨by simp [hl],pv::pvs,⟨b2,a1⟩,by simp [a2],fun j hj=> ?_⟩
  cases j with
  |zero=>exact b1
  |succ j=>exact a3 j (by simpa using hj)
end
theorem ZK (w:World):a9 w (S0 w) M5 [[]]:=
 ⟨fun nm x hx=>by simp [aj.get,Fr.get]at hx,fun nm t b h=>by simp [M5]at h,fun nm nm' t t' b h=>by simp [M5]at h,fun nm t b h=>by simp [M5]at h,fun b h=>h⟩
theorem AY {w w':World}{S':Nat→Prop}{μ':Mu}{l:Nat}(h:Ev l w (S0 w) M5 w' S' μ'):Below w.heap.size w w':=
 ⟨h.os,h.tape,h.out,h.size,fun k hk=>h.same k hk (.inl hk)⟩
theorem Fo {K:Ctx} (hK:iJ K) {f:FuncId} {pvs:List PV} {H':aj} (h:aL K (aE K) f (pvs.map .pure) 0 [[]]=some (.pure (.bool true),H')) {w:World} {vs:Array Value}
  (hl:pvs.length=vs.size) (hrel: ∀j,j<vs.size→aC w (S0 w) M5 0 (vs.getD j undef) (.pure (pvs.getD j .dead))):
  Calls K.P f vs w fun e w'=>e= .returned (.bool true)∧Below w.heap.size w w':=by
 obtain⟨_,h2⟩:=ze K hK (AZ K hK) h (ZK w) (vs:=vs) (by simp [hl]) (fun j hj=>by
  have hj':j<pvs.length:=(by simpa using hj);have e:(pvs.map GV.pure).getD j aP= .pure (pvs.getD j .dead):=(by simp [List.getD_eq_getElem?_getD,hj']);rw [e];exact hrel j (by omega))
 refine(callsIn_wide (n:=0).1 h2).mono fun e w' hd=> ?_;obtain⟨u,S',μ',rfl,hv,_,hev,_⟩:=hd
 cases hv with
 |pure _ _ hp=>
  cases hp;exact⟨rfl,AY hev⟩
theorem CO {H:Type} {enc:TypeId×Value→H} {C:Checked} {os:Os} {f:FuncId} {fn:Func} {s:ChangeSpec} {conds:List PathCond} {K:Ctx} (hK:iJ K) (hP:K.P=C.prog) (n:Nat)
  (own:ownKnob C.prog.godebug=none) (started:os.Started) (noInit:C.prog.inits.idxOf? f=none) (hlaid:laidOutB C.prog=true) (hfn:C.prog.funcs[f]? =some fn)
  (hv:s.vars=[]) (hs: ∀ds:List (DataW H),ds.length=fn.params.toList.length→s.fn H ds={results:=[.lit (.bool true)],args:=ds})
  {tb:TypeId} (hr:fn.resultTypes= #[tb]) (htb:C.prog.underlying tb=some .bool)
  (hpl:(fn.params.toList.all fun t=>jW C.prog n t && C.prog.readableRec t && decide (t<C.prog.types.size))=true)
  (witness: ∃(w:World) (tape:Tape) (i:Input),w.os=os∧(w.forCall tape i).Shaped C.prog∧i.vars=[]∧Input.okWide C.prog (w.forCall tape i) .any w.heap.size f i∧
   s.pre6 enc C.prog fn conds false (w.forCall tape i).memory i.args∧({}:Assume).holds C.prog (lone (Frame.enter C.prog f i.args .normal) [] (w.forCall tape i)))
  (hlaw: ∀pvs:List PV,xT C.prog n fn.params.toList pvs→ ∃H',aL K (aE K) f (pvs.map .pure) 0 [[]]=some (.pure (.bool true),H')):
  ReturnsInHanded {} C os f .any (s.pre6 enc C.prog fn conds false) (s.post enc C.prog fn false true false false):=by
 refine returnsInHanded_of_change own started noInit hfn witness ?_;intro W base args ds gs before hval hW hcnd _;have hW':=hW;obtain⟨p,q,hA,hV,rfl,hfz,hnd⟩:=hW;simp only [List.all_eq_true,Bool.and_eq_true,decide_eq_true_eq]at hpl;rw [hv]at hV;obtain⟨rfl,rfl⟩:=trodVars_none hV;obtain⟨hdl,pvs,a1,a2,a3⟩:=AX fn.params.toList args.toList ds p (fun t ht=>(hpl t ht).1.1) (fun j t v h1 h2=>hval j t v (by simpa using h1) (by simpa using h2)) hA;obtain⟨H',hg⟩:=hlaw pvs a1;have hc:=Fo hK hg (w:=W) (vs:=args) (by simpa using a2) (fun j hj=>by
  have:=a3 j (by simpa using hj);simpa [List.getD_eq_getElem?_getD]using this)
 rw [hP]at hc;refine hc.mono fun e W' ⟨he,bel⟩=> ?_;subst he;have hfn':s.fn H (ds++[])={results:=[.lit (.bool true)],args:=ds}:=(by rw [List.append_nil];exact hs ds hdl);refine⟨_,rfl,ds,[],p++[],[],p,[],hW', ?_, ?_, ?_,bel.frame _,fun h=>by cases h⟩
 ·rw [hfn',hr];exact trodAll_mk1 (shut_bool htb _)
 ·rw [hfn'];exact pU hlaid bel _ _ _ _ (fun t ht=>⟨(hpl t ht).1.2,(hpl t ht).2⟩) hA
 ·rw [hfn',hv];rfl
end
theorem Qh (cl:List Nat)(t:Nat)(ks:List SK)(h:(Kh cl).eqs t=some ks):TU Tryz.prog t ks:=by
 have h':vh t=some ks:=h;unfold vh at h';split at h';all_goals first|(cases h';exact M8 (P:=Tryz.prog) 5 (by omega) (by kernel_rfl) (by kernel_rfl) (by kernel_rfl))|cases h'
theorem sR:iJ (Kh []) where
 wT:=fun f h=>by
  have:([]:List Nat).contains f=true:=h;simp at this
 eqs:=Qh []
 mixed:=by kernel_rfl
theorem ZL:iJ KC where
 wT:=fun f h=>by
  have h1:Kg.contains f=true:=h;simp only [Kg,List.contains_cons,List.contains_nil,Bool.or_false,Bool.or_eq_true,beq_iff_eq]at h1;rcases h1 with rfl|rfl|rfl|rfl|rfl|rfl
  ·exact kM (Kh []) sR (n:=20) (g:=Tryz.f99) Tryz.func99 rfl rfl rfl (by kernel_rfl)
  ·exact kM (Kh []) sR (n:=20) (g:=Tryz.f100) Tryz.func100 rfl rfl rfl (by kernel_rfl)
  ·exact kM (Kh []) sR (n:=20) (g:=Tryz.f101) Tryz.func101 rfl rfl rfl (by kernel_rfl)
  ·exact kM (Kh []) sR (n:=20) (g:=Tryz.f102) Tryz.func102 rfl rfl rfl (by kernel_rfl)
  ·exact kM (Kh []) sR (n:=20) (g:=Tryz.f103) Tryz.func103 rfl rfl rfl (by kernel_rfl)
  ·exact kM (Kh []) sR (n:=20) (g:=Tryz.f75) Tryz.func75 rfl rfl rfl (by kernel_rfl)
 eqs:=Qh Kg
 mixed:=by kernel_rfl
end Go.Gh
