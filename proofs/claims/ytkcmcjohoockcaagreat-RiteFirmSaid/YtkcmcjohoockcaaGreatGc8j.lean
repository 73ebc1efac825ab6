/- Texts joined: the evaluator over ghost values, its soundness, the walks. Spaces struck and names made short by a program, for the size. -/
import Derived.Test.YtkcmcjohoockcaaGreatGc8i
import Derived.Test.YtkcmcjohoockcaaGreatGc8h
namespace Go.Gh
open Go.Proofs
set_option linter.unusedVariables false
set_option linter.unusedSimpArgs false
set_option linter.unnecessarySimpa false
set_option maxRecDepth 100000
set_option maxHeartbeats 8000000
theorem yT {a:ak}{ai:List ak}:(a::ai).takeWhile (a8 a)=a::ai.takeWhile (a8 a):=by
 rw [List.takeWhile_cons];simp [a8]
theorem dP {r:aA}{k:Nat}{s:aw}{a:ak}{rest:List ak}{i:Nat}:bG r (k+1) s (a::rest) i=
  (if (cK r s ((a::rest).takeWhile (a8 a)) [] s 0).2.2≠0 then ([],s,(i:Int)+(cK r s ((a::rest).takeWhile (a8 a)) [] s 0).2.1,(cK r s ((a::rest).takeWhile (a8 a)) [] s 0).2.2)
  else ((cK r s ((a::rest).takeWhile (a8 a)) [] s 0).1::(bG r k (cK r s ((a::rest).takeWhile (a8 a)) [] s 0).1 ((a::rest).drop ((a::rest).takeWhile (a8 a)).length) (i+((a::rest).takeWhile (a8 a)).length)).1,
   (bG r k (cK r s ((a::rest).takeWhile (a8 a)) [] s 0).1 ((a::rest).drop ((a::rest).takeWhile (a8 a)).length) (i+((a::rest).takeWhile (a8 a)).length)).2)):=by
 rw [bG]
theorem mB {r:aA}{k:Nat}{s:aw}{i:Nat}:bG r k s [] i=([],s,-1,0):=by
 cases k<;>rfl
theorem rB {a:ak}{rest:List ak}{k:Nat}(h:(a::rest).length≤k+1):((a::rest).drop ((a::rest).takeWhile (a8 a)).length).length≤k:=by
 rw [yT,List.length_drop];simp only [List.length_cons]at h⊢;omega
theorem xW {r:aA}: ∀(k1 k2:Nat) (s:aw) (ai:List ak) (i:Nat),ai.length≤k1→ai.length≤k2→bG r k1 s ai i=bG r k2 s ai i
 |k1,k2,s,[],i,_,_=>by rw [mB,mB]
 |0,_,s,a::rest,i,h,_=>by simp at h
 |_+1,0,s,a::rest,i,_,h=>by simp at h
 |k1+1,k2+1,s,a::rest,i,h1,h2=>by
  rw [dP,dP,xW k1 k2 _ _ _ (rB h1) (rB h2)]
theorem pX {f:ak→Bool}{q:List ak}(hq: ∀b∈q,f b=false): ∀p:List ak,(p++q).takeWhile f=p.takeWhile f
 | []=>by
  cases q with
  |nil=>rfl
  |cons b q=>simp [List.takeWhile_cons,hq b (by simp)]
 |a::p=>by
  rw [List.cons_append,List.takeWhile_cons,List.takeWhile_cons,pX hq p]
theorem je {r:aA}: ∀(k1 k k2:Nat) (s:aw) (p q:List ak) (i:Nat),p.length≤k1→(p++q).length≤k→q.length≤k2→(∀a∈p,∀b∈q,a.ba≠b.ba)→
  bG r k s (p++q) i=if (bG r k1 s p i).2.2.2≠0 then bG r k1 s p i else ((bG r k1 s p i).1++(bG r k2 (bG r k1 s p i).2.1 q (i+p.length)).1,(bG r k2 (bG r k1 s p i).2.1 q (i+p.length)).2)
 |k1,k,k2,s,[],q,i,_,h2,h3,_=>by
  rw [mB];simp only [ne_eq,not_true_eq_false,if_false,List.nil_append,List.length_nil,Nat.add_zero]at h2⊢;rw [xW k k2 s q i (by simpa using h2) h3]
 |0,k,k2,s,a::p,q,i,h1,_,_,_=>by simp at h1
 |k1+1,0,k2,s,a::p,q,i,_,h2,_,_=>by simp at h2
 |k1+1,k+1,k2,s,a::p,q,i,h1,h2,h3,hne=>by
  have hq: ∀b∈q,a8 a b=false:=fun b hb=>by
   have:=hne a (by simp) b hb;simpa [a8]using fun e=>this e.symm
  have et:(a::(p++q)).takeWhile (a8 a)=(a::p).takeWhile (a8 a):=pX hq (a::p);have hle:((a::p).takeWhile (a8 a)).length≤(a::p).length:=(List.takeWhile_sublist _).length_le;have ed:(a::(p++q)).drop ((a::p).takeWhile (a8 a)).length=(a::p).drop ((a::p).takeWhile (a8 a)).length++q:=by
   rw [←List.cons_append,List.drop_append_of_le_length hle]
  rw [List.cons_append,dP,et,ed,dP];generalize hm:cK r s ((a::p).takeWhile (a8 a)) [] s 0=m;by_cases he:m.2.2≠0
  ·simp only [if_pos he]
  ·rw [if_neg he,if_neg he];have hl:((a::p).drop ((a::p).takeWhile (a8 a)).length++q).length≤k:=by
    rw [←ed,←et];exact rB (by simpa using h2)
   rw [je k1 k k2 m.1 _ q (i+((a::p).takeWhile (a8 a)).length) (rB h1) hl h3 (fun x hx=>hne x (List.mem_of_mem_drop hx))];have ei:i+((a::p).takeWhile (a8 a)).length+((a::p).drop ((a::p).takeWhile (a8 a)).length).length=i+(a::p).length:=by
    rw [List.length_drop];omega
   rw [ei];generalize bG r k1 m.1 ((a::p).drop ((a::p).takeWhile (a8 a)).length) (i+((a::p).takeWhile (a8 a)).length)=x;by_cases hx:x.2.2.2≠0
   ·simp only [if_pos hx]
   ·simp only [if_neg hx,List.cons_append]
theorem Bp {r:aA}: ∀(k:Nat) (s:aw) (ai:List ak) (i j:Nat),(bG r k s ai i).1=(bG r k s ai j).1∧(bG r k s ai i).2.1=(bG r k s ai j).2.1∧(bG r k s ai i).2.2.2=(bG r k s ai j).2.2.2
 |0,s,_,_,_=>⟨rfl,rfl,rfl⟩
 |_+1,s,[],_,_=>⟨rfl,rfl,rfl⟩
 |k+1,s,a::rest,i,j=>by
  rw [dP,dP];split
  ·exact⟨rfl,rfl,rfl⟩
  ·obtain⟨e1,e2,e3⟩:=Bp (r:=r) k (cK r s ((a::rest).takeWhile (a8 a)) [] s 0).1 ((a::rest).drop ((a::rest).takeWhile (a8 a)).length) (i+((a::rest).takeWhile (a8 a)).length) (j+((a::rest).takeWhile (a8 a)).length);exact⟨by rw [e1],e2,e3⟩
def rT (l:List ak)(a:ak):List ak:=l.takeWhile fun b=>decide (b.ba<a.ba)
def j4 (l:List ak):Nat→Nat
 |0=>0
 |n+1=>j4 l n+if (l.getD (n+1) cg).ba≠(l.getD n cg).ba then 1 else 0
theorem sI {l:List ak}{x:Int}: ∀(n:Nat),(∀j,j≤n→(l.getD j cg).ba=x)→j4 l n=0
 |0,_=>rfl
 |n+1,h=>by
  unfold j4;rw [sI n (fun j hj=>h j (by omega)),h (n+1) (Nat.le_refl _),h n (by omega)];simp
theorem xB {g l:List ak}(hg:g≠[])(hl:l≠[])(hs: ∀j,j<g.length→(g.getD j cg).ba=(g.getD 0 cg).ba)(hd:(l.getD 0 cg).ba≠(g.getD 0 cg).ba): ∀n,j4 (g++l) (g.length+n)=1+j4 l n
 |0=>by
  obtain⟨m,hm⟩: ∃m,g.length=m+1:=⟨g.length-1,by have:=List.length_pos_iff.2 hg;omega⟩;have e1: ∀j,j<g.length→(g++l).getD j cg=g.getD j cg:=fun j hj=>by
   simp [List.getD_eq_getElem?_getD,List.getElem?_append_left hj]
  have e2:(g++l).getD (m+1) cg=l.getD 0 cg:=by
   simp [List.getD_eq_getElem?_getD,List.getElem?_append_right (show g.length≤m+1 by omega),hm]
  rw [Nat.add_zero,hm];unfold j4;rw [sI m (x:=(g.getD 0 cg).ba) (fun j hj=>by rw [e1 j (by omega)];exact hs j (by omega)),e2,e1 m (by omega),hs m (by omega),if_pos hd]
 |n+1=>by
  have e1: ∀j,(g++l).getD (g.length+j) cg=l.getD j cg:=fun j=>by
   simp [List.getD_eq_getElem?_getD,List.getElem?_append_right (show g.length≤g.length+j by omega)]
  rw [←Nat.add_assoc];unfold j4;rw [xB hg hl hs hd n,Nat.add_assoc g.length n 1,e1,e1];omega
theorem Dj {r:aA}{k:Nat}{s:aw}{a:ak}{p:List ak}{i:Nat}(hs: ∀b∈p,b.ba=a.ba)(hk:(a::p).length≤k)(he:(cK r s (a::p) [] s 0).2.2=0):bG r k s (a::p) i=([(cK r s (a::p) [] s 0).1],(cK r s (a::p) [] s 0).1,-1,0):=by
 obtain⟨m,rfl⟩: ∃m,k=m+1:=⟨k-1,by simp at hk;omega⟩;have et:(a::p).takeWhile (a8 a)=a::p:=by
  rw [yT];congr 1;have: ∀b∈p,a8 a b=true:=fun b hb=>(by simp [a8,hs b hb]);simpa using List.takeWhile_append_of_pos (l₂:=[]) this
 rw [dP,et,if_neg (by simpa using he)];simp only [List.drop_length,mB]
theorem ql (f:ak→Bool): ∀l:List ak,l.takeWhile f=l.take (l.takeWhile f).length
 | []=>rfl
 |a::l=>by
  rw [List.takeWhile_cons];split
  ·rw [List.length_cons,List.take_succ_cons,←ql f l]
  ·rfl
theorem vU (f:ak→Bool): ∀(l:List ak) (j:Nat) (hj:j<l.length),j<(l.takeWhile f).length→f l[j]=true
 | [],j,hj,_=>by simp at hj
 |a::l,j,hj,h=>by
  rw [List.takeWhile_cons]at h;split at h
  ·rename_i ha
   cases j with
   |zero=>exact ha
   |succ j=>exact vU f l j (by simpa using hj) (by simpa using h)
  ·simp at h
theorem pA (f:ak→Bool): ∀(l:List ak) (hj:(l.takeWhile f).length<l.length),f (l[(l.takeWhile f).length]'hj)=false
 | [],hj=>by simp at hj
 |a::l,hj=>by
  by_cases ha:f a=true
  ·have e:((a::l).takeWhile f).length=(l.takeWhile f).length+1:=(by rw [List.takeWhile_cons,if_pos ha];rfl);have:=pA f l (by rw [e]at hj;simpa using hj);simp only [e,List.getElem_cons_succ];exact this
  ·have e:((a::l).takeWhile f).length=0:=(by rw [List.takeWhile_cons,if_neg ha];rfl);simp only [e,List.getElem_cons_zero];simpa using ha
theorem Qn {l:List ak}(hp:l.Pairwise fun a b=>a.ba≤b.ba){i j:Nat}(hi:i<l.length)(hj:j<l.length)(h:i≤j):l[i].ba≤l[j].ba:=by
 rcases Nat.lt_or_eq_of_le h with h|h
 ·exact List.pairwise_iff_getElem.1 hp i j hi hj h
 ·subst h;exact Int.le_refl _
theorem vV {l:List ak}{act:Nat}(h:act<l.length)(hp:l.Pairwise fun a b=>a.ba≤b.ba):
  (rT l l[act]).length≤act∧(∀j (hj:j<l.length),j<(rT l l[act]).length→l[j].ba<l[act].ba)∧ ∀j (hj:j<l.length),(rT l l[act]).length≤j→j≤act→l[j].ba=l[act].ba:=by
 have h1: ∀j (hj:j<l.length),j<(rT l l[act]).length→l[j].ba<l[act].ba:=fun j hj hm=>by
  have:=vU (fun b:ak=>decide (b.ba<l[act].ba)) l j hj hm;simpa using this
 have h2:(rT l l[act]).length≤act:=by
  rcases Nat.lt_or_ge act (rT l l[act]).length with hm|hm
  ·have:=h1 act h hm;omega
  ·exact hm
 refine⟨h2,h1,fun j hj hm hja=> ?_⟩;have hml:(rT l l[act]).length<l.length:=(by omega);have h3:=pA (fun b:ak=>decide (b.ba<l[act].ba)) l hml;have h3': ¬(l[(rT l l[act]).length]'hml).ba<l[act].ba:=of_decide_eq_false h3;have h4:=Qn hp hml hj hm;have h5:=Qn hp hj h hja;omega
noncomputable def Dk (r:aA)(a:ak):aw:=(bG r (rT r.ai a).length (aJ r) (rT r.ai a) 0).2.1
def late (aO:Int)(a:ak):ak:=if a.aO=aO then {a with ba:=a.ba+1}else a
noncomputable def gS (r:aA)(act:Nat)(kind:Int):List ak:=
 if kind=2 then (if b7 r (Dk r (r.ai.getD act cg)) (r.ai.getD act cg).aO.toNat {(r.ai.getD act cg)with hand:=1-(r.ai.getD act cg).hand}=true
  then r.ai.set act {(r.ai.getD act cg)with hand:=1-(r.ai.getD act cg).hand}else r.ai.eraseIdx act)
 else if kind=3 then eC (r.ai.take act++(r.ai.drop act).map (late (r.ai.getD act cg).aO))
 else r.ai.eraseIdx act
def fF (r:aA)(act:Nat)(kind:Int):Int:=(r.ai.getD act cg).ba+if kind=3 then 1 else 0
def cL (m:Int)(l:List ak):List ak:=l.takeWhile fun a=>decide (a.ba≤m)
def behind (m:Int)(l:List ak):List ak:=l.dropWhile fun a=>decide (a.ba≤m)
theorem jd (m:Int)(l:List ak):cL m l++behind m l=l:=List.takeWhile_append_dropWhile
def bS (m:Int):List ak→List ak
 | []=> []
 |a::l=>{a with ba:=m+1}::bS (m+1) l
def gM (m:Int)(ai mend:List ak):List ak:=cL m ai++bS m mend++(behind m ai).map fun a=>{a with ba:=a.ba+mend.length}
noncomputable def uj:aA→aw→Nat→ak→Bool:=nO fun r s w a=>b7 r s w a && !gf r.seen [s.ah.getD w 0,if a.kind=1 then a.cell else s.ah.getD w 0]
theorem uV (r:aA)(s:aw)(w:Nat)(a:ak):uj r s w a=(b7 r s w a && !gf r.seen [s.ah.getD w 0,if a.kind=1 then a.cell else s.ah.getD w 0]):=by rw [uj,cP]
noncomputable def yM (r:aA)(w:Nat)(all:List ak)(fin:aw→List ak→Bool):Nat→aw→List ak→Option (List ak)
 |0,s,l=>if fin s l=true then some l else none
 |n+1,s,l=>all.findSome? fun a=>if uj r s w a=true then yM r w all fin n (da s w a) (l++[a])else none
theorem El {r:aA}{w:Nat}{all:List ak}{fin:aw→List ak→Bool}: ∀n s l m,yM r w all fin n s l=some m→m.length=l.length+n∧(∃t,m=l++t∧ ∀a∈t,a∈all)
 |0,s,l,m,h=>by
  unfold yM at h;split at h
  ·cases h;exact⟨rfl,[],by simp,by simp⟩
  ·cases h
 |n+1,s,l,m,h=>by
  unfold yM at h;obtain⟨a,ha,h⟩:=List.exists_of_findSome?_eq_some h;split at h
  ·obtain⟨e,t,e2,ht⟩:=El n _ _ m h;refine⟨by rw [e,List.length_append,List.length_singleton];omega,a::t,by rw [e2];simp,fun b hb=> ?_⟩;rcases List.mem_cons.1 hb with rfl|hb
   ·exact ha
   ·exact ht b hb
  ·cases h
theorem zC {s:aw}{w:Nat}{a:ak}{t:Int}:gn s w (setAt a t)=gn s w a:=rfl
theorem Bq {r:aA}{f:ak→ak}(h: ∀a,∃t,f a=setAt a t){s:aw}: ∀(g:List ak) (tk:List (Int×Int)) (nx:aw) (i:Nat),cK r s (g.map f) tk nx i=cK r s g tk nx i
 | [],_,_,_=>rfl
 |a::g,tk,nx,i=>by
  obtain⟨t,e⟩:=h a;have ew:(setAt a t).aO=a.aO:=rfl;rw [List.map_cons,e];unfold cK;rw [ew,nh,zC,xK,Bq h g]
theorem Br {r:aA}{f:ak→ak}(h: ∀a,∃t,f a=setAt a t)(h2: ∀a b,(f a).ba=(f b).ba↔a.ba=b.ba): ∀(k:Nat) (s:aw) (ai:List ak) (i:Nat),bG r k s (ai.map f) i=bG r k s ai i
 |0,s,ai,i=>by
  cases ai<;>rfl
 |_+1,s,[],i=>rfl
 |k+1,s,a::rest,i=>by
  have e:(a8 (f a) ∘ f)=a8 a:=by
   funext b
   have:=h2 b a;unfold a8;by_cases hb:b.ba=a.ba
   ·simp [hb,this.2 hb]
   ·have h3: ¬(f b).ba=(f a).ba:=fun e=>hb (this.1 e);show ((f b).ba==(f a).ba)=(b.ba==a.ba)
    rw [show ((f b).ba==(f a).ba)=false from by simpa using h3,show (b.ba==a.ba)=false from by simpa using hb]
  have et:((a::rest).map f).takeWhile (a8 (f a))=((a::rest).takeWhile (a8 a)).map f:=by
   rw [List.takeWhile_map,e]
  rw [List.map_cons,dP,dP,←List.map_cons,et,Bq h,List.length_map,←List.map_drop,Br h h2 k]
theorem xX {r:aA}{x:List ak}{s:aw}: ∀(g:List ak) (tk:List (Int×Int)) (nx:aw) (i:Nat),cK {r with ai:=x} s g tk nx i=cK r s g tk nx i
 | [],_,_,_=>rfl
 |a::g,tk,nx,i=>by
  unfold cK;rw [sO,xX g]
theorem pB {r:aA}{x:List ak}: ∀(k:Nat) (s:aw) (ai:List ak) (i:Nat),bG {r with ai:=x} k s ai i=bG r k s ai i
 |0,s,ai,i=>by
  cases ai<;>rfl
 |_+1,s,[],i=>rfl
 |k+1,s,a::rest,i=>by
  rw [dP,dP,xX,pB k]
theorem uZ {r:aA}{s:aw}{a:ak}(hp:b7 r s a.aO.toNat a=true):cK r s [a] [] s 0=(da s a.aO.toNat a,0,0):=by
 unfold cK;rw [if_neg (by simp [hp]),if_pos (by simp)];rfl
theorem Ip {r:aA}{s:aw}{a:ak}{k i:Nat}(hp:b7 r s a.aO.toNat a=true):bG r (k+1) s [a] i=([da s a.aO.toNat a],da s a.aO.toNat a,-1,0):=by
 rw [Dj (by simp) (by simp) (by rw [uZ hp]),uZ hp]
theorem jM {f:ak→Bool}: ∀{l:List ak} {x:ak},x∈l.takeWhile f→f x=true∧x∈l
 | [],_,h=>by simp at h
 |a::l,x,h=>by
  rw [List.takeWhile_cons]at h;split at h
  ·rename_i ha;rcases List.mem_cons.1 h with rfl|h
   ·exact⟨ha,by simp⟩
   ·exact⟨(jM h).1,by simp [(jM h).2]⟩
  ·cases h
theorem rA {m:Int}{l:List ak}{x:ak}(h:x∈cL m l):x.ba≤m:=by simpa using(jM h).1
theorem pz {m:Int}: ∀{l:List ak} (hp:l.Pairwise fun a b=>a.ba≤b.ba) {x:ak},x∈behind m l→m<x.ba
 | [],_,x,h=>by simp [behind]at h
 |a::l,hp,x,h=>by
  unfold behind at h;rw [List.dropWhile_cons]at h;split at h
  ·exact pz (List.pairwise_cons.1 hp).2 h
  ·rename_i ha;have ha': ¬a.ba≤m:=(by simpa using ha);rcases List.mem_cons.1 h with rfl|h
   ·omega
   ·have:=(List.pairwise_cons.1 hp).1 x h;omega
theorem iu: ∀{l:List ak} {m:Int} {x:ak},x∈bS m l→m<x.ba∧x.ba≤m+l.length
 | [],_,_,h=>by simp [bS]at h
 |a::l,m,x,h=>by
  unfold bS at h;rcases List.mem_cons.1 h with rfl|h
  ·simp only [List.length_cons];omega
  ·have:=iu h;simp only [List.length_cons];omega
theorem xA: ∀{l:List ak} {m:Int} {x:ak},x∈bS m l→ ∃a∈l,∃t,x=setAt a t
 | [],_,_,h=>by simp [bS]at h
 |a::l,m,x,h=>by
  unfold bS at h;rcases List.mem_cons.1 h with rfl|h
  ·exact⟨a,by simp,_,rfl⟩
  ·obtain⟨b,hb,t,e⟩:=xA h;exact⟨b,by simp [hb],t,e⟩
theorem lL (a:ak): ∀(l:List ak) (m:Int),bS m (l++[a])=bS m l++[setAt a (m+1+l.length)]
 | [],m=>by simp [bS,setAt]
 |b::l,m=>by
  have:=lL a l (m+1);simp only [List.cons_append,bS,this,List.length_cons];rw [show m+1+1+(l.length:Int)=m+1+((l.length+1:Nat):Int)by omega]
theorem hJ: ∀(l:List ak) (m:Int),(bS m l).length=l.length
 | [],m=>rfl
 |b::l,m=>by simp [bS,hJ l]
structure MS (r:aA)(w:Nat)(U:List ak)(m:Int)(s:aw)(l:List ak):Prop where
 snd:fT r s
 full:Full s
 ab: ∀a∈l,AB r w a
 run:(bG r (U++bS m l).length (aJ r) (U++bS m l) 0).2.2.2=0
 fin:(bG r (U++bS m l).length (aJ r) (U++bS m l) 0).2.1=s
theorem MS.next {r:aA}{w:Nat}{U:List ak}{m:Int}{s:aw}{l:List ak}{a:ak}(h:MS r w U m s l)(hU: ∀x∈U,x.ba≤m)(ha:AB r w a)(hp:b7 r s w a=true):MS r w U m (da s w a) (l++[a]):=by
 have hS:=h.snd.TA ha hp;have ew:(setAt a (m+1+l.length)).aO.toNat=w:=by show a.aO.toNat=w;rw [ha.aO];rfl
 have E:bG r (U++bS m (l++[a])).length (aJ r) (U++bS m (l++[a])) 0=
   ((bG r (U++bS m l).length (aJ r) (U++bS m l) 0).1++[da s w a],da s w a,-1,0):=by
  rw [lL,←List.append_assoc];rw [je (U++bS m l).length _ 1 (aJ r) (U++bS m l) [setAt a (m+1+l.length)] 0 (Nat.le_refl _) (Nat.le_refl _) (by simp) (fun x hx y hy=>by
   have ey:y.ba=m+1+l.length:=(by rw [List.mem_singleton.1 hy];rfl);rcases List.mem_append.1 hx with hx|hx
   ·have:=hU x hx;omega
   ·have:=iu hx;omega),if_neg (by simpa using h.run),h.fin,Ip (by rw [ew,nh];exact hp),ew,xK]
 refine⟨hS,rq h.snd hS h.full,fun x hx=> ?_,by rw [E],by rw [E]⟩;rcases List.mem_append.1 hx with hx|hx
 ·exact h.ab x hx
 ·rw [List.mem_singleton.1 hx];exact ha
noncomputable def ow (r:aA)(B:List ak)(s:aw)(l:List ak):Bool:=decide ((bG r B.length s B 0).2.2.2=0) && pN r (bG r B.length s B 0).2.1
noncomputable def TN (r:aA)(m:Int)(ai:List ak)(s:aw)(l:List ak):Bool:=decide ((dI {r with ai:=gM m ai l}).2.2.2=0)
theorem xD {r:aA}{x:List ak}{s:aw}:pN {r with ai:=x} s=pN r s:=by rw [mA,mA]
theorem TM {r:aA}{w:Nat}{ai:List ak}{m:Int}{s:aw}{l:List ak}(hp:ai.Pairwise fun a b=>a.ba≤b.ba)(h:MS r w (cL m ai) m s l):TN r m ai s l=ow r (behind m ai) s l:=by
 have sh: ∀a:ak,∃t,({a with ba:=a.ba+l.length}:ak)=setAt a t:=fun a=>⟨_,rfl⟩;have E:bG r (gM m ai l).length (aJ r) (gM m ai l) 0=((bG r (cL m ai++bS m l).length (aJ r) (cL m ai++bS m l) 0).1++(bG r (behind m ai).length s (behind m ai) (0+(cL m ai++bS m l).length)).1,(bG r (behind m ai).length s (behind m ai) (0+(cL m ai++bS m l).length)).2):=by
  unfold gM;rw [je (cL m ai++bS m l).length _ (behind m ai).length (aJ r) (cL m ai++bS m l) _ 0 (Nat.le_refl _) (Nat.le_refl _) (by simp) (fun x hx y hy=>by
   obtain⟨b,hb,rfl⟩:=List.mem_map.1 hy;have h1:=pz hp hb;simp only;rcases List.mem_append.1 hx with hx|hx
   ·have:=rA hx;omega
   ·have:=iu hx;omega),if_neg (by simpa using h.run),h.fin,Br sh (fun a b=>by simp only;omega)]
 obtain⟨_,i2,i3⟩:=Bp (r:=r) (behind m ai).length s (behind m ai) (0+(cL m ai++bS m l).length) 0;have e1:(bG r (gM m ai l).length (aJ r) (gM m ai l) 0).2.2.2=(bG r (behind m ai).length s (behind m ai) 0).2.2.2:=(by rw [E];exact i3);have e2:(bG r (gM m ai l).length (aJ r) (gM m ai l) 0).2.1=(bG r (behind m ai).length s (behind m ai) 0).2.1:=(by rw [E];exact i2);unfold ow TN dI;simp only [pB,xD];have ef:aJ {r with ai:=gM m ai l}=aJ r:=rfl;rw [ef,e1,e2];by_cases h0:(bG r (behind m ai).length s (behind m ai) 0).2.2.2=0
 ·cases h1:pN r (bG r (behind m ai).length s (behind m ai) 0).2.1 with
  |true=>simp [h0,e1]
  |false=>simp [h0,e1]
 ·simp [h0,e1]
section
variable {c:Nat} {H:aj}
theorem uG {nm:Nm}: ∀(fs:List Fr) (G:aj),nm.1<G.length→aj.get (fs++G) nm=aj.get G nm
 | [],G,_=>rfl
 |f::fs,G,h=>by
  have ne: ¬nm.1=(fs++G).length:=(by simp;omega);rw [List.cons_append,aj.fb,if_neg ne];exact uG fs G h
theorem zD {nm:Nm}{b:dE}: ∀(fs:List Fr) (G:aj),nm.1<G.length→aj.set (fs++G) nm b=fs++aj.set G nm b
 | [],G,_=>rfl
 |f::fs,G,h=>by
  have ne: ¬nm.1=(fs++G).length:=(by simp;omega);rw [List.cons_append,aj.jL,if_neg ne,List.cons_append];rw [zD fs G h]
theorem sE (r:aA)(G:aj)(hG:0<G.length):Ug r (.pure (.fn 59)) (fun _=>G) G.length where
 len:=fun _=>rfl
 pos:=hG
 can:=rfl
 EO:=fun _=>rfl
 cl:=fun fs l n _=>by simp
 Xx:=fun fs l s' c hf _ _ _=>by
  rw [uT];refine aM (bd KC au Tryz.func59 rfl rfl S9 rfl rfl rfl (by simp) (by simp;omega) ?_);unfold aP;simp;rw [ae (by simp)];simp
def kz (r:aA)(L:Nat)(l:List aw):Fr:=eG 8 3 (l.map aw.row) [(1,aU r),(5, .box [cY (L,8) 3 (l.map aw.row)])]
theorem Iq (r:aA)(H:aj):Ug r (.func 62 [] [.ay (H.length,5) 0]) (fun l=>kz r H.length l::H) (H.length+1) where
 len:=fun _=>by simp
 pos:=by omega
 can:=rfl
 EO:=fun _=>rfl
 cl:=fun fs l n hn=>by
  have:H.length≤n:=(by omega);simp [this]
 Xx:=fun fs l s' c hf hl hS hF=>by
  rw [m0];refine aM (bd KC au Tryz.func62 rfl rfl Ta rfl rfl rfl (by simp) (by simp;omega) ?_);obtain⟨G,hG⟩: ∃G,fs++kz r H.length l::H=G:=⟨_,rfl⟩;have hGl:H.length<G.length:=(by rw [←hG];simp;omega);have g5:aj.get G (H.length,5)=some (.box [cY (H.length,8) 3 (l.map aw.row)]):=by
   rw [←hG,uG _ _ (by simp)];simp [kz]
  have g8:l.map aw.row≠[]→aj.get G (H.length,8)=some (.arr 3 (l.map aw.row) 0 false):=fun h=>by
   rw [←hG,uG _ _ (by simp)];simp only [aj.fb,if_true,kz];exact cV h
  have g80:l.map aw.row=[]→aj.get G (H.length,8)=none:=fun h=>by
   rw [←hG,uG _ _ (by simp)];simp only [aj.fb,if_true,kz,h,fJ];simp
  have hset:aj.set (aj.set G (H.length,8) (.arr 3 ((l++[s']).map aw.row) 0 false)) (H.length,5) (.box [cY (H.length,8) 3 ((l++[s']).map aw.row)])=fs++kz r H.length (l++[s'])::H:=by
   rw [←hG,zD _ _ (by simp),zD _ _ (by simp [aj.length_set])];congr 1;have hne:(l++[s']).map aw.row≠[]:=(by simp);simp only [aj.jL,if_true,kz];congr 1;rw [rU];unfold eG;rw [if_neg hne];simp
  have k1:ao 5 28679=117469190:=(by decide);have k2:ao 5 28683=117485574:=(by decide);have k3:ao 5 28687=117501958:=(by decide);have ne: ¬H.length=G.length:=(by omega);have b1:(l.length+1)*72≤1099511627776:=(by omega);have AP:=fun(F:Fr)=>rb (H':=F::G) (l:=H.length) (key:=8) (es:=3) (bytes:=72) (rows:=l.map aw.row) (r:=s'.row) (fun h=>by simp [ne,g80 h]) (fun h=>by simp [ne,g8 h]) (by simp;omega) (by simpa using b1);have t1:List.take s'.ah.length (s'.ah.map aF)=s'.ah.map aF:=List.take_of_length_le (by simp);have t2:List.take s'.aq.length (s'.aq.map aG.row)=s'.aq.map aG.row:=List.take_of_length_le (by simp);have t3:List.take s'.aa.length (s'.aa.map bC.row)=s'.aa.map bC.row:=List.take_of_length_le (by simp);have g5': ∀b,(aj.set G (H.length,8) b).get (H.length,5)=some (.box [cY (H.length,8) 3 (l.map aw.row)]):=fun b=>(aj.aH b (fun e=>by have:=(Prod.mk.inj e).2;omega)).trans g5;have hGl':(aj.set G (H.length,8) (.arr 3 (l.map aw.row++[s'.row]) 0 false)).length=G.length:=aj.length_set _ _ _;have rs:s'.row=[PV.slice (s'.ah.map aF),PV.slice (s'.aq.map aG.row),PV.slice (s'.aa.map bC.row)]:=rfl;rw [←hset];by_cases ht0:s'.aa=[]
  ·have C:=vW (c:=5) (H:=[(2,bM r s')]::G) r hF ht0 (by simp) (by simp [k1]) (by simp [k2]);simp only [List.length_cons,Nat.add_sub_cancel,k1,k2]at C;simp only [bM,aP,Uh]at C⊢;simp [ne,ht0]at AP C;simp [aw.row,ht0]at AP;simp [hG,ne,g5,ht0,C,t1,t2,AP,g5',aD];rw [ae (by simp)];simp [rs,ht0]
  ·have C:=xY (c:=5) (H:=[(2,bM r s')]::G) r hF ht0 (by simp) (by simp [k1]) (by simp [k2]) (by simp [k3]);simp only [List.length_cons,Nat.add_sub_cancel,k1,k2,k3]at C;simp only [bM,aP,tB,cA]at C⊢;simp [ne]at AP C;simp [aw.row]at AP;simp [hG,ne,g5,C,t1,t2,t3,AP,g5',aD];rw [ae (by simp)];simp [rs]
end
section
variable {c:Nat} {H:aj}
structure Qg (r:aA):Prop where
 w:WB r
 snd:fT r (aJ r)
 p0:r.ah≠[]
 al:r.ai.length≤1000000
 ab: ∀a∈r.ai,AB r a.aO.toNat a
 sh:gL r
structure Dl (r:aA):Prop extends Qg r where
 ck:cv r=0
theorem Nf {r:aA}(h:Dl r)(hH:0<H.length):
  bI KC (aE KC) 15 [.pure (.agg r.row)] c H=
   some (.pure (.tuple (if (dI r).2.2.2=0 then [.agg (dI r).2.1.row, .int .i64 (-1), .int .i64 0]else [.agg [.slice [], .slice [], .slice []], .int .i64 (dI r).2.2.1, .int .i64 (dI r).2.2.2])),H):=by
 refine aM (aK KC au Tryz.func15 rfl rfl Hi (by simp) hH ?_);have C:=fun c (H:aj) (hH:0<H.length)=>rO (c:=c) (H:=H) r h.sh.s h.sh.l h.sh.p h.sh.t h.sh.a hH;rw [h.ck]at C;have A:=fun(F:Fr)=>rV (c:=15) h.w h.snd h.p0 h.al h.ab (sE r (F::H) (by simp));have A2: ∀F:Fr,aL KC (aE KC) 58 [.pure (.agg r.row), .pure (.fn 59)] 15 (F::H)=some (.pure (.tuple [.agg (aP r (dI r).2.1), .int .i64 (dI r).2.2.1, .int .i64 (dI r).2.2.2]),F::H):=fun F=>by
  rw [jK rfl rfl rfl];have:bs (F::H) [.pure (.agg r.row), .pure (.fn 59)]=([.pure (.agg r.row), .pure (.fn 59)],F::H):=rfl;rw [this];exact A F
 generalize dI r=q at A2⊢;obtain⟨l,s,ba,e⟩:=q;simp only [aP]at A2;rw [eE]at C A2⊢;unfold aw.row;by_cases he:e=0
 ·subst he;simp [C,A2,aD];rw [ae (by simp)];simp
 ·have he':(e !=0)=true:=(by simpa using he);simp [C,A2,he,he',aD];rw [ae (by simp)];simp
theorem Dm {r:aA}(h:Dl r)(hH:0<H.length):
  bI KC (aE KC) 17 [.pure (.agg r.row)] c H=
   some (.pure (.tuple (if (dI r).2.2.2=0 then [.slice ((dI r).1.map aw.row), .int .i64 0]else [.slice [], .int .i64 (dI r).2.2.2])),H):=by
 refine aM (aK KC au Tryz.func17 rfl rfl Hj (by simp) hH ?_);have C:=fun c (H:aj) (hH:0<H.length)=>rO (c:=c) (H:=H) r h.sh.s h.sh.l h.sh.p h.sh.t h.sh.a hH;rw [h.ck]at C;have A:=rV (c:=17) h.w h.snd h.p0 h.al h.ab (Iq r H);have A2:aL KC (aE KC) 58 [.pure (.agg r.row), .func 62 [] [.ay (H.length,5) 0]] 17 (kz r H.length []::H)=some (.pure (.tuple [.agg (aP r (dI r).2.1), .int .i64 (dI r).2.2.1, .int .i64 (dI r).2.2.2]),kz r H.length (dI r).1::H):=by
  rw [jK rfl rfl rfl];have:bs (kz r H.length []::H) [.pure (.agg r.row), .func 62 [] [.ay (H.length,5) 0]]=([.pure (.agg r.row), .func 62 [] [.ay (H.length,5) 0]],kz r H.length []::H):=rfl;rw [this];exact A
 have hne:(dI r).1≠[]:=(by unfold dI;simp);generalize dI r=q at A2 hne⊢;obtain⟨l,s,ba,e⟩:=q;simp only at hne;have hl:l.map aw.row≠[]:=(by simpa using hne);obtain⟨F,hF⟩: ∃F,kz r H.length l=F:=⟨_,rfl⟩;have f6:F.get 6=none:=(by rw [←hF];unfold kz;rw [bQ (by decide)];simp);have f5:F.get 5=some (.box [.bc (H.length,8) 3 l.length 0 l.length]):=(by rw [←hF];unfold kz;rw [bQ (by decide),cY,if_neg hl];simp);have f8:F.get 8=some (.arr 3 (l.map aw.row) 0 false):=(by rw [←hF];unfold kz;rw [cV hl]);simp only [aP]at A2;rw [hF]at A2;simp only [kz,List.map_nil,fI,fJ,aU]at A2;rw [eE]at C A2⊢;have F5: ∀x:dE,(F.ins 6 x).get 5=some (.box [.bc (H.length,8) 3 l.length 0 l.length]):=fun x=>(Fr.az _ (by decide) _).trans f5;have F8: ∀x:dE,(F.ins 6 x).get 8=some (.arr 3 (l.map aw.row) 0 false):=fun x=>(Fr.az _ (by decide) _).trans f8;have hnl: ¬H.length≤H.length-1:=(by omega);have tk:List.take l.length (l.map aw.row)=l.map aw.row:=List.take_of_length_le (by simp);by_cases he:e=0
 ·subst he;simp [C,A2,f6,F5,aD,Fr.bJ,Fr.iq];rw [ae (by simp)];simp [hnl,F8,tk]
 ·have he':(e !=0)=true:=(by simpa using he);simp [C,A2,f6,F5,he,he',aD,Fr.bJ,Fr.iq];rw [ae (by simp)];simp
end
section
variable {c:Nat} {H:aj}
def Bs:List PV:=[.int .i64 0, .int .i64 0, .int .i64 0, .int .i64 0, .int .i64 0, .int .i64 0, .int .i64 0, .int .i64 0, .int .i64 0]
theorem FO {nm:Nm}{rows:List (List PV)}{v k N:Nat}(hN:rows.length=N)(hg:H.get nm=some (.arr 9 rows v false))(hv:v≤N)(hk:k<N)(hw: ∀r∈rows,r.length=9)(hn:N≤1000000)(hH:0<H.length):
  aL KC (aE KC) 109 [.bc nm 9 N 0 N, .pure (.int .i64 k), .pure (.int .i64 (k+1))] c H=
   some (.bc nm 9 N 0 (N-1),H.set nm (.arr 9 (rows.take k++rows.drop (k+1)++[Bs]) N false)):=by
 have l1:=aj.bR hg;have d1: ¬nm.1=H.length:=(by omega);have d2:nm.1≤H.length-1:=(by omega);have k1: ¬(k:Int)<0:=(by omega);have k2:(k:Int)<(k:Int)+1:=(by omega);have k3:(k:Int)+1≤N:=(by omega);have k4: ¬(k:Int)+1=0:=(by omega);have k5:((k:Int)==(k:Int)+1)=false:=by
  have: ¬(k:Int)=(k:Int)+1:=(by omega);simpa using this
 have k6: ¬(k:Int)+1<0:=(by omega);have k7:Int.toNat ((k:Int)+1)=k+1:=(by omega);have k8:k≤N:=(by omega);have k9:k+1≤N:=(by omega);have hb:N*72≤1099511627776:=(by omega);refine aM (bh KC au Tryz.func109 rfl rfl LB rfl rfl rfl (by simp) hH ?_);have hdl:(rows.drop (k+1)).length=N-(k+1):=(by rw [List.length_drop,hN]);have hdw: ∀x∈rows.drop (k+1),x.length=9:=fun x hx=>hw x (List.mem_of_mem_drop hx);have hrl:List.replicate 1 Bs=[Bs]:=rfl;by_cases hl:N=k+1
 ·subst hl;have z0: ¬k+1≤k:=(by omega);have z1: ¬k+1=k:=(by omega);have z2:Int.toNat ((k:Int)+1)=k+1:=(by omega);have hd:rows.drop (k+1)=[]:=List.drop_of_length_le (by omega);have hd2:rows.drop k≠[]:=by
   intro e;have:=congrArg List.length e;rw [List.length_drop,hN]at this;simp at this
  simp [d1,d2,hg,hv,k1,k2,k3,k4,k5,k6,k7,k8,k9,hN,z0,z1,z2,hd,aD];rw [ae (by simp)];simp [d2,Bs]
 ·obtain⟨M,rfl⟩: ∃M,N=k+1+M:=⟨N-(k+1),by omega⟩;have hM:rows.drop (k+1)≠[]:=fun e=>by
   have:=congrArg List.length e;rw [List.length_drop,hN]at this;simp at this;omega
  have M0: ¬M=0:=(by omega);have eM:k+1+M-(k+1)=M:=(by omega);have tkd:List.take M (rows.drop (k+1))=rows.drop (k+1):=List.take_of_length_le (by omega);have nk: ¬k=k+1+M:=(by omega);have nk2: ¬k+M=k+1+M:=(by omega);have le1:k+M≤k+1+M:=(by omega);have le2: ¬k+1+M≤k+M:=(by omega);have le3: ¬k+1+M≤k+1:=(by omega);have e1:k+1+M-(k+M)=1:=(by omega);have z0: ¬(k:Int)+(M:Int)<0:=(by omega);have z1:Int.toNat ((k:Int)+(M:Int))=k+M:=(by omega);have z2:Int.toNat ((k:Int)+1+(M:Int))=k+1+M:=(by omega);have z3: ¬(k:Int)+1+(M:Int)<0:=(by omega);have z4:k+M+1=k+1+M:=(by omega);have z5:k+1+M-1=k+M:=(by omega);have tk2:List.take (k+M) (rows.take k++(rows.drop (k+1)++rows.drop (k+M)))=rows.take k++rows.drop (k+1):=by
   rw [←List.append_assoc];exact List.take_left' (by rw [List.length_append,List.length_take,List.length_drop,hN];omega)
  have dr2:List.drop (k+1+M) (rows.take k++(rows.drop (k+1)++rows.drop (k+M)))=[]:=List.drop_of_length_le (by
   simp only [List.length_append,List.length_take,List.length_drop,hN];omega)
  have ml:min k (k+1+M)+(M+(k+1+M-(k+M)))=k+1+M:=(by omega);have nle: ¬k+1+M≤k:=(by omega);have z6:(k:Int)+1≤(k:Int)+1+(M:Int):=(by omega);have nl2: ¬k+1=k+1+M:=(by omega);have gs: ∀x,(H.set nm x).get nm=some x:=fun x=>aj.dW x l1;have z7:k+1+M=k+(M+1):=(by omega);have hdP:(∀x,x∈rows.drop (k+1)→x.length=9)=True:=eq_true hdw;simp [d1,d2,hg,hv,k1,k2,k3,k4,k5,k6,k7,k8,k9,hN,hl,hdl,eM,hdP,gs,aj.set_set,tkd,nk,nk2,le1,le2,le3,e1,z0,z1,z2,z3,z4,z5,z6,M0,hM,aD,tk2,dr2,nle,nl2,ml];rw [if_pos z7,gB,ae (by simp)];simp [d2,Bs]
end
section
variable {c:Nat} {H:aj}
def Dn (a b:Int):Int:=if a<b then-1 else if b<a then 1 else 0
theorem Ui {x:Int}(hH:0<H.length):aL KC (aE KC) 129 [.pure (.int .i64 x)] c H=some (.pure (.bool false),H):=by
 refine aM (bd KC au Tryz.func129 rfl rfl LW rfl rfl rfl (by simp) hH ?_);simp [ae]
theorem Dp {x y:Int}(hH:0<H.length):aL KC (aE KC) 108 [.pure (.int .i64 x), .pure (.int .i64 y)] c H=some (.pure (.int .i64 (Dn x y)),H):=by
 refine aM (bd KC au Tryz.func108 rfl rfl LA rfl rfl rfl (by simp) hH ?_);have N:=fun c x (H:aj) (hH:0<H.length)=>Ui (c:=c) (x:=x) (H:=H) hH;unfold Dn;by_cases h1:x<y
 ·simp [N,h1,ae]
 ·by_cases h2:y<x
  ·simp [N,h1,h2,ae]
  ·simp [N,h1,h2,ae]
theorem Ng {x y:ak}(hH:0<H.length):aL KC (aE KC) 107 [.pure (.agg x.row), .pure (.agg y.row)] c H=some (.pure (.int .i64 (Dn x.ba y.ba)),H):=by
 refine aM (bd KC au Tryz.func107 rfl rfl Lz rfl rfl rfl (by simp) hH ?_);have N:=fun c (H:aj) (hH:0<H.length)=>Dp (c:=c) (x:=x.ba) (y:=y.ba) (H:=H) hH;simp [N,ak.row,ae]
def kE (P:List (List PV))(A:List ak)(x:ak)(B:List ak)(Q:List (List PV)):List (List PV):=P++A.map ak.row++x.row::(B.map ak.row++Q)
theorem rY {P:List (List PV)}{A:List ak}{x:ak}{B:List ak}{Q:List (List PV)}:(kE P A x B Q).length=P.length+A.length+1+B.length+Q.length:=by
 unfold kE;simp;omega
theorem Ir {P:List (List PV)}{A:List ak}{x:ak}{B:List ak}{Q:List (List PV)}:(kE P A x B Q)[P.length+A.length]? =some x.row:=by
 unfold kE;rw [List.getElem?_append_right (by simp)];simp
theorem FQ {P:List (List PV)}{A:List ak}{y x:ak}{B:List ak}{Q:List (List PV)}:(kE P (A++[y]) x B Q)[P.length+A.length]? =some y.row:=by
 unfold kE;rw [List.getElem?_append_left (by simp),List.getElem?_append_right (by simp)];simp
theorem FR {P:List (List PV)}{A:List ak}{y x:ak}{B:List ak}{Q:List (List PV)}:((kE P (A++[y]) x B Q).set (P.length+A.length+1) y.row).set (P.length+A.length) x.row=kE P A x (y::B) Q:=by
 unfold kE;have e1:P++(A++[y]).map ak.row++x.row::(B.map ak.row++Q)=(P++A.map ak.row)++y.row::x.row::(B.map ak.row++Q):=(by simp);have l1:(P++A.map ak.row).length=P.length+A.length:=(by simp);rw [e1,←l1];rw [List.set_append_right _ _ (by omega),List.set_append_right _ _ (by omega)];simp
theorem FU {nm:Nm}{P Q:List (List PV)}{N a':Nat}(x:ak)(i:Nat)(hn:N≤1000000)(hnm:nm.1<H.length)(b:Int)(Q':GX→bO→Prop): ∀(k:Nat) (A B:List ak) (v:Nat),A.length=k→P.length=a'→(kE P A x B Q).length=N→v≤N→(∀y∈B,x.ba<y.ba)→
  (∀v',v'≤N→Q' (.exit 2) ⟨[(0, .bc nm 9 N 0 N),(1, .pure (.int .i64 a')),(2, .pure (.int .i64 b)),(3, .pure (.fn 107)),(8, .pure (.int .i64 i))],[]::[]::H.set nm (.arr 9 (P++(rZ (A++B) x).map ak.row++Q) v' false),53⟩)→
  iB KC au 151 (lp Tryz.f151 1) [0,1,2,3,8,9] [0,1,2,3,8] Q' [(0, .bc nm 9 N 0 N),(1, .pure (.int .i64 a')),(2, .pure (.int .i64 b)),(3, .pure (.fn 107)),(8, .pure (.int .i64 i)),(9, .pure (.int .i64 ((P.length+A.length:Nat):Int)))] ([]::[]::H.set nm (.arr 9 (kE P A x B Q) v false)) 53:=by
 intro k;have l0: ∀x,(H.set nm x).length=H.length:=fun x=>aj.length_set _ _ _;have d1: ¬nm.1=H.length:=(by omega);have d2: ¬nm.1=H.length+1:=(by omega);have d3: ¬nm.1=H.length+1+1:=(by omega);have gs: ∀x,(H.set nm x).get nm=some x:=fun x=>aj.dW x hnm;have C:=fun c (x y:ak) (H:aj) (hH:0<H.length)=>Ng (c:=c) (x:=x) (y:=y) (H:=H) hH
 induction k with
 |zero=>
  intro A B v hA hP hl hv hB h1;obtain rfl:A=[]:=List.length_eq_zero_iff.1 hA;have e:rZ ([]++B) x=[]++x::B:=vX hB (fun a h=>by simp at h);have h1':=h1 v hv;rw [e]at h1';apply ax;conv=>arg 4;whnf
  have d4:nm.1≤H.length+1:=(by omega);simp [hP,d4];simpa [kE]using h1'
 |succ k ih=>
  intro A B v hA hP hl hv hB h1;obtain⟨A',y,rfl⟩: ∃A' y,A=A'++[y]:=by
   have hne:A≠[]:=fun e=>(by rw [e]at hA;simp at hA);exact⟨A.dropLast,A.getLast hne,(List.dropLast_concat_getLast hne).symm⟩
  have hA':A'.length=k:=(by simpa using hA);have d4:nm.1≤H.length+1:=(by omega);obtain⟨j,hj⟩: ∃j,P.length+A'.length=j:=⟨_,rfl⟩;have hj1:P.length+(A'++[y]).length=j+1:=(by simp;omega);have hjN:j+1<N:=(by rw [←hl,rY];simp;omega);have g1:(kE P (A'++[y]) x B Q)[j+1]? =some x.row:=(by rw [←hj1];exact Ir);have g0:(kE P (A'++[y]) x B Q)[j]? =some y.row:=(by rw [←hj];exact FQ);have gsw:((kE P (A'++[y]) x B Q).set (j+1) y.row).set j x.row=kE P A' x (y::B) Q:=(by rw [←hj];exact FR);have hl2:(kE P A' x (y::B) Q).length=N:=(by rw [←hl,rY,rY];simp;omega);have gt1:(a':Int)<(j:Int)+1:=(by omega);have w1:=dp (x:=(j:Int)) (by omega) (by omega);have w2:IntKind.i64.wrap ((j:Int)+1-1)=j:=by rw [show (j:Int)+1-1=j by omega];exact w1
  have jn0: ¬(j:Int)+1<0:=(by omega);have jt:Int.toNat ((j:Int)+1)=j+1:=(by omega);have jl:(j:Int)+1<N:=(by omega);have jl0:(j:Int)<N:=(by omega);have jN0:j<N:=(by omega);have l9: ∀z:ak,z.row.length=9:=fun _=>rfl;have t9: ∀z:ak,List.take 9 z.row=z.row:=fun _=>rfl;have dr9: ∀z:ak,List.drop 9 z.row=[]:=fun _=>rfl;have lp9: ∀z:ak,∀H:aj,bN H (z.row.map .pure)=(z.row,H):=fun z H=>rfl;rw [hj1];by_cases hlt:x.ba<y.ba
  ·have ih':=ih A' (y::B) N hA' hP hl2 (Nat.le_refl _) (fun b hb=>by
    rcases List.mem_cons.1 hb with rfl|hb
    ·exact hlt
    ·exact hB b hb) (fun v' hv'=>by
    have:=h1 v' hv';rw [show A'++[y]++B=A'++y::B by simp]at this
    exact this)
   rw [hj]at ih';generalize kE P (A'++[y]) x B Q=R at g1 g0 gsw hl⊢;have G1: ∀h,R[j+1]'h=x.row:=fun h=>(by rw [List.getElem?_eq_getElem h]at g1;simpa using g1);have G0: ∀h,R[j]'h=y.row:=fun h=>(by rw [List.getElem?_eq_getElem h]at g0;simpa using g0);have hc:Dn x.ba y.ba<0:=(by unfold Dn;rw [if_pos hlt];omega);apply ax;conv=>arg 4;whnf
   simp [hP,d1,d2,d3,d4,gs,l0,hl,hv,gt1,jn0,jt,jl,jl0,jN0,hjN,w1,w2,G1,G0,l9,t9,C,hc,aD,aj.set_set,lp9,dr9,gsw];exact ih'
  ·have h1':=h1 v hv;rw [vX hB (fun a ha=>by
    have:a=y:=(by simpa using ha.symm);rw [this];exact hlt)]at h1'
   have hc: ¬Dn x.ba y.ba<0:=by
    unfold Dn;rw [if_neg hlt];split<;>omega
   have e:P++((A'++[y])++x::B).map ak.row++Q=kE P (A'++[y]) x B Q:=(by simp [kE]);rw [e]at h1';generalize kE P (A'++[y]) x B Q=R at g1 g0 gsw hl h1'⊢;have G1: ∀h,R[j+1]'h=x.row:=fun h=>(by rw [List.getElem?_eq_getElem h]at g1;simpa using g1);have G0: ∀h,R[j]'h=y.row:=fun h=>(by rw [List.getElem?_eq_getElem h]at g0;simpa using g0);apply ax;conv=>arg 4;whnf
   simp [hP,d1,d2,d3,d4,gs,l0,hl,hv,gt1,jn0,jt,jl,jl0,jN0,hjN,w1,w2,G1,G0,l9,t9,C,hc];exact h1'
theorem Dq (l:List ak)(x:ak):eC (l++[x])=rZ (eC l) x:=by
 unfold eC;rw [List.foldl_append];rfl
theorem FV {nm:Nm} {P Q:List (List PV)} {N a':Nat} (X:List ak) (hn:N≤1000000) (hnm:nm.1<H.length) (hP:P.length=a') (hl:P.length+X.length+Q.length=N) (Q':GX→bO→Prop)
  (h1: ∀v',v'≤N→Q' (.exit 0) ⟨[],[]::H.set nm (.arr 9 (P++(eC X).map ak.row++Q) v' false),53⟩): ∀(k i v:Nat),i+k=X.length→v≤N→
  iB KC au 151 (lp Tryz.f151 0) [0,1,2,3,8] [] Q' [(0, .bc nm 9 N 0 N),(1, .pure (.int .i64 a')),(2, .pure (.int .i64 ((a'+X.length:Nat):Int))),(3, .pure (.fn 107)),(8, .pure (.int .i64 ((a'+i:Nat):Int)))] ([]::H.set nm (.arr 9 (P++(eC (X.take i)).map ak.row++((X.drop i).map ak.row++Q)) v false)) 53:=by
 intro k
 induction k with
 |zero=>
  intro i v hi hv;have hx:X.take i=X:=List.take_of_length_le (by omega);have hd:X.drop i=[]:=List.drop_of_length_le (by omega);have h1':=h1 v hv;have e:i=X.length:=(by omega);rw [hx,hd,e];apply ax;conv=>arg 4;whnf
  simp;simpa using h1'
 |succ k ih=>
  intro i v hi hv;have hia:i<X.length:=(by omega);have hlt:((a'+i:Nat):Int)<((a'+X.length:Nat):Int):=(by omega);have bc:X.drop i=X[i]::X.drop (i+1):=List.drop_eq_getElem_cons hia;have htk:X.take (i+1)=X.take i++[X[i]]:=(by rw [List.take_add_one,List.getElem?_eq_getElem hia];rfl);have e:P++(eC (X.take i)).map ak.row++((X.drop i).map ak.row++Q)=kE P (eC (X.take i)) X[i] [] ((X.drop (i+1)).map ak.row++Q):=by
   rw [bc];simp only [kE,List.map_cons,List.map_nil,List.nil_append,List.cons_append,List.append_assoc]
  have hsl:(eC (X.take i)).length=i:=(by rw [kO,List.length_take];omega);have hw:=dp (x:=((a'+i+1:Nat):Int)) (by omega) (by omega);have ih':=fun v' hv'=>ih (i+1) v' (by omega) hv';have L:=fun Q'=>FU (H:=H) (nm:=nm) (P:=P) (Q:=(X.drop (i+1)).map ak.row++Q) (N:=N) (a':=a') X[i] (a'+i) hn hnm ((a'+X.length:Nat):Int) Q' i (eC (X.take i)) [] v hsl hP (by rw [rY,hsl];simp;omega) hv (by simp);rw [e];apply ax;conv=>arg 4;whnf
  obtain⟨R,hR⟩: ∃R,kE P (eC (X.take i)) X[i] [] ((X.drop (i+1)).map ak.row++Q)=R:=⟨_,rfl⟩;rw [hR]at L⊢;have e2: ∀v',aj.set H nm (.arr 9 (P++(rZ (eC (X.take i)++[]) X[i]).map ak.row++((X.drop (i+1)).map ak.row++Q)) v' false)=H.set nm (.arr 9 (P++(eC (X.take (i+1))).map ak.row++((X.drop (i+1)).map ak.row++Q)) v' false):=fun v'=>by
   rw [htk,Dq,List.append_nil]
  have d4:nm.1≤H.length:=(by omega);have hsl2:((P.length+(eC (X.take i)).length:Nat):Int)=(a':Int)+i:=(by rw [hP,hsl];simp);simp only [e2,hsl2]at L;obtain⟨T,hT⟩: ∃T:List (List PV),P++(eC (X.take (i+1))).map ak.row++((X.drop (i+1)).map ak.row++Q)=T:=⟨_,rfl⟩;rw [hT]at L ih';have hw':IntKind.i64.wrap ((a':Int)+i+1)=(a':Int)+i+1:=(by simpa using hw);simp at L;simp [hia];refine L _ fun v' hv'=> ?_;have i1:=ih' v' hv';have ec:((a'+(i+1):Nat):Int)=(a':Int)+i+1:=(by omega);rw [ec]at i1;simp [hw',d4];simpa using i1
end
section
variable {c:Nat} {H:aj}
theorem nD {nm:Nm}{P Q:List (List PV)}{N a' v:Nat}(X:List ak)(hn:N≤1000000)(hnm:nm.1<H.length)(hP:P.length=a')(hl:P.length+X.length+Q.length=N)(hv:v≤N):
  ∃v',v'≤N∧aL KC (aE KC) 151 [.bc nm 9 N 0 N, .pure (.int .i64 a'), .pure (.int .i64 ((a'+X.length:Nat):Int)), .pure (.fn 107)] c (H.set nm (.arr 9 (P++X.map ak.row++Q) v false))=
   some (.pure (.tuple []),H.set nm (.arr 9 (P++(eC X).map ak.row++Q) v' false)):=by
 suffices hs:mm (aL KC (aE KC) 151 [.bc nm 9 N 0 N, .pure (.int .i64 a'), .pure (.int .i64 ((a'+X.length:Nat):Int)), .pure (.fn 107)] c (H.set nm (.arr 9 (P++X.map ak.row++Q) v false))) (fun x=> ∃v',v'≤N∧x=(.pure (.tuple []),H.set nm (.arr 9 (P++(eC X).map ak.row++Q) v' false)))by
  obtain⟨x,hx,v',h1,h2⟩:=hs;exact⟨v',h1,by rw [hx,h2]⟩
 have hH:0<(H.set nm (.arr 9 (P++X.map ak.row++Q) v false)).length:=(by rw [aj.length_set];omega);refine bh KC au Tryz.func151 rfl rfl Mj rfl rfl rfl (by simp) hH ?_;by_cases hX:X=[]
 ·subst hX;have hw:=dp (x:=(a':Int)+1) (by omega) (by omega);have hlt: ¬(a':Int)+1<a':=(by omega);simp [hw];apply ax;conv=>arg 4;whnf
  simp [hlt,ae,aj.length_set];exact⟨v,hv,by simp [eC]⟩
 ·have hx1:1≤X.length:=List.length_pos_iff.2 hX;have hw:=dp (x:=(a':Int)+1) (by omega) (by omega);obtain⟨m,hm⟩: ∃m,1+m=X.length:=⟨X.length-1,by omega⟩;have e1:P++(eC (X.take 1)).map ak.row++((X.drop 1).map ak.row++Q)=P++X.map ak.row++Q:=by
   cases X with
   |nil=>exact absurd rfl hX
   |cons x X=>simp [eC,rZ]
  have L:=fun Q' h1=>FV (H:=H) (nm:=nm) (P:=P) (Q:=Q) (N:=N) (a':=a') X hn hnm hP hl Q' h1 m 1 v hm hv;rw [e1]at L;have ec:((a'+1:Nat):Int)=(a':Int)+1:=(by omega);have ec2:((a'+X.length:Nat):Int)=(a':Int)+X.length:=(by omega);rw [ec,ec2]at L;rw [ec2];simp [hw];simp at L;refine L _ fun v' hv'=> ?_;simp [ae,aj.length_set];exact⟨v',hv',rfl⟩
theorem Dr {nm:Nm}{N v:Nat}(X:List ak)(hN:X.length=N)(hn:N≤20)(hnm:nm.1<H.length)(hv:v≤N):
  ∃v',v'≤N∧aL KC (aE KC) 128 [.bc nm 9 N 0 N, .pure (.int .i64 N), .pure (.fn 107)] c (H.set nm (.arr 9 (X.map ak.row) v false))=
   some (.pure (.tuple []),H.set nm (.arr 9 ((eC X).map ak.row) v' false)):=by
 have hl: ∀b,(H.set nm b).length=H.length:=fun b=>aj.length_set _ _ _;have hH:0<(H.set nm (.arr 9 (X.map ak.row) v false)).length:=by rw [hl];omega
 suffices hs:mm (aL KC (aE KC) 128 [.bc nm 9 N 0 N, .pure (.int .i64 N), .pure (.fn 107)] c (H.set nm (.arr 9 (X.map ak.row) v false))) (fun x=> ∃v',v'≤N∧x=(.pure (.tuple []),H.set nm (.arr 9 ((eC X).map ak.row) v' false)))by
  obtain⟨x,hx,v',h1,h2⟩:=hs;exact⟨v',h1,by rw [hx,h2]⟩
 have d1: ¬nm.1=H.length:=(by omega);have up: ∀f b,aj.set (f::H) nm b=f::H.set nm b:=fun f b=>by
  show (if nm.1=H.length then _ else _)=_
  rw [if_neg d1]
 have hlt: ¬(20:Int)<N:=(by omega);refine bh KC au Tryz.func128 rfl rfl LU rfl rfl rfl (by simp) hH ?_;have d2: ¬nm.1=H.length+1:=(by omega);have d4:nm.1≤H.length:=(by omega);have d5:nm.1≤H.length+1:=(by omega);by_cases h20:N=20
 ·obtain⟨v1,a1,b1⟩:=nD (c:=18) (H:=[]::[]::H) (nm:=nm) (P:=[]) (Q:=[]) (N:=N) (a':=0) (v:=v) X (by omega) (by simp;omega) rfl (by simpa using hN) hv;obtain⟨v2,a2,b2⟩:=nD (c:=27) (H:=[]::H) (nm:=nm) (P:=(eC X).map ak.row) (Q:=[]) (N:=N) (a':=N) (v:=v1) [] (by omega) (by simp;omega) (by rw [List.length_map,kO,hN]) (by rw [List.length_map,kO,hN];simp) a1;subst h20;simp [d1,d2,hN]at b1 b2;have es:eC ([]:List ak)=[]:=rfl;rw [es]at b2;simp at b2;have w40:IntKind.i64.wrap 40=40:=(by decide);simp;apply ax;conv=>arg 4;whnf
  simp [d1,d2,d4,d5,b1,w40];apply ax;conv=>arg 4;whnf
  simp [d1,d2,d4,d5,b2];apply ax;conv=>arg 4;whnf
  simp [ae,hl];exact⟨v2,a2,rfl⟩
 ·obtain⟨v2,a2,b2⟩:=nD (c:=27) (H:=[]::H) (nm:=nm) (P:=[]) (Q:=[]) (N:=N) (a':=0) (v:=v) X (by omega) (by simp;omega) rfl (by simpa using hN) hv;have hle: ¬(20:Int)≤N:=(by omega);simp [d1,hN]at b2;simp;apply ax;conv=>arg 4;whnf
  simp [hle,b2,d1,d4];apply ax;conv=>arg 4;whnf
  simp [hlt,ae,hl];exact⟨v2,a2,rfl⟩
theorem FW {nm:Nm}{N v:Nat}(X:List ak)(hN:X.length=N)(hn:N≤20)(hnm:nm.1<H.length)(hv:v≤N):
  ∃v',v'≤N∧aL KC (aE KC) 106 [.bc nm 9 N 0 N, .pure (.fn 107)] c (H.set nm (.arr 9 (X.map ak.row) v false))=
   some (.pure (.tuple []),H.set nm (.arr 9 ((eC X).map ak.row) v' false)):=by
 have hl: ∀b,(H.set nm b).length=H.length:=fun b=>aj.length_set _ _ _;have hH:0<(H.set nm (.arr 9 (X.map ak.row) v false)).length:=(by rw [hl];omega);have d1: ¬nm.1=H.length:=(by omega);have d4:nm.1≤H.length:=(by omega);obtain⟨v2,a2,b2⟩:=Dr (c:=8) (H:=[]::H) (nm:=nm) (v:=v) X hN hn (by simp;omega) hv;refine⟨v2,a2,aM (bh KC au Tryz.func106 rfl rfl Ly rfl rfl rfl (by simp) hH ?_)⟩;simp [d1]at b2;simp [b2,d1,d4,ae,hl]
end
section
variable {c:Nat} {H:aj}
theorem Is (r:aA) {act:Nat} (h:act<r.ai.length) (hp:r.ai.Pairwise fun a b=>a.ba≤b.ba) (hn:r.ai.length≤1000000) (Q:GX→bO→Prop)
  (h1:Q (.exit 0) ⟨[(2, .ay (H.length,2) 0),(4, .ay (H.length,4) 0),(5, .pure (.int .i64 ((rT r.ai r.ai[act]).length:Nat)))],[(2,aU r),(4,o6)]::H,42⟩): ∀(k n:Nat),n=(rT r.ai r.ai[act]).length+k→n≤act→
  iB KC au 104 (lp Tryz.f104 0) [1,2,4,5] [2,4,5] Q [(1, .pure (.int .i64 act)),(2, .ay (H.length,2) 0),(4, .ay (H.length,4) 0),(5, .pure (.int .i64 n))] ([(2,aU r),(4,o6)]::H) 42:=by
 obtain⟨f1,f2,f3⟩:=vV h hp;intro k
 induction k with
 |zero=>
  intro n hk hna;rw [Nat.add_zero]at hk;rw [←hk]at h1 f2
  cases n with
  |zero=>
   apply ax;conv=>arg 4;whnf
   simp [aU,o6];simpa [aU,o6]using h1
  |succ n=>
   have hlt:n<r.ai.length:=(by omega);have:=f2 n hlt (by omega);have hne:(r.ai[n].ba==r.ai[act].ba)=false:=by
    have: ¬r.ai[n].ba=r.ai[act].ba:=(by omega);simpa using this
   have gt:(0:Int)<(n:Int)+1:=(by omega);have w2:=dp (x:=(n:Int)) (by omega) (by omega);apply ax;conv=>arg 4;whnf
   simp [aU,o6,gt,w2,hlt,h,ak.row,hne];simpa [aU,o6]using h1
 |succ k ih=>
  intro n hk hna;obtain⟨n',rfl⟩: ∃n',n=n'+1:=⟨n-1,by omega⟩;have hlt:n'<r.ai.length:=(by omega);have:=f3 n' hlt (by omega) (by omega);have heq:(r.ai[n'].ba==r.ai[act].ba)=true:=(by simpa using this);have gt:(0:Int)<(n':Int)+1:=(by omega);have w2:=dp (x:=(n':Int)) (by omega) (by omega);have ih':=ih n' (by omega) (by omega);apply ax;conv=>arg 4;whnf
  simp [aU,o6,gt,w2,hlt,h,ak.row,heq];simpa [aU,o6]using ih'
theorem FX {r:aA}(hr:Dl r){act:Nat}(h:act<r.ai.length)(hp:r.ai.Pairwise fun a b=>a.ba≤b.ba)(hH:0<H.length):
  aL KC (aE KC) 104 [.pure (.agg r.row), .pure (.int .i64 act)] c H=some (.pure (.agg (aP r (Dk r r.ai[act]))),H):=by
 refine aM (bd KC au Tryz.func104 rfl rfl Lw rfl rfl rfl (by simp) hH ?_);obtain⟨f1,f2,f3⟩:=vV h hp;have C:=fun c (H:aj) (hH:0<H.length)=>sG (c:=c) (H:=H) r hr.w.pl hr.w.tl hH;have hF:Full (aJ r):=⟨by simpa [aJ]using hr.p0,by simpa [aJ]using hr.p0,by simp [aJ];exact hr.w.pl,by simp [aJ];exact hr.w.pl,by simp [aJ];exact hr.w.tl⟩;obtain⟨m,hm⟩: ∃m,(rT r.ai r.ai[act]).length=m:=⟨_,rfl⟩;have hbt:rT r.ai r.ai[act]=r.ai.take m:=(by rw [←hm];exact ql _ _);have hal:=hr.al;have R:=fun(F:Fr)=>yN (c:=37) hr.w (sE r (F::H) (by simp)) (r.ai.take m) (by rw [List.length_take];omega) (fun a ha=>hr.ab a (List.mem_of_mem_take ha)) hr.snd hF;have hml:(r.ai.take m).length=m:=by rw [List.length_take];omega
 have R2: ∀F:Fr,∃y z,aL KC (aE KC) 93 [.pure (.agg (aP r (aJ r))), .pure (.slice (List.take m (r.ai.map ak.row))), .pure (.fn 59)] 37 (F::H)=
   some (.pure (.tuple [.agg (aP r (Dk r r.ai[act])), .int .i64 y, .int .i64 z]),F::H):=fun F=>by
  refine⟨(bG r (r.ai.take m).length (aJ r) (r.ai.take m) 0).2.2.1,(bG r (r.ai.take m).length (aJ r) (r.ai.take m) 0).2.2.2, ?_⟩;rw [jK rfl rfl rfl];have e:=R F;rw [List.map_take]at e;have eb:Dk r r.ai[act]=(bG r (r.ai.take m).length (aJ r) (r.ai.take m) 0).2.1:=(by unfold Dk;rw [hbt]);rw [eb];exact e
 have L:=fun Q h1=>Is (H:=H) r h hp hr.al Q h1 (act-m) act (by omega) (Nat.le_refl _);rw [eE]at C⊢;rw [hm]at L;simp [aU,o6]at L;simp;refine L _ ?_;obtain⟨y,z,e⟩:=R2 [(2,aU r),(4,o6)];simp only [aP,aU,o6]at C e;have hmn:m≤r.ai.length:=(by omega);have hmi: ¬(m:Int)<0:=(by omega);have hall: ∀x:ak,x.row.length=9:=fun _=>rfl;simp [C,e,hmn,hmi,aD,hall];rw [ae (by simp)];simp [aP]
end
section
variable {c:Nat} {H:aj}
theorem It (r:aA) (ai:List ak) (m:Int) (hn:ai.length≤1000000) (Q:GX→bO→Prop)
  (h1:Q (.exit 0) ⟨[(8, .pure (.int .i64 m)),(9, .pure (.int .i64 (cL m ai).length))],[(4,aU r)]::H,37⟩): ∀(k n:Nat),n+k=(cL m ai).length→
  iB KC au 74 (lp Tryz.f74 0) [3,8,9] [8,9] Q [(3, .pure (.slice (ai.map ak.row))),(8, .pure (.int .i64 m)),(9, .pure (.int .i64 n))] ([(4,aU r)]::H) 37:=by
 have hle:(cL m ai).length≤ai.length:=(List.takeWhile_sublist _).length_le;intro k
 induction k with
 |zero=>
  intro n hk;have e:n=(cL m ai).length:=(by omega);rw [←e]at h1;by_cases hl:n<ai.length
  ·have hout:=pA (fun a:ak=>decide (a.ba≤m)) ai (by rw [show (ai.takeWhile fun a:ak=>decide (a.ba≤m)).length=n from e.symm];exact hl)
   have hout': ¬ai[n].ba≤m:=by
    have e2:(ai.takeWhile fun a:ak=>decide (a.ba≤m)).length=n:=e.symm;simp only [e2]at hout;simpa using hout
   apply ax;conv=>arg 4;whnf
   simp [hl,ak.row,hout'];exact h1
  ·apply ax;conv=>arg 4;whnf
   simp [hl];exact h1
 |succ k ih=>
  intro n hk;have hl:n<ai.length:=(by omega);have hin:=vU (fun a:ak=>decide (a.ba≤m)) ai n hl (by show n<(cL m ai).length;omega)
  have hin':ai[n].ba≤m:=(by simpa using hin);have hw:=dp (x:=(n:Int)+1) (by omega) (by omega);have ih':=ih (n+1) (by omega);apply ax;conv=>arg 4;whnf
  simp [hl,ak.row,hin',hw];simpa using ih'
theorem FY {r:aA}{act:Nat}(h:act<r.ai.length)(hn:r.ai.length≤1000000)(ht:0≤r.ai[act].ba∧r.ai[act].ba≤1000000)(kind:Int)(ai:List ak)(hal:ai.length≤1000000)(hH:0<H.length):
  bI KC (aE KC) 74 [.pure (.agg r.row), .pure (.int .i64 act), .pure (.int .i64 kind), .pure (.slice (ai.map ak.row))] c H=
   some (.pure (.tuple [.int .i64 (fF r act kind), .int .i64 (cL (fF r act kind) ai).length]),H):=by
 refine aM (aK KC au Tryz.func74 rfl rfl Ti (by simp) hH ?_);have hl:=aQ (d:=cg) h;have L:=fun m Q h1=>It (H:=H) r ai m hal Q h1 (cL m ai).length 0 (by omega);rw [eE];unfold fF;rw [hl];by_cases hk:kind=3
 ·have hw:=dp (x:=r.ai[act].ba+1) (by omega) (by omega);have L1:=L (r.ai[act].ba+1);subst hk;simp [aU]at L1;simp [h,ak.row,hw];refine L1 _ ?_;simp;rw [ae (by simp)];simp
 ·have L1:=L r.ai[act].ba;have hk':(kind==3)=false:=(by simpa using hk);simp [aU]at L1;simp [h,ak.row,hk,hk'];refine L1 _ ?_;simp;rw [ae (by simp)];simp
theorem FZ {g:GV}{q:PV}(hg:EX H g q)(ps:List PV):(bs H (ps.map .pure++[g])).1.map canon=ps.map (fun p=>canon (.pure p))++[.pure q]:=by
 have h1: ∀ps:List PV,bs H (ps.map .pure++[g])=(ps.map .pure++[(dy H g).1],(dy H g).2):=fun ps=>by
  induction ps with
  |nil=>rfl
  |cons p ps ih=>
   rw [List.map_cons,List.cons_append];simp only [bs];have e:dy H (.pure p)=(.pure p,H):=rfl;rw [e];simp only [ih,List.cons_append]
 have h2:canon (dy H g).1= .pure q:=by
  have h3:=(qg hg).1
  cases g with
  |bc nm es top lo len=>
   show canon (dY H (.bc nm es top lo len)).1=_
   have e: ∃p,(dY H (.bc nm es top lo len)).1= .pure p:=⟨_,rfl⟩;obtain⟨p,hp⟩:=e;rw [hp]at h3⊢;have:p=q:=by
    have h4:cn (.pure p)=GV.pure p:=rfl;rw [h4]at h3;cases h3;rfl
   rw [this];obtain⟨rows,v,ro,a1,a2,a3,a4,a5,a6⟩:=hg;rw [a6];rfl
  |pure p=>cases hg;rfl
  |aW=>cases hg;rfl
  |_=>exact hg.elim
 rw [h1];simp [h2,Function.comp_def]
theorem Ay {r:aA}{act:Nat}(h:act<r.ai.length)(hn:r.ai.length≤1000000)(ht:0≤r.ai[act].ba∧r.ai[act].ba≤1000000)(kind:Int)(ai:List ak)(hal:ai.length≤1000000){g:GV}(hg:EX H g (.slice (ai.map ak.row)))(hH:0<H.length):
  aL KC (aE KC) 74 [.pure (.agg r.row), .pure (.int .i64 act), .pure (.int .i64 kind),g] c H=
   some (.pure (.tuple [.int .i64 (fF r act kind), .int .i64 (cL (fF r act kind) ai).length]),H):=
 gX KC rfl rfl (FZ hg [.agg r.row, .int .i64 act, .int .i64 kind]) rfl hH (fun H hH=>FY (c:=c) h hn ht kind ai hal hH) rfl
end
section
variable {c:Nat} {H:aj}
def lW (l:List ak)(act:Nat)(aO:Int):List ak:=l.take act++(l.drop act).map (late aO)
theorem kP (l:List ak)(act:Nat)(aO:Int)(h:act≤l.length):(lW l act aO).length=l.length:=by
 unfold lW;simp;omega
def jE (l:List ak)(act:Nat)(aO:Int)(i:Nat):List ak:=(lW l act aO).take i++l.drop i
theorem F9 (l:List ak)(act:Nat)(aO:Int)(h:act≤l.length)(i:Nat)(hi:i≤l.length):(jE l act aO i).length=l.length:=by
 unfold jE;rw [List.length_append,List.length_take,List.length_drop,kP l act aO h];omega
theorem Nh (l:List ak)(act:Nat)(aO:Int)(h:act≤l.length):jE l act aO act=l:=by
 unfold jE lW;rw [List.take_left' (by rw [List.length_take];omega),List.take_append_drop]
theorem Ni (l:List ak)(act:Nat)(aO:Int)(h:act≤l.length):jE l act aO l.length=lW l act aO:=by
 unfold jE;rw [List.take_of_length_le (by rw [kP l act aO h];exact Nat.le_refl _),List.drop_length,List.append_nil]
theorem Ga (l:List ak)(act:Nat)(aO:Int)(h:act≤l.length){i:Nat}(h1:act≤i)(h2:i<l.length):(lW l act aO)[i]? =some (late aO l[i]):=by
 unfold lW;rw [List.getElem?_append_right (by rw [List.length_take];omega),List.length_take,List.getElem?_map,List.getElem?_drop];rw [show act+(i-min act l.length)=i by omega,List.getElem?_eq_getElem h2]
 rfl
theorem Gb (l:List ak)(act:Nat)(aO:Int)(h:act≤l.length){i:Nat}(h2:i<l.length):(jE l act aO i)[i]? =some l[i]:=by
 unfold jE;rw [List.getElem?_append_right (by rw [List.length_take,kP l act aO h];omega),List.length_take,kP l act aO h,List.getElem?_drop,show i+(i-min i l.length)=i by omega,List.getElem?_eq_getElem h2]
theorem Ds (l:List ak)(act:Nat)(aO:Int)(h:act≤l.length){i:Nat}(h1:act≤i)(h2:i<l.length):(jE l act aO i).set i (late aO l[i])=jE l act aO (i+1):=by
 have hl:=kP l act aO h;have e:l.drop i=l[i]::l.drop (i+1):=List.drop_eq_getElem_cons h2;unfold jE;rw [List.set_append_right _ _ (by rw [List.length_take,hl];omega),List.length_take,hl,show i-min i l.length=0 by omega,e,List.set_cons_zero,List.take_add_one,Ga l act aO h h1 h2]
 simp
theorem Iu (r:aA) {act:Nat} (aO:Int) (h:act<r.ai.length) (hn:r.ai.length≤1000000) (tm: ∀a∈r.ai,0≤a.ba∧a.ba≤1000000) (Q:GX→bO→Prop)
  (h1: ∀v,v≤r.ai.length→Q (.exit 1) ⟨[(7, .bc (H.length,28685) 9 r.ai.length 0 r.ai.length)],[(3,aU r),(28685, .arr 9 ((lW r.ai act aO).map ak.row) v false)]::H,72⟩): ∀(k i v:Nat),i+k=r.ai.length→act≤i→v≤r.ai.length→
  iB KC au 70 (lp Tryz.f70 0) [7,8,9] [7] Q [(7, .bc (H.length,28685) 9 r.ai.length 0 r.ai.length),(8, .pure (.int .i64 aO)),(9, .pure (.int .i64 i))] ([(3,aU r),(28685, .arr 9 ((jE r.ai act aO i).map ak.row) v false)]::H) 72:=by
 intro k
 induction k with
 |zero=>
  intro i v hi ha hv;have e:i=r.ai.length:=(by omega);subst e;rw [Ni _ _ _ (by omega)];have h1':=h1 v hv;apply ax;conv=>arg 4;whnf
  simp;exact h1'
 |succ k ih=>
  intro i v hi ha hv;have hia:i<r.ai.length:=(by omega);have hw:=dp (x:=(i:Int)+1) (by omega) (by omega);have hml:=F9 r.ai act aO (by omega) i (by omega);have g:=Gb r.ai act aO (by omega) hia;have gs:=Ds r.ai act aO (by omega) ha hia;have tmi:=tm _ (List.getElem_mem hia);have hwt:=dp (x:=r.ai[i].ba+1) (by omega) (by omega);have G: ∀h,(jE r.ai act aO i)[i]'h=r.ai[i]:=fun h=>(by rw [List.getElem?_eq_getElem h]at g;simpa using g);by_cases hwho:r.ai[i].aO=aO
  ·have ih':=ih (i+1) r.ai.length (by omega) (by omega) (Nat.le_refl _);rw [←gs]at ih';have el:late aO r.ai[i]={r.ai[i]with ba:=r.ai[i].ba+1}:=(by unfold late;rw [if_pos hwho]);rw [el]at ih';generalize jE r.ai act aO i=R at G hml ih'⊢;have hwb:(r.ai[i].aO==aO)=true:=(by simpa using hwho);apply ax;conv=>arg 4;whnf
   simp [hia,hml,hv,G,hw,hwt,hwb,hwho,ak.row,aD];simpa [ak.row,hwho,List.map_set]using ih'
  ·have ih':=ih (i+1) v (by omega) (by omega) hv;rw [←gs]at ih';have el:late aO r.ai[i]=r.ai[i]:=(by unfold late;rw [if_neg hwho]);rw [el]at ih';have es:(jE r.ai act aO i).set i r.ai[i]=jE r.ai act aO i:=by
    have hil:i<(jE r.ai act aO i).length:=(by omega);conv=>lhs;rw [←G hil]
    exact List.set_getElem_self hil
   rw [es]at ih';generalize jE r.ai act aO i=R at G hml ih'⊢;have hwb:(r.ai[i].aO==aO)=false:=(by simpa using hwho);apply ax;conv=>arg 4;whnf
   simp [hia,hml,hv,G,hw,hwb,ak.row];simpa using ih'
theorem Dt {a:ak}(h:a.kind≠1)(x:Int):nP {a with hand:=x}=nP a:=by
 unfold nP;simp [h]
theorem AB.flip {r:aA}{w:Nat}{a:ak}(h:AB r w a)(hk:a.kind≠1):AB r w {a with hand:=1-a.hand} where
 aO:=h.aO
 wl:=h.wl
 hand:=by rcases h.hand with e|e<;>simp [e]
 kind:=h.kind
 take:=h.take
 pO:=h.pO
 step:=h.step
 form:=by rw [Dt hk];exact h.form
theorem Iv {r:aA}(hr:Dl r)(a:ak):fT r (Dk r a):=
 (mw _ _ _ _ hr.snd (fun x hx=>hr.ab x ((List.takeWhile_sublist _).subset hx))).1
theorem xq {r:aA}(hr:Dl r){act:Nat}(h:act<r.ai.length)(hp:r.ai.Pairwise fun a b=>a.ba≤b.ba)(tm: ∀a∈r.ai,0≤a.ba∧a.ba≤1000000)(h20:r.ai.length≤20){kind:Int}(hk2:kind=2→r.ai[act].kind≠1)(hH:0<H.length):
  aL KC (aE KC) 70 [.pure (.agg r.row), .pure (.int .i64 act), .pure (.int .i64 kind)] c H=some (.pure (.slice ((gS r act kind).map ak.row)),H):=by
 have hne:r.ai≠[]:=fun e=>(by rw [e]at h;simp at h);have k1:ao 12 7=28685:=(by decide);have C:=tM (c:=12) (H:=[(3,aU r)]::H) r.ai hne (by omega) (by simp) (by simp [k1]);simp only [List.length_cons,Nat.add_sub_cancel,k1]at C;have hset:aj.set ([(3,aU r)]::H) (H.length,28685) (.arr 9 (r.ai.map ak.row) 0 false)=[(3,aU r),(28685, .arr 9 (r.ai.map ak.row) 0 false)]::H:=(by simp);rw [hset]at C;have hg:r.ai.getD act cg=r.ai[act]:=aQ h
 have D: ∀(rows:List (List PV)) (v:Nat),rows.length=r.ai.length→v≤r.ai.length→(∀x∈rows,x.length=9)→aL KC (aE KC) 109 [.bc (H.length,28685) 9 r.ai.length 0 r.ai.length, .pure (.int .i64 act), .pure (.int .i64 (act+1))] 71 ([(3,aU r),(28685, .arr 9 rows v false)]::H)=
   some (.bc (H.length,28685) 9 r.ai.length 0 (r.ai.length-1),[(3,aU r),(28685, .arr 9 (rows.take act++rows.drop (act+1)++[Bs]) r.ai.length false)]::H):=fun rows v hl hv hw=>by
  have:=FO (c:=71) (H:=[(3,aU r),(28685, .arr 9 rows v false)]::H) (nm:=(H.length,28685)) (rows:=rows) (v:=v) (k:=act) hl (by simp) hv h hw (by omega) (by simp);simpa using this
 have w9: ∀l:List ak,∀x∈l.map ak.row,x.length=9:=fun l x hx=>by
  obtain⟨a,_,rfl⟩:=List.mem_map.1 hx;rfl
 refine aM (bd KC au Tryz.func70 rfl rfl Tf rfl rfl rfl (by simp) hH ?_);have hw:=dp (x:=(act:Int)+1) (by omega) (by omega);have hnl: ¬H.length≤H.length-1:=(by omega);rw [eE];simp only [aU]at C D;unfold gS;rw [hg];by_cases e2:kind=2
 ·subst e2;have hab:=hr.ab _ (List.getElem_mem h);have hfl:=hab.flip (hk2 rfl);have hhand:r.ai[act].hand=0∨r.ai[act].hand=1:=hab.hand;have hwh:IntKind.i64.wrap (1-r.ai[act].hand)=1-r.ai[act].hand:=dp (by omega) (by omega);have B:=FX (c:=28) (H:=[(3,aU r),(28685, .arr 9 ((r.ai.map ak.row).set act ({r.ai[act]with hand:=1-r.ai[act].hand}:ak).row) r.ai.length false)]::H) hr h hp (by simp);have M:=fun c (H:aj) (hH:0<H.length)=>y9 (c:=c) (H:=H) (Iv hr r.ai[act]) hr.w hfl hH;rw [if_pos rfl];simp only [aU,ak.row]at B;rw [eE]at B;obtain⟨a',ha'⟩: ∃a':ak,{r.ai[act]with hand:=1-r.ai[act].hand}=a':=⟨_,rfl⟩;have hrow:(r.ai.map ak.row).set act [.int .i64 r.ai[act].ba, .int .i64 r.ai[act].aO, .int .i64 r.ai[act].kind, .int .i64 (1-r.ai[act].hand), .int .i64 r.ai[act].bf, .int .i64 r.ai[act].cell, .int .i64 r.ai[act].other, .int .i64 r.ai[act].cd, .int .i64 r.ai[act].gR]=(r.ai.set act a').map ak.row:=by
   rw [List.map_set,←ha'];rfl
  obtain⟨T,hT⟩: ∃T,(r.ai.set act a').map ak.row=T:=⟨_,rfl⟩;have hTl:T.length=r.ai.length:=(by rw [←hT];simp);have hTg: ∀h,T[act]'h=a'.row:=fun h=>(by simp only [←hT,List.getElem_map,List.getElem_set_self]);have hT9:=w9 (r.ai.set act a');rw [hT]at hrow hT9;rw [hrow]at B;have D2:=D T r.ai.length hTl (Nat.le_refl _) hT9;have ee:r.ai.eraseIdx act=r.ai.take act++r.ai.drop (act+1):=List.eraseIdx_eq_take_drop_succ ..;have tkd:List.take act T=(r.ai.take act).map ak.row:=by
   rw [←hT,←List.map_take,List.take_set_of_le (Nat.le_refl _)]
  have drd:List.drop (act+1) T=(r.ai.drop (act+1)).map ak.row:=by
   rw [←hT,←List.map_drop,List.drop_set_of_lt (by omega)]
  rw [ha']at M⊢;simp only [ak.row]at M hTg
  cases hpos:b7 r (Dk r r.ai[act]) r.ai[act].aO.toNat a' with
  |true=>
   rw [hpos]at M;simp [C,ak.row,h,hwh,aD,hrow,B,M,hTl,hTg];rw [ae (by simp)];have tl:List.take r.ai.length T=(r.ai.set act a').map ak.row:=(by rw [hT];exact List.take_of_length_le (by omega));simp [hnl,hTl,tl];rfl
  |false=>
   rw [hpos]at M;simp [C,ak.row,h,hwh,aD,hrow,B,M,hTl,hTg,D2,hw];rw [ae (by simp)];have tl:List.take (r.ai.length-1) (List.take act T++(List.drop (act+1) T++[Bs]))=(r.ai.eraseIdx act).map ak.row:=by
    rw [tkd,drd,ee,List.map_append,←List.append_assoc];exact List.take_left' (by simp only [List.length_append,List.length_map,List.length_take,List.length_drop];omega)
   have ml:min act r.ai.length+(r.ai.length-(act+1)+1)=r.ai.length:=(by omega);simp [hnl,tl,ml,hTl]
 ·have e2':(kind==2)=false:=(by simpa using e2);rw [if_neg e2];by_cases e3:kind=3
  ·subst e3;rw [if_pos rfl,show r.ai.take act++(r.ai.drop act).map (late r.ai[act].aO)=lW r.ai act r.ai[act].aO from rfl]
   have hn6:r.ai.length≤1000000:=(by omega);have hk6:act+(r.ai.length-act)=r.ai.length:=(by omega);have L:=fun Q h1=>Iu (H:=H) r (r.ai[act]'h).aO h hn6 tm Q h1 (r.ai.length-act) act 0 hk6 (Nat.le_refl _) (Nat.zero_le _);rw [Nh _ _ _ (by omega)]at L;simp only [aU]at L;have hll:=kP r.ai act r.ai[act].aO (by omega);simp [C,h,ak.row];refine L _ fun v hv=> ?_;obtain⟨v',hv',S⟩:=FW (c:=65) (H:=[(3,aU r),(28685, .arr 9 ((lW r.ai act r.ai[act].aO).map ak.row) v false)]::H) (nm:=(H.length,28685)) (v:=v) (lW r.ai act r.ai[act].aO) hll h20 (by simp) hv;simp [aU]at S;simp [S];rw [ae (by simp)];have tl:List.take r.ai.length ((eC (lW r.ai act r.ai[act].aO)).map ak.row)=(eC (lW r.ai act r.ai[act].aO)).map ak.row:=List.take_of_length_le (by rw [List.length_map,kO,hll];exact Nat.le_refl _);have sl:(eC (lW r.ai act r.ai[act].aO)).length=r.ai.length:=(by rw [kO,hll]);simp [hnl,tl,sl,hv']
  ·have e3':(kind==3)=false:=(by simpa using e3);rw [if_neg e3];have D1:=D (r.ai.map ak.row) 0 (by simp) (Nat.zero_le _) (w9 _);have ee:r.ai.eraseIdx act=r.ai.take act++r.ai.drop (act+1):=List.eraseIdx_eq_take_drop_succ ..;simp [C,D1,e2',e3',hw];rw [ae (by simp)];have tl:List.take (r.ai.length-1) (List.take act (r.ai.map ak.row)++(List.drop (act+1) (r.ai.map ak.row)++[Bs]))=(r.ai.eraseIdx act).map ak.row:=by
    rw [ee,List.map_append,List.map_take,List.map_drop,←List.append_assoc];exact List.take_left' (by rw [List.length_append,List.length_take,List.length_drop,List.length_map];omega)
   have ml:min act r.ai.length+(r.ai.length-(act+1)+1)=r.ai.length:=(by omega);simp [hnl,tl,ml]
end
section
variable {c:Nat} {H:aj}
end
section
variable {c:Nat} {H:aj}
end
section
variable {c:Nat} {H:aj}
end
section
variable {c:Nat} {H:aj}
end
section
variable {c:Nat} {H:aj}
end
section
variable {c:Nat} {H:aj}
end
section
theorem Bt {r:aA}{s:aw}: ∀{g p:List ak} {tk:List (Int×Int)} {nx:aw} {i:Nat},w7 s p tk→qW r s (p++g)→nx=kY s p→cK r s g tk nx i=(kY s (p++g),0,0)
 | [],p,tk,nx,i,_,hG,hn=>by rw [List.append_nil];unfold cK;rw [hn]
 |a::g,p,tk,nx,i,hT,hG,hn=>by
  have ha:=hG.ab a (by simp);have hd: ∀x∈gn s a.aO.toNat a,x∉tk:=fun x hx h=>by
   obtain⟨b,hb,hy⟩:=(hT x).1 h;have:=(List.pairwise_append.1 hG.ap).2.2 b hb a (List.mem_cons_self ..);exact vu.1 this x hy hx
  unfold cK;rw [if_neg (by rw [ha.2];simp),if_pos hd,Bt (p:=p++[a]) hT.snoc (by rw [List.append_assoc];exact hG) (by rw [hn,iY];rfl),List.append_assoc];rfl
noncomputable def zE:aw→List (List ak)→List aw
 |_,[]=> []
 |s,g::gs=>kY s g::zE (kY s g) gs
theorem Bu {r:aA}: ∀(gs:List (List ak)) (k:Nat) (s:aw) (i:Nat),JG r s gs→(gs.Pairwise fun g h=> ∀a∈g,∀b∈h,a.ba<b.ba)→gs.flatten.length≤k→bG r k s gs.flatten i=(zE s gs,kY s gs.flatten,-1,0)
 | [],k,s,i,_,_,_=>by cases k<;>rfl
 |g::gs,k,s,i,hT,hP,hk=>by
  obtain⟨⟨hG,hne,hat⟩,hT'⟩:=hT;obtain⟨a,g',rfl⟩:=List.exists_cons_of_ne_nil hne;have hP':=List.pairwise_cons.1 hP;obtain⟨k,rfl⟩: ∃k',k=k'+1:=⟨k-1,by simp at hk;omega⟩;have htw:((a::g')++gs.flatten).takeWhile (a8 a)=a::g':=by
   have h1: ∀b∈a::g',a8 a b=true:=fun b hb=>by
    unfold a8;simp [hat b hb a (List.mem_cons_self ..)]
   rw [List.takeWhile_append_of_pos h1];have h2:gs.flatten.takeWhile (a8 a)=[]:=by
    cases hf:gs.flatten with
    |nil=>rfl
    |cons b l=>
     have hb:b∈gs.flatten:=(by rw [hf];exact List.mem_cons_self ..);obtain⟨h,hh,hb⟩:=List.mem_flatten.1 hb;have:=hP'.1 h hh a (List.mem_cons_self ..) b hb;rw [List.takeWhile_cons,if_neg];unfold a8;simp;omega
   rw [h2,List.append_nil]
  have m:=Bt (r:=r) (s:=s) (g:=a::g') (p:=[]) (tk:=[]) (nx:=s) (i:=0) (fun x=>by simp) hG rfl;rw [List.nil_append]at m;have ih:=Bu gs k (kY s (a::g')) (i+(a::g').length) hT' hP'.2 (by simp at hk⊢;omega);rw [List.flatten_cons];conv=>lhs;rw [show (a::g')++gs.flatten=a::(g'++gs.flatten)from rfl]
  unfold bG;simp only;rw [show a::(g'++gs.flatten)=(a::g')++gs.flatten from rfl,htw,m]
  simp only [ne_eq,not_true_eq_false,if_false];rw [List.drop_left,ih,iY];rfl
theorem zF {r:aA}: ∀{gs:List (List ak)} {s:aw},JG r s gs→ ∀g∈gs,∃s',qW r s' g∧ ∀a∈g,∀b∈g,a.ba=b.ba
 | [],_,_,_,h=>by simp at h
 |g0::gs,s,h,g,hg=>by
  rcases List.mem_cons.1 hg with rfl|hg
  ·exact⟨s,h.1.1,h.1.2.2⟩
  ·exact zF h.2 g hg
theorem xZ {s:aw}{w:Nat}{a:ak}:a.aO∈(b9 s w a).ah:=by
 rw [dS]
 repeat' split
 all_goals simp
theorem Nj {r:aA}{gs:List (List ak)}{s:aw}(h:JG r s gs)(hP:gs.Pairwise fun g h=> ∀a∈g,∀b∈h,a.ba<b.ba):gs.flatten.Pairwise fun a b=>a.ba≤b.ba∧(a.ba=b.ba→a.aO≠b.aO):=by
 rw [List.pairwise_flatten];refine⟨fun g hg=> ?_,hP.imp fun {g h} q x hx y hy=>⟨by have:=q x hx y hy;omega,fun e=>by have:=q x hx y hy;omega⟩⟩;obtain⟨s',hG,hat⟩:=zF h g hg;refine hG.ap.imp_of_mem fun {a b} ha hb q=>⟨by have:=hat a ha b hb;omega,fun _ e=> ?_⟩;exact q.ap a.aO xZ (by rw [e];exact xZ)
section
variable {r0:aA} {ai:List ak} {s:aw}
theorem Du (i:Nat):((fQ r0 ai s).aa.getD i dm).pR=(r0.aa.getD i dm).pR:=by
 show ((kF r0.aa s.aa r0.aa.length).getD i dm).pR=_
 by_cases h:i<r0.aa.length
 ·rw [aQ (by rw [mH];exact h),aQ h,ke _ _ _ _ h,if_pos h];rfl
 ·simp [List.getD_eq_getElem?_getD,kF,h]
theorem Iw {x:aw}{w:Nat}{a:ak}:b7 (fQ r0 ai s) x w a=b7 r0 x w a:=by
 rw [du,du,Du];rfl
theorem zG:(fQ r0 ai s).aa.length=r0.aa.length:=mH _ _ _
theorem Ey {w:Nat}{a:ak}(h:AB r0 w a):AB (fQ r0 ai s) w a:=
 ⟨h.aO,h.wl,h.hand,h.kind,fun k=>by rw [zG];exact h.take k,h.pO,h.step,h.form⟩
theorem Dv:aJ (fQ r0 ai s)=aJ r0:=by
 unfold aJ;have:(fQ r0 ai s).aa.map eY=r0.aa.map eY:=by
  show (kF r0.aa s.aa r0.aa.length).map eY=_
  refine List.ext_getElem (by simp [kF]) fun j h1 h2=> ?_;have hj:j<r0.aa.length:=(by simpa using h2);rw [List.getElem_map,List.getElem_map,ke _ _ _ _ hj,if_pos hj];rfl
 rw [this];rfl
theorem Ix {x:aw}{g:List ak}(h:qW r0 x g):qW (fQ r0 ai s) x g:=⟨fun a ha=>⟨Ey (h.ab a ha).1,by rw [Iw];exact(h.ab a ha).2⟩,h.ap⟩
theorem Bv: ∀{gs:List (List ak)} {x:aw},JG r0 x gs→JG (fQ r0 ai s) x gs
 | [],_,_=>trivial
 |g::gs,x,h=>⟨⟨Ix h.1.1,h.1.2⟩,Bv h.2⟩
end
end
section
theorem iU {g:Nat→Int}: ∀{k i:Nat},(∀j,i≤j→j<i+k→g j=0)→bK g k i=0
 |0,_,_=>rfl
 |k+1,i,h=>by
  unfold bK;rw [h i (Nat.le_refl _) (by omega)];simp;exact iU fun j a b=>h j (by omega) (by omega)
theorem cS {x lo hi:Int}(h1:lo≤x)(h2:x≤hi):di x lo hi=true:=by simp [di,h1,h2]
theorem rz {w d:Int}(h1:1≤w*d)(h2:w*d≤1000000):cT w d=w*d-1:=by
 rw [An,dp (x:=w*d) (by omega) (by omega),dp (x:=w*d-1) (by omega) (by omega)]
theorem sH {r:aA}{w:Nat}{a:ak}(h:AB r w a)(h1:1≤r.wide*r.deep)(h2:r.wide*r.deep≤1000000):dX (cT r.wide r.deep) r.aa.length r.ah.length a=0:=by
 have hk:=h.kind;have hh:=h.hand;rw [ot,if_neg (by rw [cS hk.1 hk.2];simp),if_neg (by rw [h.form];simp),if_neg,if_neg (by rw [cS (by omega) (by omega)];simp),if_neg,if_neg,if_neg]
 ·rintro⟨k,e⟩;obtain⟨o,ho,_,hne⟩:=h.pO k;rw [ho,h.aO]at e;exact hne (by omega)
 ·rintro⟨k,e⟩;obtain⟨o,ho,hl,_⟩:=h.pO k;rw [ho,cS (by omega) (by omega)]at e;cases e
 ·rintro⟨k,e⟩;obtain⟨t,ht,hl⟩:=h.take k;rw [ht,cS (by omega) (by omega)]at e;cases e
 ·rintro⟨k,e⟩;obtain⟨c1,c2⟩:=h.step k;rw [rz h1 h2,cS c1 (by omega)]at e;cases e
section
variable {r0:aA} {ai:List ak} {s:aw} {m:Nat}
theorem mI.AB (h:mI r0 ai s m): ∀a∈ai,AB r0 a.aO.toNat a:=fun a ha=>by
 obtain⟨t,hM,_⟩:=h.made;obtain⟨gs,e,hT,_⟩:=hM.gs;rw [e]at ha;obtain⟨g,hg,ha⟩:=List.mem_flatten.1 ha;obtain⟨s',hG,_⟩:=zF hT g hg;exact(hG.ab a ha).1
theorem mI.ru (h:mI r0 ai s m):1≤r0.wide*r0.deep∧r0.wide*r0.deep≤9:=by
 obtain⟨n,hb,hn⟩:=Qo h.room;have:=hb.n0;have:=hb.n9;omega
theorem mI.empty (h:mI r0 ai s m):s.aq=s.aq.map fun _=>empty:=by
 obtain⟨t,hM,_⟩:=h.made;refine List.ext_getElem (by simp) fun j h1 h2=> ?_;have hj:j<r0.ah.length:=(by rw [←hM.snd.hl];exact h1);have a:=h.aq j 0 hj (.inl rfl);have b:=h.aq j 1 hj (.inr rfl);unfold aV at a b;rw [aQ h1]at a b;simp at a b;rw [List.getElem_map];cases hh:s.aq[j];rw [hh]at a b;simp only at a b;rw [a,b];rfl
theorem x6: ∀{l:List aG} {t:Nat},l=l.map (fun _=>empty)→fN l t=0
 | [],_,_=>rfl
 |x::l,t,h=>by
  rw [List.map_cons]at h;obtain⟨h1,h2⟩:=List.cons.inj h;have hn: ¬(-1:Int)=t:=(by omega);simp only [fN];rw [x6 h2,h1];simp [uk,Go.Gh.empty,hn]
theorem mI.ends (h:mI r0 ai s m)(t:Nat)(ht:t<r0.aa.length):(0≤(s.aa.getD t aR).cell∧(s.aa.getD t aR).cell<r0.wide*r0.deep)∧0≤(s.aa.getD t aR).state∧(s.aa.getD t aR).state<16:=by
 obtain⟨_,hM,_⟩:=h.made;have ht':t<s.aa.length:=(by rw [hM.snd.tl];exact ht);rcases hM.snd.th t ht' with ⟨a,_⟩|⟨_,a⟩
 ·rw [x6 h.empty]at a;cases a
 ·exact⟨a,hM.snd.st t ht'⟩
theorem Dw (h:mI r0 ai s m)(hm:m≤40):cv (fQ r0 ai s)=0:=by
 have A:=h.ru;have R:=h.room;have ar1:1≤(fQ r0 ai s).wide*(fQ r0 ai s).deep:=A.1;obtain⟨t,hM,htm⟩:=h.made;obtain⟨gs,e,hT,hP⟩:=hM.gs;have hpw:=Nj hT hP;rw [←e]at hpw;have top:cT r0.wide r0.deep=r0.wide*r0.deep-1:=rz A.1 (by omega);have tl:(fQ r0 ai s).aa.length=r0.aa.length:=zG;have hp0:0<r0.ah.length:=List.length_pos_iff.2 R.p0;have room:kx (fQ r0 ai s)=0:=by
  rw [kI,tl];show (if di r0.wide 1 6=false∨di r0.deep 1 6=false then (2:Int)else if r0.ah.length=0 then 6 else if 4<r0.ah.length then 8 else if bK (iO (cT r0.wide r0.deep) r0.ah) r0.ah.length 0≠0 then bK (iO (cT r0.wide r0.deep) r0.ah) r0.ah.length 0 else if 8<r0.aa.length then 8 else if bK (kn (cT r0.wide r0.deep) (fQ r0 ai s).aa) r0.aa.length 0≠0 then bK (kn (cT r0.wide r0.deep) (fQ r0 ai s).aa) r0.aa.length 0 else if bK (mq (fun x=>di x 0 (cT r0.wide r0.deep)) 7 r0.seen) r0.seen.length 0≠0 then bK (mq (fun x=>di x 0 (cT r0.wide r0.deep)) 7 r0.seen) r0.seen.length 0 else bK (mq (fun x=>di x 1 3) 4 r0.aX) r0.aX.length 0)=0
  have e1:=R.w1;have e2:=R.w3;have e3:=R.d1;have e4:=R.d3;have e5:=R.p3;have e6:=R.t4;have f1:bK (iO (cT r0.wide r0.deep) r0.ah) r0.ah.length 0=0:=iU fun j _ hj=>by
   have hj':j<r0.ah.length:=(by omega);have pc:=R.pc _ (List.getElem_mem hj');rw [oo,aQ hj',cS pc.1.1 pc.1.2,top,cS pc.2.1 (by omega)];simp only [Bool.true_eq_false,if_false];rw [if_neg];intro hs;unfold eK at hs;rw [List.any_eq_true]at hs;obtain⟨q,hq,he⟩:=hs;obtain⟨i,hi,rfl⟩:=List.mem_take_iff_getElem.1 hq;have hij:i<j:=(by omega);have hil:i<r0.ah.length:=(by omega);have:=List.pairwise_iff_getElem.1 R.pn i j (by simpa using hil) (by simpa using hj') hij;simp at this he;exact this he
  have f2:bK (kn (cT r0.wide r0.deep) (fQ r0 ai s).aa) r0.aa.length 0=0:=iU fun j _ hj=>by
   have hj':j<r0.aa.length:=(by omega);have tc:=R.tc _ (List.getElem_mem hj');obtain⟨t1,t2,t3,t4,t5,t6⟩:=tc;have E:=h.ends j hj';have g:(fQ r0 ai s).aa.getD j ⟨0,0,0,0,false⟩=Bw r0.aa[j] (s.aa.getD j aR):=by
    show (kF r0.aa s.aa r0.aa.length).getD j _=_
    rw [aQ (by rw [mH];exact hj'),ke _ _ _ _ hj',if_pos hj']
   have x1:di r0.aa[j].cell 0 (r0.wide*r0.deep-1)=true:=cS t1 (by omega);have x2:di (s.aa.getD j aR).cell 0 (r0.wide*r0.deep-1)=true:=cS E.1.1 (by omega);have x3:di r0.aa[j].state 0 15=true:=cS t3 (by omega);have x4:di (s.aa.getD j aR).state 0 15=true:=cS E.2.1 (by omega);generalize s.aa.getD j aR=sp at g x2 x4;rw [qf,g,top];simp [Bw,x1,x2,x3,x4]
  have f3:bK (mq (fun x=>di x 1 3) 4 r0.aX) r0.aX.length 0=0:=iU fun j _ hj=>by
   have hj':j<r0.aX.length:=(by omega);have lr:=R.lr _ (List.getElem_mem hj');rw [om,aQ hj',cS lr.1 (by omega)];simp only [Bool.true_eq_false,if_false];rw [if_neg];rintro⟨h0,hle⟩;rw [aQ (by omega)]at hle;have:=List.pairwise_iff_getElem.1 R.lp (j-1) j (by omega) hj' (by omega);omega
  rw [cS e1 (by omega),cS e3 (by omega),f1,f2,f3,R.seen];rw [if_neg (by simp),if_neg (by omega),if_neg (by omega),if_neg (by simp),if_neg (by omega),if_neg (by simp)];simp [bK]
 rw [iV,room];have hl: ¬40<(fQ r0 ai s).ai.length:=by show¬40<ai.length;have:=h.len;omega
 rw [if_neg (by simp),if_neg hl];refine iU fun j _ hj=> ?_;have hj':j<ai.length:=(by have:(fQ r0 ai s).ai.length=ai.length:=rfl;omega);have hA:=h.AB _ (List.getElem_mem hj');have hz:=hM.z _ (List.getElem_mem hj');have hlt:=hM.lt _ (List.getElem_mem hj');have hF:=sH (Ey (ai:=ai) (s:=s) hA) ar1 (by show r0.wide*r0.deep≤_;omega)
 have hwl:=hA.wl;have hwho:=hA.aO;rw [kW];show (if di (ai.getD j cg).ba 0 1000=false then (2:Int)else if 0<j∧(ai.getD j cg).ba<(ai.getD (j-1) cg).ba then 11 else if di (ai.getD j cg).aO 0 ((r0.ah.length:Int)-1)=false then 7 else if (ai.take j).any (ko (ai.getD j cg))=true then 12 else if dX (cT (fQ r0 ai s).wide (fQ r0 ai s).deep) (fQ r0 ai s).aa.length (fQ r0 ai s).ah.length (ai.getD j cg)≠0 then dX (cT (fQ r0 ai s).wide (fQ r0 ai s).deep) (fQ r0 ai s).aa.length (fQ r0 ai s).ah.length (ai.getD j cg)else if di (ai.getD j cg).cd 0 15=false∨di (ai.getD j cg).gR 0 9=false then 2 else 0)=0
 rw [aQ hj',cS hz.1 (by omega),cS (x:=ai[j].aO) (by omega) (by omega),hF,hz.2.1,hz.2.2];simp only [Bool.true_eq_false,if_false];rw [if_neg,if_neg]
 ·simp [di]
 ·intro hs;rw [List.any_eq_true]at hs;obtain⟨q,hq,he⟩:=hs;obtain⟨i,hi,rfl⟩:=List.mem_take_iff_getElem.1 hq;have hil:i<ai.length:=(by omega);have:=List.pairwise_iff_getElem.1 hpw i j hil hj' (by omega);unfold ko at he;simp at he;exact this.2 he.1 he.2
 ·rintro⟨h0,hle⟩;rw [aQ (by omega)]at hle;have:=(List.pairwise_iff_getElem.1 hpw (j-1) j (by omega) hj' (by omega)).1;omega
theorem Iy (h:mI r0 ai s m): ∃gs:List (List ak),ai=gs.flatten∧JG r0 (aJ r0) gs∧(gs.Pairwise fun g h=> ∀a∈g,∀b∈h,a.ba<b.ba)∧s=kY (aJ r0) ai∧
  dI (fQ r0 ai s)=(aJ r0::zE (aJ r0) gs,s,-1,0):=by
 obtain⟨t,hM,_⟩:=h.made;obtain⟨gs,e,hT,hP⟩:=hM.gs;refine⟨gs,e,hT,hP,hM.sc, ?_⟩;have run:=Bu (r:=fQ r0 ai s) gs ai.length (aJ r0) 0 (Bv hT) hP (by rw [←e];exact Nat.le_refl _);rw [←e,←hM.sc]at run;have ho:pN (fQ r0 ai s) s=true:=by
  rw [mA,decide_eq_true h.empty,Bool.true_and];refine decide_eq_true fun i hi=> ?_;have hi':i<r0.aa.length:=(by rwa [zG]at hi);have g:(fQ r0 ai s).aa.getD i dm=Bw r0.aa[i] (s.aa.getD i aR):=by
   show (kF r0.aa s.aa r0.aa.length).getD i _=_
   rw [aQ (by rw [mH];exact hi'),ke _ _ _ _ hi',if_pos hi']
  rw [g];rfl
 unfold dI;simp only [Dv];rw [show (fQ r0 ai s).ai=ai from rfl,run]
 simp [ho]
end
end
theorem fX {g:Nat→Int}: ∀{k i:Nat},bK g k i=0→ ∀j,i≤j→j<i+k→g j=0
 |0,_,_=>fun j a b=>by omega
 |k+1,i,h=>fun j a b=>by
  unfold bK at h;by_cases h0:g i=0
  ·by_cases e:j=i
   ·rw [e];exact h0
   ·refine fX (k:=k) (i:=i+1) ?_ j (by omega) (by omega);simpa [h0]using h
  ·simp [h0]at h
theorem gb {x lo hi:Int}(h:di x lo hi≠false):lo≤x∧x≤hi:=by
 cases e:di x lo hi with
 |false=>exact absurd e h
 |true=>exact pt.1 e
theorem bH {p:Prop} [Decidable p]{a b:Int}(ha:a≠0)(h:(if p then a else b)=0): ¬p∧b=0:=by
 by_cases hp:p
 ·rw [if_pos hp]at h;exact absurd h ha
 ·rw [if_neg hp]at h;exact⟨hp,h⟩
theorem ite_self {a b:Int}(h:(if a≠0 then a else b)=0):a=0∧b=0:=by
 by_cases hp:a≠0
 ·rw [if_pos hp]at h;exact absurd h hp
 ·rw [if_neg hp]at h;exact⟨by simpa using hp,h⟩
structure vY (r:aA):Prop where
 w:1≤r.wide∧r.wide≤6
 d:1≤r.deep∧r.deep≤6
 p0:r.ah≠[]
 p4:r.ah.length≤4
 t8:r.aa.length≤8
 pc: ∀p∈r.ah,0≤p.cell∧p.cell<r.wide*r.deep
 pn:(r.ah.map (·.cell)).Nodup
 tc: ∀t∈r.aa,(0≤t.cell∧t.cell<r.wide*r.deep)∧0≤t.state∧t.state<16
 ls: ∀x∈r.aX,1≤x∧x≤3
theorem vY.ru {r:aA}(h:vY r):1≤r.wide*r.deep∧r.wide*r.deep≤36:=by
 have h1:=h.w;have h2:=h.d;constructor
 ·have:=Int.mul_le_mul h1.1 h2.1 (by omega) (by omega);omega
 ·have:=Int.mul_le_mul h1.2 h2.2 (by omega) (by omega);omega
theorem Ej {r:aA}(h:kx r=0):vY r:=by
 rw [kI]at h;obtain⟨h1,h⟩:=bH (by decide) h;obtain⟨h2,h⟩:=bH (by decide) h;obtain⟨h3,h⟩:=bH (by decide) h;obtain⟨h4,h⟩:=ite_self h;obtain⟨h5,h⟩:=bH (by decide) h;obtain⟨h6,h⟩:=ite_self h;obtain⟨h7,h8⟩:=ite_self h;have w:=gb (fun e=>h1 (.inl e));have d:=gb (fun e=>h1 (.inr e));have ar:1≤r.wide*r.deep∧r.wide*r.deep≤36:=by
  constructor
  ·have:=Int.mul_le_mul w.1 d.1 (by omega) (by omega);omega
  ·have:=Int.mul_le_mul w.2 d.2 (by omega) (by omega);omega
 have top:cT r.wide r.deep=r.wide*r.deep-1:=rz ar.1 (by omega);rw [top]at h4 h6;have P: ∀j (hj:j<r.ah.length),(0≤r.ah[j].cell∧r.ah[j].cell<r.wide*r.deep)∧eK r.ah j r.ah[j].cell=false:=fun j hj=>by
  have e:=fX h4 j (Nat.zero_le _) (by omega);rw [oo,aQ hj]at e;obtain⟨_,e⟩:=bH (by decide) e;obtain⟨e2,e⟩:=bH (by decide) e;obtain⟨e3,_⟩:=bH (by decide) e;have:=gb e2;exact⟨⟨this.1,by omega⟩,by simpa using e3⟩
 refine⟨w,d,fun e=>h2 (by rw [e];rfl),by omega,by omega,fun p hp=> ?_, ?_,fun t ht=> ?_,fun x hx=> ?_⟩
 ·obtain⟨j,hj,rfl⟩:=List.getElem_of_mem hp;exact(P j hj).1
 ·rw [List.Nodup,List.pairwise_iff_getElem];intro i j hi hj hij;simp only [List.length_map]at hi hj;simp only [List.getElem_map];intro e;have:=(P j hj).2;unfold eK at this;rw [List.any_eq_false]at this;exact this r.ah[i] (List.mem_take_iff_getElem.2 ⟨i,by omega,rfl⟩) (by simpa using e)
 ·obtain⟨j,hj,rfl⟩:=List.getElem_of_mem ht;have e:=fX h6 j (Nat.zero_le _) (by omega);rw [qf,aQ hj]at e;obtain⟨e1,e⟩:=bH (by decide) e;obtain⟨e2,_⟩:=bH (by decide) e;have a:=gb (fun x=>e1 (.inl x));have b:=gb (fun x=>e2 (.inl x));exact⟨⟨a.1,by omega⟩,b.1,by omega⟩
 ·obtain⟨j,hj,rfl⟩:=List.getElem_of_mem hx;have e:=fX h8 j (Nat.zero_le _) (by omega);rw [om,aQ hj]at e;obtain⟨e1,_⟩:=bH (by decide) e;exact gb e1
theorem Nk {r:aA}(h:vY r){a:ak}(hw:0≤a.aO∧a.aO<r.ah.length)(hf:dX (cT r.wide r.deep) r.aa.length r.ah.length a=0):AB r a.aO.toNat a:=by
 have ar:=h.ru;rw [rz ar.1 (by omega),ot]at hf;obtain⟨h1,hf⟩:=bH (by decide) hf;obtain⟨h2,hf⟩:=bH (by decide) hf;obtain⟨h3,hf⟩:=bH (by decide) hf;obtain⟨h4,hf⟩:=bH (by decide) hf;obtain⟨h5,hf⟩:=bH (by decide) hf;obtain⟨h6,hf⟩:=bH (by decide) hf;obtain⟨h7,_⟩:=bH (by decide) hf;have k:=gb h1;have hd:=gb h4;refine⟨by omega,by omega,by omega,k,fun e=> ?_,fun e=> ?_,fun e=> ?_,by simpa using h2⟩
 ·have:=gb (fun x=>h5 ⟨e,x⟩);exact⟨a.bf.toNat,by omega,by omega⟩
 ·have:=gb (fun x=>h6 ⟨e,x⟩);have h7': ¬a.other=a.aO:=fun x=>h7 ⟨e,x⟩;exact⟨a.other.toNat,by omega,by omega,by omega⟩
 ·have:=gb (fun x=>h3 ⟨e,x⟩);exact⟨this.1,by omega⟩
structure ZS (r:aA):Prop where
 n:r.ai.length≤40
 ab: ∀a∈r.ai,AB r a.aO.toNat a
 tm: ∀a∈r.ai,0≤a.ba∧a.ba≤1000
 pw:r.ai.Pairwise fun a b=>a.ba≤b.ba∧(a.ba=b.ba→a.aO≠b.aO)
theorem lK {r:aA}(h:cv r=0):vY r∧ZS r:=by
 rw [iV]at h;obtain⟨h1,h⟩:=ite_self h;obtain⟨h2,h⟩:=bH (by decide) h;have R:=Ej h1;have A: ∀j (hj:j<r.ai.length),AB r r.ai[j].aO.toNat r.ai[j]∧(0≤r.ai[j].ba∧r.ai[j].ba≤1000)∧(0<j→(r.ai.getD (j-1) cg).ba≤r.ai[j].ba)∧(r.ai.take j).any (ko r.ai[j])=false:=fun j hj=>by
  have e:=fX h j (Nat.zero_le _) (by omega);rw [kW,aQ hj]at e;obtain⟨e1,e⟩:=bH (by decide) e;obtain⟨e2,e⟩:=bH (by decide) e;obtain⟨e3,e⟩:=bH (by decide) e;obtain⟨e4,e⟩:=bH (by decide) e;obtain⟨e5,e⟩:=ite_self e;have w:=gb e3;refine⟨Nk R ⟨w.1,by omega⟩ e5,gb e1,fun h0=> ?_,by simpa using e4⟩;have: ¬r.ai[j].ba<(r.ai.getD (j-1) cg).ba:=fun x=>e2 ⟨h0,x⟩;omega
 have mono: ∀i j (hi:i<r.ai.length) (hj:j<r.ai.length),i<j→r.ai[i].ba≤r.ai[j].ba:=fun i j=>by
  induction j with
  |zero=>intro _ _ h;omega
  |succ j ih=>
   intro hi hj hij;have s:=(A (j+1) hj).2.2.1 (by omega);rw [Nat.add_sub_cancel,aQ (by omega)]at s;by_cases e:i=j
   ·subst e;exact s
   ·have:=ih hi (by omega) (by omega);omega
 refine⟨R,by omega,fun a ha=> ?_,fun a ha=> ?_, ?_⟩
 ·obtain⟨j,hj,rfl⟩:=List.getElem_of_mem ha;exact(A j hj).1
 ·obtain⟨j,hj,rfl⟩:=List.getElem_of_mem ha;exact(A j hj).2.1
 ·rw [List.pairwise_iff_getElem];intro i j hi hj hij;refine⟨mono i j hi hj hij,fun e1 e2=> ?_⟩;have:=(A j hj).2.2.2;rw [List.any_eq_false]at this;refine this r.ai[i] (List.mem_take_iff_getElem.2 ⟨i,by omega,rfl⟩) ?_;unfold ko;simp [e1,e2]
theorem Dx {r:aA}(h:vY r):fT r (aJ r):=by
 have ce: ∀l:List aS,∀t:Nat,fN (l.map fun _=>empty) t=0:=fun l t=>by
  induction l with
  |nil=>rfl
  |cons a l ih=>
   have: ¬(-1:Int)=t:=(by omega);simp only [List.map_cons,fN,ih];simp [uk,empty,this]
 refine {pl:=by simp [aJ],hl:=by simp [aJ],tl:=by simp [aJ],hr:=fun i hi=> ?_,pr:=fun x hx=> ?_,pn:=h.pn,th:=fun t ht=> ?_,st:=fun t ht=> ?_}
 ·simp only [aJ,List.getElem_map,empty,List.length_map];omega
 ·simp only [aJ,List.mem_map]at hx;obtain⟨p,hp,rfl⟩:=hx;exact h.pc p hp
 ·have ht':t<r.aa.length:=(by simpa [aJ]using ht);have e:((aJ r).aa.getD t aR)=eY r.aa[t]:=by
   rw [aQ ht];simp [aJ]
  rw [e];exact .inr ⟨ce _ _,(h.tc _ (List.getElem_mem ht')).1.1,(h.tc _ (List.getElem_mem ht')).1.2⟩
 ·have ht':t<r.aa.length:=(by simpa [aJ]using ht);have e:((aJ r).aa.getD t aR)=eY r.aa[t]:=by
   rw [aQ ht];simp [aJ]
  rw [e];exact⟨(h.tc _ (List.getElem_mem ht')).2.1,(h.tc _ (List.getElem_mem ht')).2.2⟩
theorem zH {r:aA}(h:cv r=0)(sh:gL r):Dl r:=by
 obtain⟨R,A⟩:=lK h;have ar:=R.ru;have w:=R.w;have:=R.p4;have:=R.t8;have:=A.n;exact {w:=⟨w.1,by omega,by omega,by omega,by omega⟩,snd:=Dx R,p0:=R.p0,al:=by omega,ab:=A.ab,sh:=sh,ck:=h}
section
variable {c:Nat} {H:aj}
theorem sJ {r:aA}: ∀(k:Nat) (s:aw) (ai:List ak) (i:Nat),(s::(bG r k s ai i).1).getD (bG r k s ai i).1.length s=(bG r k s ai i).2.1
 |0,s,_,_=>rfl
 |_+1,s,[],_=>rfl
 |k+1,s,a::rest,i=>by
  unfold bG;simp only;split
  ·rfl
  ·rename_i h;have:=sJ (r:=r) k (cK r s ((a::rest).takeWhile (a8 a)) [] s 0).1 ((a::rest).drop ((a::rest).takeWhile (a8 a)).length) (i+((a::rest).takeWhile (a8 a)).length);rw [←this];simp [List.getD_eq_getElem?_getD]
end
section
variable {c:Nat} {H:aj}
end
section
variable {c:Nat} {H:aj}
end
section
variable {c:Nat} {H:aj}
noncomputable def Nl (r:aA):PV:= .tuple (if cv r=0 then (if (dI r).2.2.2=0 then [.agg (dI r).2.1.row, .int .i64 (-1), .int .i64 0]else [.agg [.slice [], .slice [], .slice []], .int .i64 (dI r).2.2.1, .int .i64 (dI r).2.2.2])else [.agg [.slice [], .slice [], .slice []], .int .i64 0, .int .i64 (cv r)])
noncomputable def Nn (r:aA):PV:= .tuple (if cv r=0 then (if (dI r).2.2.2=0 then [.slice ((dI r).1.map aw.row), .int .i64 0]else [.slice [], .int .i64 (dI r).2.2.2])else [.slice [], .int .i64 (cv r)])
theorem AD {r:aA}(sh:gL r)(hH:0<H.length):bI KC (aE KC) 15 [.pure (.agg r.row)] c H=some (.pure (Nl r),H):=by
 unfold Nl;by_cases h0:cv r=0
 ·rw [if_pos h0];exact Nf (zH h0 sh) hH
 ·rw [if_neg h0];refine aM (aK KC au Tryz.func15 rfl rfl Hi (by simp) hH ?_);have C:=fun c (H:aj) (hH:0<H.length)=>rO (c:=c) (H:=H) r sh.s sh.l sh.p sh.t sh.a hH;have he':(cv r !=0)=true:=(by simpa using h0);rw [eE]at C⊢;simp [C,he',aD];rw [ae (by simp)];simp
theorem Bx {r:aA}(sh:gL r)(hH:0<H.length):bI KC (aE KC) 17 [.pure (.agg r.row)] c H=some (.pure (Nn r),H):=by
 unfold Nn;by_cases h0:cv r=0
 ·rw [if_pos h0];exact Dm (zH h0 sh) hH
 ·rw [if_neg h0];refine aM (aK KC au Tryz.func17 rfl rfl Hj (by simp) hH ?_);have C:=fun c (H:aj) (hH:0<H.length)=>rO (c:=c) (H:=H) r sh.s sh.l sh.p sh.t sh.a hH;have he':(cv r !=0)=true:=(by simpa using h0);rw [eE]at C⊢;simp [C,he',aD];rw [ae (by simp)];simp
end
section
variable {c:Nat} {H:aj}
theorem xv {rows:List (List PV)}:cn (if rows=[]then .aW else .pure (.slice rows))= .pure (.slice rows):=by
 split
 ·rename_i h;subst h;rfl
 ·rfl
end
section
variable {c:Nat} {H:aj}
theorem Iz (l:List aS)(hn:l.length≤1000000){F:Fr}(hf:F.get (ao c 7)=none):
  aL KC (aE KC) 102 [.pure (.slice (l.map aS.row))] c (F::H)=some (cY (H.length,ao c 7) 2 (l.map aS.row),eG (ao c 7) 2 (l.map aS.row) F::H):=by
 by_cases h:l=[]
 ·subst h;unfold aL;rw [show KC.wP 102=true from rfl]
  simp [jy,fI,fJ]
 ·have h':l.map aS.row≠[]:=(by simpa using h);rw [vZ (c:=c) (H:=F::H) l h hn (by simp) (by simpa using hf)];unfold cY eG;rw [if_neg h',if_neg h'];simp
theorem IA (l:List aZ)(hn:l.length≤1000000){F:Fr}(hf:F.get (ao c 7)=none):
  aL KC (aE KC) 103 [.pure (.slice (l.map aZ.row))] c (F::H)=some (cY (H.length,ao c 7) 5 (l.map aZ.row),eG (ao c 7) 5 (l.map aZ.row) F::H):=by
 by_cases h:l=[]
 ·subst h;unfold aL;rw [show KC.wP 103=true from rfl]
  simp [jy,fI,fJ]
 ·have h':l.map aZ.row≠[]:=(by simpa using h);rw [w8 (c:=c) (H:=F::H) l h hn (by simp) (by simpa using hf)];unfold cY eG;rw [if_neg h',if_neg h'];simp
theorem Bz (l:List Int)(hn:l.length≤1000000){F:Fr}(hf:F.get (ao c 7)=none):
  aL KC (aE KC) 99 [.pure (.slice (l.map aF))] c (F::H)=some (cY (H.length,ao c 7) 1 (l.map aF),eG (ao c 7) 1 (l.map aF) F::H):=by
 by_cases h:l=[]
 ·subst h;unfold aL;rw [show KC.wP 99=true from rfl]
  simp [jy,fI,fJ]
 ·have h':l.map aF≠[]:=(by simpa using h);rw [o7 (c:=c) (H:=F::H) l h hn (by simp) (by simpa using hf)];unfold cY eG;rw [if_neg h',if_neg h'];simp
theorem Aw (l:List ak)(hn:l.length≤1000000){F:Fr}(hf:F.get (ao c 7)=none):
  aL KC (aE KC) 75 [.pure (.slice (l.map ak.row))] c (F::H)=some (cY (H.length,ao c 7) 9 (l.map ak.row),eG (ao c 7) 9 (l.map ak.row) F::H):=by
 by_cases h:l=[]
 ·subst h;unfold aL;rw [show KC.wP 75=true from rfl]
  simp [jy,fI,fJ]
 ·have h':l.map ak.row≠[]:=(by simpa using h);rw [tM (c:=c) (H:=F::H) l h hn (by simp) (by simpa using hf)];unfold cY eG;rw [if_neg h',if_neg h'];simp
theorem MB (r:aA)(h:gL r)(ai:List ak)(hal:ai.length≤1000000)(hH:0<H.length):
  aL KC (aE KC) 65 [.pure (.agg r.row), .pure (.slice (ai.map ak.row))] c H=some (.pure (.agg ({r with ai:=ai}:aA).row),H):=by
 refine aM (bd KC au Tryz.func65 rfl rfl Td rfl rfl rfl (by simp) hH ?_);rw [eE];have h1:=h.p;have h2:=h.t;have h4:=h.s;have h5:=h.l;have m1:ao 7 7=28680:=(by decide);have m2:ao 10 7=28683:=(by decide);have m3:ao 13 7=28686:=(by decide);have m4:ao 16 7=28689:=(by decide);have m5:ao 18 7=28691:=(by decide);have C1:=fun(F:Fr) hf=>Iz (c:=7) (H:=H) (F:=F) r.ah h1 hf;have C2:=fun(F:Fr) hf=>IA (c:=10) (H:=H) (F:=F) r.aa h2 hf;have C3:=fun(F:Fr) hf=>Bz (c:=13) (H:=H) (F:=F) r.seen h4 hf;have C4:=fun(F:Fr) hf=>Bz (c:=16) (H:=H) (F:=F) r.aX h5 hf;have C5:=fun(F:Fr) hf=>Aw (c:=18) (H:=H) (F:=F) ai hal hf;rw [m1]at C1;rw [m2]at C2;rw [m3]at C3;rw [m4]at C4;rw [m5]at C5;simp [C1,C2,C3,C4,C5,aD];generalize hx:dE.box [.pure (.int .i64 r.wide), .pure (.int .i64 r.deep),cY (H.length,28680) 2 (r.ah.map aS.row),cY (H.length,28683) 5 (r.aa.map aZ.row),cY (H.length,28686) 1 (r.seen.map aF),cY (H.length,28689) 1 (r.aX.map aF),cY (H.length,28691) 9 (ai.map ak.row)]=x;obtain⟨F,hF⟩: ∃F,eG 28691 9 (ai.map ak.row) (eG 28689 1 (r.aX.map aF) (eG 28686 1 (r.seen.map aF) (eG 28683 5 (r.aa.map aZ.row) (eG 28680 2 (r.ah.map aS.row) [(2,x),(4,x)]))))=F:=⟨_,rfl⟩;have g1:r.ah.map aS.row≠[]→F.get 28680=some (.arr 2 (r.ah.map aS.row) 0 false):=fun h=>by
  rw [←hF,bQ (by decide),bQ (by decide),bQ (by decide),bQ (by decide),cV h]
 have g2:r.aa.map aZ.row≠[]→F.get 28683=some (.arr 5 (r.aa.map aZ.row) 0 false):=fun h=>by
  rw [←hF,bQ (by decide),bQ (by decide),bQ (by decide),cV h]
 have g3:r.seen.map aF≠[]→F.get 28686=some (.arr 1 (r.seen.map aF) 0 false):=fun h=>by
  rw [←hF,bQ (by decide),bQ (by decide),cV h]
 have g4:r.aX.map aF≠[]→F.get 28689=some (.arr 1 (r.aX.map aF) 0 false):=fun h=>by
  rw [←hF,bQ (by decide),cV h]
 have g5:ai.map ak.row≠[]→F.get 28691=some (.arr 9 (ai.map ak.row) 0 false):=fun h=>by
  rw [←hF,cV h]
 rw [hF,ae (by simp),gB];have lt:H.length-1<H.length:=(by omega);rw [py];have e:canon (cW ([.pure (.int .i64 r.wide), .pure (.int .i64 r.deep),cY (H.length,28680) 2 (r.ah.map aS.row),cY (H.length,28683) 5 (r.aa.map aZ.row),cY (H.length,28686) 1 (r.seen.map aF),cY (H.length,28689) 1 (r.aX.map aF),cY (H.length,28691) 9 (ai.map ak.row)].map (cH (F::H) (H.length-1))))= .pure (.agg ({r with ai:=ai}:aA).row):=by
  refine oB ?_;simp only [List.map_cons,List.map_nil,lN,dc rfl lt g1,dc rfl lt g2,dc rfl lt g3,dc rfl lt g4,dc rfl lt g5,xv];rfl
 rw [e]
end
section
variable {c:Nat} {H:aj}
end
section
variable {c:Nat} {H:aj}
end
section
variable {c:Nat} {H:aj}
end
section
variable {c:Nat} {H:aj}
def qh (f f':Fr):Prop:=(f.jr→f'.jr)∧ ∀k,f'.get k=f.get k∨ ∃es rows v ro,f.get k=some (.arr es rows v ro)∧f'.get k=some (.arr es rows v true)
theorem qh.refl (f:Fr):qh f f:=⟨id,fun _=> .inl rfl⟩
theorem qh.trans {a b d:Fr}(h1:qh a b)(h2:qh b d):qh a d:=by
 refine⟨fun h=>h2.1 (h1.1 h),fun k=> ?_⟩;rcases h1.2 k with e1|⟨es,rows,v,ro,x1,y1⟩
 ·rcases h2.2 k with e2|⟨es,rows,v,ro,x2,y2⟩
  ·exact .inl (e2.trans e1)
  ·exact .inr ⟨es,rows,v,ro,e1▸x2,y2⟩
 ·rcases h2.2 k with e2|⟨es',rows',v',ro',x2,y2⟩
  ·exact .inr ⟨es,rows,v,ro,x1,e2.trans y1⟩
  ·rw [y1]at x2;cases x2;exact .inr ⟨es,rows,v,ro,x1,y2⟩
theorem qh.box {f f':Fr}(h:qh f f'){k:Nat}{cs:List GV}(hk:f.get k=some (.box cs)):f'.get k=some (.box cs):=by
 rcases h.2 k with e|⟨es,rows,v,ro,x,y⟩
 ·rw [e,hk]
 ·rw [hk]at x;cases x
theorem qh.none {f f':Fr}(h:qh f f'){k:Nat}(hk:f.get k=none):f'.get k=none:=by
 rcases h.2 k with e|⟨es,rows,v,ro,x,y⟩
 ·rw [e,hk]
 ·rw [hk]at x;cases x
theorem qh.empty {f':Fr}(h:qh [] f'):f'=[]:=by
 cases f' with
 |nil=>rfl
 |cons x r=>
  obtain⟨k,b⟩:=x;have:=h.none (k:=k) rfl;simp at this
inductive nS:aj→aj→Prop
 |nil:nS [] []
 |cons {f f':Fr} {H H':aj} (h:qh f f') (t:nS H H'):nS (f::H) (f'::H')
theorem nS.refl: ∀H:aj,nS H H
 | []=> .nil
 |f::H=> .cons (qh.refl f) (nS.refl H)
theorem nS.trans {A B D:aj}(h1:nS A B)(h2:nS B D):nS A D:=by
 induction h1 generalizing D with
 |nil=>exact h2
 |cons h t ih=>cases h2 with|cons h' t'=>exact .cons (h.trans h') (ih t')
theorem nS.len {A B:aj}(h:nS A B):B.length=A.length:=by
 induction h with
 |nil=>rfl
 |cons _ _ ih=>simp [ih]
theorem nS.get {A B:aj}(h:nS A B)(nm:Nm):B.get nm=A.get nm∨ ∃es rows v ro,A.get nm=some (.arr es rows v ro)∧B.get nm=some (.arr es rows v true):=by
 induction h with
 |nil=>exact .inl rfl
 | @cons f f' H H' h t ih=>
  have hl:=t.len;rw [aj.fb,aj.fb,hl];by_cases e:nm.1=H.length
  ·rw [if_pos e,if_pos e];exact h.2 nm.2
  ·rw [if_neg e,if_neg e];exact ih
theorem nS.sim {A B:aj}(h:nS A B):j5 A B:=fun nm es rows v ro hg=>by
 rcases h.get nm with e|⟨es',rows',v',ro',x,y⟩
 ·exact⟨ro,e.trans hg⟩
 ·rw [hg]at x;cases x;exact⟨true,y⟩
theorem qh.ins {f:Fr}{k es:Nat}{rows:List (List PV)}{v:Nat}{ro:Bool}(h:f.get k=some (.arr es rows v ro)):qh f (f.ins k (.arr es rows v true)):=by
 refine⟨fun hs=>Fr.dZ hs,fun j=> ?_⟩;by_cases e:j=k
 ·subst e;exact .inr ⟨es,rows,v,ro,h,Fr.bJ ..⟩
 ·exact .inl (Fr.az _ e _)
theorem nS.set {nm:Nm}{es:Nat}{rows:List (List PV)}{v:Nat}{ro:Bool}: ∀{H:aj},H.get nm=some (.arr es rows v ro)→nS H (H.set nm (.arr es rows v true))
 | [],h=>by simp [aj.get]at h
 |f::H,h=>by
  rw [aj.fb]at h;simp only [aj.set];by_cases e:nm.1=H.length
  ·rw [if_pos e]at h⊢;exact .cons (qh.ins h) (nS.refl H)
  ·rw [if_neg e]at h⊢;exact .cons (qh.refl f) (nS.set h)
theorem v5 (H:aj)(g:GV):nS H (dY H g).2:=by
 cases g with
 |bc nm es top lo len=>
  simp only [dY,dH]
  cases hg:H.get nm with
  |none=>exact nS.refl H
  |some b=>
   cases b with
   |arr es' elems vf ro=>
    simp only;split
    ·exact nS.set hg
    ·exact nS.refl H
   |_=>exact nS.refl H
 |_=>exact nS.refl H
theorem tN: ∀(l:List GV) (H:aj),nS H (gA H l).2
 | [],H=>nS.refl H
 |g::l,H=>(v5 H g).trans (tN l _)
theorem xo (H:aj)(g:GV):nS H (dy H g).2:=by
 cases g with
 |agg l=>exact tN l H
 |_=>exact v5 H _
theorem r5: ∀(l:List PV) (H:aj),bs H (l.map .pure)=(l.map .pure,H)
 | [],H=>rfl
 |p::l,H=>by
  rw [List.map_cons];simp only [bs];have e:dy H (.pure p)=(.pure p,H):=rfl;rw [e];simp only [r5 l H]
end
section
variable {c:Nat} {H:aj}
theorem j3 {f:FuncId}(h1:KC.wP f=false)(h2:KC.Af f=false)(h3:KC.EO f=true)(ps:List PV):aL KC (aE KC) f (ps.map .pure) c H=bI KC (aE KC) f (ps.map .pure) c H:=by
 rw [jK h1 h2 h3,r5]
end
section
variable {c:Nat} {H:aj}
noncomputable def oc:aA→Int:=nO fun r=>if cv r=0 then (dI r).2.2.2 else cv r
theorem oA (r:aA):oc r=if cv r=0 then (dI r).2.2.2 else cv r:=by rw [oc,cP]
theorem HK {r:aA}: ∃(s:aw) (n:Int),Nl r= .tuple [.agg s.row, .int .i64 n, .int .i64 (oc r)]:=by
 unfold Nl;rw [oA];by_cases h0:cv r=0
 ·rw [if_pos h0,if_pos h0];by_cases he:(dI r).2.2.2=0
  ·rw [if_pos he,he];exact⟨_,_,rfl⟩
  ·rw [if_neg he];exact⟨⟨[],[],[]⟩,_,rfl⟩
 ·rw [if_neg h0,if_neg h0];exact⟨⟨[],[],[]⟩,0,rfl⟩
noncomputable def Az:aA→Int→Int→Int:=nO fun r act kind=>
 if oc r≠0 then oc r else if di act 0 ((r.ai.length:Int)-1)=false then 7 else if di kind 1 3=false then 4 else if kind=2∧(r.ai.getD act.toNat cg).kind=1 then 3 else 0
theorem zI (r:aA)(act kind:Int):Az r act kind=if oc r≠0 then oc r else if di act 0 ((r.ai.length:Int)-1)=false then 7 else if di kind 1 3=false then 4 else if kind=2∧(r.ai.getD act.toNat cg).kind=1 then 3 else 0:=by rw [Az,cP]
theorem u4 {r:aA}(sh:gL r)(act kind:Int)(hH:0<H.length):
  bI KC (aE KC) 69 [.pure (.agg r.row), .pure (.int .i64 act), .pure (.int .i64 kind)] c H=some (.pure (.int .i64 (Az r act kind)),H):=by
 refine aM (aK KC au Tryz.func69 rfl rfl Te (by simp) hH ?_);have R:=fun(c:Nat) (H:aj) (hH:0<H.length)=>(j3 (f:=15) (c:=c) (H:=H) rfl rfl rfl [.agg r.row]).trans (AD (c:=c) sh hH);obtain⟨s,n,hs⟩:=HK (r:=r);rw [hs]at R;have I:=fun(c:Nat) (x lo hi:Int) (H:aj) (hH:0<H.length)=>c8 (c:=c) (x:=x) (lo:=lo) (hi:=hi) (H:=H) hH;have ha:=sh.a;have hw:IntKind.i64.wrap ((r.ai.length:Int)-1)=(r.ai.length:Int)-1:=dp (by omega) (by omega);simp only [List.map_cons,List.map_nil]at R;rw [eE]at R⊢;rw [zI];unfold aw.row at R;by_cases he:oc r=0
 ·rw [he]at R⊢;by_cases h1:di act 0 ((r.ai.length:Int)-1)=true
  ·obtain⟨a1,a2⟩:=pt.1 h1;obtain⟨k,rfl⟩:=Int.eq_ofNat_of_zero_le a1;have hk:k<r.ai.length:=(by omega);have hg:r.ai.getD k cg=r.ai[k]:=aQ hk;by_cases h2:di kind 1 3=true
   ·by_cases h3:kind=2
    ·subst h3;have h2':di 2 1 3=true:=(by decide);by_cases h4:r.ai[k].kind=1
     ·simp [R,I,hw,h1,h2',hk,ak.row,h4,ae,aD,hg]
     ·have h4':(r.ai[k].kind==1)=false:=(by simpa using h4);simp [R,I,hw,h1,h2',hk,ak.row,h4,h4',ae,aD,hg]
    ·have h3':(kind==2)=false:=(by simpa using h3);simp [R,I,hw,h1,h2,h3,h3',ae,aD]
   ·have h2':di kind 1 3=false:=(by simpa using h2);simp [R,I,hw,h1,h2',ae,aD]
  ·have h1':di act 0 ((r.ai.length:Int)-1)=false:=(by simpa using h1);simp [R,I,hw,h1',ae,aD]
 ·have he':(oc r !=0)=true:=(by simpa using he);simp [R,he,he',ae,aD]
end
section
variable {c:Nat} {H:aj}
end
section
variable {c:Nat} {H:aj}
def Au (H:aj)(fr:Fr)(g:GV)(A:List ak):Prop:=
 (g= .aW∧A=[])∨(A≠[]∧ ∃key v,g= .bc (H.length,key) 9 A.length 0 A.length∧fr.get key=some (.arr 9 (A.map ak.row) v false)∧v≤A.length)
theorem HE {key:Nat} {fr:Fr} {g:GV} {A:List ak} (a:ak) (L:Au H fr g A) (hf:fr.get key=none) (hn:A.length+1≤1000000) (R:GV×aj→Prop)
  (h: ∀g' fr',Au H fr' g' (A++[a])→(∀q top,g'= .bc (H.length,q) 9 top 0 top→q=key∨ ∃top,g= .bc (H.length,q) 9 top 0 top)→(∀k,k≠key→(∀top,g≠ .bc (H.length,k) 9 top 0 top)→fr'.get k=fr.get k)→R (g',fr'::H)):
  mm (yH H.length key g 9 72 [a.row] (fr::H)) R:=by
 rcases L with ⟨rfl,rfl⟩|⟨hne,cZ,v,rfl,hg,hv⟩
 ·have hm: ¬H.length+1≤H.length:=(by omega);have:=h (.bc (H.length,key) 9 1 0 1) (fr.ins key (.arr 9 [a.row] 0 false)) (Or.inr ⟨by simp,key,0,rfl,Fr.bJ _ _ _,Nat.zero_le _⟩) (fun q top e=>by cases e;exact Or.inl rfl) (fun k hk _=>Fr.az _ hk _);simp [hf,hm];exact this
 ·have hb:(A.length+1)*72≤1099511627776:=(by omega);have:=h (.bc (H.length,cZ) 9 (A.length+1) 0 (A.length+1)) (fr.ins cZ (.arr 9 (A.map ak.row++[a.row]) v false)) (Or.inr ⟨by simp,cZ,v,by simp,by rw [Fr.bJ];simp,by simp;omega⟩) (fun q top e=>by cases e;exact Or.inr ⟨_,rfl⟩) (fun k _ hk=>Fr.az _ (fun e=>by subst e;exact hk _ rfl) _);simp [hg,hv,hb];exact this
theorem Au.cl {fr:Fr}{g:GV}{A:List ak}(h:Au H fr g A)(X:aj):clean X H.length g=g:=by
 rcases h with ⟨rfl,rfl⟩|⟨hne,key,v,rfl,hg,hv⟩<;>simp
end
section
variable {c:Nat} {H:aj}
end
section
variable {c:Nat} {H:aj}
theorem Ei {key:Nat} {fr X:Fr} {g:GV} {A:List ak} (a:ak) (L:Au H fr g A) (hf:g= .aW→fr.get key=none) (hn:A.length+1≤1000000) (R:GV×aj→Prop)
  (h: ∀g' fr',Au H fr' g' (A++[a])→(∀q top,g'= .bc (H.length,q) 9 top 0 top→q=key∨ ∃top,g= .bc (H.length,q) 9 top 0 top)→(∀k,k≠key→(∀top,g≠ .bc (H.length,k) 9 top 0 top)→fr'.get k=fr.get k)→R (g',X::fr'::H)):
  mm (yH H.length key g 9 72 [a.row] (X::fr::H)) R:=by
 rcases L with ⟨rfl,rfl⟩|⟨hne,cZ,v,rfl,hg,hv⟩
 ·have hm: ¬H.length+1+1≤H.length:=(by omega);have:=h (.bc (H.length,key) 9 1 0 1) (fr.ins key (.arr 9 [a.row] 0 false)) (Or.inr ⟨by simp,key,0,rfl,Fr.bJ _ _ _,Nat.zero_le _⟩) (fun q top e=>by cases e;exact Or.inl rfl) (fun k hk _=>Fr.az _ hk _);simp [hf rfl,hm];exact this
 ·have hb:(A.length+1)*72≤1099511627776:=(by omega);have:=h (.bc (H.length,cZ) 9 (A.length+1) 0 (A.length+1)) (fr.ins cZ (.arr 9 (A.map ak.row++[a.row]) v false)) (Or.inr ⟨by simp,cZ,v,by simp,by rw [Fr.bJ];simp,by simp;omega⟩) (fun q top e=>by cases e;exact Or.inr ⟨_,rfl⟩) (fun k _ hk=>Fr.az _ (fun e=>by subst e;exact hk _ rfl) _);simp [hg,hv,hb];exact this
def TG (H:aj)(ks:List Nat)(g:GV):Prop:= ∀q top,g= .bc (H.length,q) 9 top 0 top→q∈ks
end
section
structure ma (r:aA)(k:Nat)(kind:Int):Prop where
 run:Dl r
 lt:k<r.ai.length
 kd:kind=1∨kind=2∨kind=3
 hand:kind=2→(r.ai[k]'lt).kind≠1
 ok:(dI r).2.2.2=0
 tm: ∀a∈r.ai,0≤a.ba∧a.ba≤1000
 pw:r.ai.Pairwise fun a b=>a.ba≤b.ba
 n40:r.ai.length≤40
 room:vY r
theorem ry {r:aA}(sh:gL r){act kind:Int}(h:Az r act kind=0): ∃k:Nat,act=k∧ma r k kind:=by
 rw [zI]at h;obtain⟨h1,h⟩:=ite_self h;obtain⟨h2,h⟩:=bH (by decide) h;obtain⟨h3,h⟩:=bH (by decide) h;obtain⟨h4,h⟩:=bH (by decide) h;have h2':di act 0 ((r.ai.length:Int)-1)=true:=(by simpa using h2);have h3':di kind 1 3=true:=(by simpa using h3);obtain⟨a1,a2⟩:=pt.1 h2';obtain⟨b1,b2⟩:=pt.1 h3';obtain⟨k,rfl⟩:=Int.eq_ofNat_of_zero_le a1;have hk:k<r.ai.length:=(by omega);rw [oA]at h1;have hc:cv r=0:=by
  rcases Decidable.em (cv r=0)with e|e
  ·exact e
  ·rw [if_neg e]at h1;exact h1
 rw [if_pos hc]at h1;obtain⟨R,A⟩:=lK hc;refine⟨k,rfl,zH hc sh,hk,by omega,fun e=> ?_,h1,A.tm,A.pw.imp fun x=>x.1,A.n,R⟩;have hg:r.ai.getD (Int.toNat (k:Int)) cg=r.ai[k]:=aQ hk;rw [hg]at h4;exact fun e2=>h4 ⟨e,e2⟩
section
variable {r:aA} {k:Nat} {kind:Int} (h:ma r k kind)
include h
theorem ma.get:r.ai.getD k cg=r.ai[k]'h.lt:=aQ h.lt
theorem rr:(gS r k kind).length≤r.ai.length:=by
 unfold gS;have:=h.lt;split
 ·split
  ·simp
  ·rw [List.length_eraseIdx];split<;>omega
 ·split
  ·rw [kO];simp;omega
  ·rw [List.length_eraseIdx];split<;>omega
omit h in
theorem Dy (aO:Int)(a:ak):(late aO a=a∨late aO a=setAt a (a.ba+1)):=by
 unfold late;split
 ·exact Or.inr rfl
 ·exact Or.inl rfl
theorem oy {x:ak}(hx:x∈gS r k kind):AB r x.aO.toNat x∧0≤x.ba∧x.ba≤1001:=by
 have hm: ∀a∈r.ai,AB r a.aO.toNat a∧0≤a.ba∧a.ba≤1001:=fun a ha=>by
  have:=h.tm a ha;exact⟨h.run.ab a ha,by omega,by omega⟩
 unfold gS at hx;rw [h.get]at hx;split at hx
 ·rename_i hk;split at hx
  ·rcases List.mem_or_eq_of_mem_set hx with hx|rfl
   ·exact hm x hx
   ·have h1:=hm _ (List.getElem_mem h.lt);exact⟨h1.1.flip (h.hand hk),h1.2⟩
  ·exact hm x (List.mem_of_mem_eraseIdx hx)
 ·split at hx
  ·have hx:=(kX _).mem_iff.1 hx;rcases List.mem_append.1 hx with hx|hx
   ·exact hm x (List.mem_of_mem_take hx)
   ·obtain⟨a,ha,rfl⟩:=List.mem_map.1 hx;have ha':=List.mem_of_mem_drop ha;have h1:=hm a ha';have h2:=h.tm a ha';rcases Dy (r.ai[k]'h.lt).aO a with e|e
    ·rw [e];exact h1
    ·rw [e];exact⟨oC h1.1,by show 0≤a.ba+1;omega,by show a.ba+1≤1001;omega⟩
  ·exact hm x (List.mem_of_mem_eraseIdx hx)
theorem yR:(gS r k kind).Pairwise fun a b=>a.ba≤b.ba:=by
 unfold gS;rw [h.get];split
 ·split
  ·have e1:(r.ai.set k {(r.ai[k]'h.lt)with hand:=1-(r.ai[k]'h.lt).hand}).map ak.ba=r.ai.map ak.ba:=by
    rw [List.map_set];have e2:(r.ai.map ak.ba)[k]'(by simpa using h.lt)=(r.ai[k]'h.lt).ba:=(by simp);rw [show ({(r.ai[k]'h.lt)with hand:=1-(r.ai[k]'h.lt).hand}:ak).ba=(r.ai.map ak.ba)[k]'(by simpa using h.lt)from e2.symm]
    exact List.set_getElem_self _
   have e3:=List.pairwise_map.2 h.pw;rw [←e1]at e3;exact List.pairwise_map.1 e3
  ·exact h.pw.sublist (List.eraseIdx_sublist ..)
 ·split
  ·exact IB _
  ·exact h.pw.sublist (List.eraseIdx_sublist ..)
theorem u6:0≤fF r k kind∧fF r k kind≤1001:=by
 have:=h.tm _ (List.getElem_mem h.lt);unfold fF;rw [h.get];split<;>omega
end
def xz (r:aA)(w:Nat):List ak:=bL (r.wide*r.deep).toNat r.aa.length r.ah.length w
def iT (r:aA)(k:Nat):Nat:=(r.ai.getD k cg).aO.toNat
noncomputable def HH (r:aA)(k:Nat)(kind:Int):List aw×aw×Int×Int:=bG r (cL (fF r k kind) (gS r k kind)).length (aJ r) (cL (fF r k kind) (gS r k kind)) 0
noncomputable def HG (fin:aw→List ak→Bool)(r:aA)(k:Nat)(kind:Int):Option (List ak):=
 if (HH r k kind).2.2.2≠0 then none else (List.range 4).findSome? fun n=>yM r (iT r k) (xz r (iT r k)) fin n (HH r k kind).2.1 []
noncomputable def jC (r:aA)(k:Nat)(kind:Int):Option (List ak):=HG (ow r (behind (fF r k kind) (gS r k kind))) r k kind
theorem ma.wl {r:aA}{k:Nat}{kind:Int}(h:ma r k kind):iT r k<r.ah.length:=by
 unfold iT;rw [h.get];exact(h.run.ab _ (List.getElem_mem h.lt)).wl
theorem ma.ru {r:aA}{k:Nat}{kind:Int}(h:ma r k kind):((r.wide*r.deep).toNat:Int)=r.wide*r.deep∧0<(r.wide*r.deep).toNat∧(r.wide*r.deep).toNat≤36:=by
 have:=h.room.ru;omega
theorem vd {r:aA}{w:Nat}(ha:0≤r.wide*r.deep)(hw:w<r.ah.length){a:ak}(h:a∈xz r w):AB r w a∧a.ba=0∧a.cd=0∧a.gR=0:=
 mz (n:=(r.wide*r.deep).toNat) (by omega) hw h
noncomputable def xr (r:aA)(act kind:Int):PV:= .tuple (if Az r act kind≠0 then [.slice [], .int .i64 (Az r act kind)]else match jC r act.toNat kind with|some l=> [.slice (l.map ak.row), .int .i64 0]|none=> [.slice [], .int .i64 7])
noncomputable def lJ (r:aA)(i:Nat)(x:Int):Bool:=decide (x=2∧(r.ai.getD i cg).kind=1)||(jC r i x).isSome
noncomputable def pU (r:aA)(i:Nat)(l:List Int):Option (Int×Int):=l.findSome? fun x=>if lJ r i x=true then none else some ((i:Int),x)
noncomputable def nT (r:aA)(k i:Nat):Option (Int×Int):=(List.range' i k).findSome? fun i=>pU r i r.aX
noncomputable def tv (r:aA):PV:= .tuple (if oc r≠0 then [.int .i64 0, .int .i64 0, .int .i64 (oc r)]else match nT r r.ai.length 0 with|some (i,x)=> [.int .i64 i, .int .i64 x, .int .i64 0]|none=> [.int .i64 (-1), .int .i64 0, .int .i64 0])
theorem uz {r:aA}(h:oc r=0){i:Nat}(hi:i<r.ai.length){x:Int}(hx:1≤x∧x≤3)(hk: ¬(x=2∧(r.ai.getD i cg).kind=1)):Az r i x=0:=by
 rw [zI,if_neg (by simpa using h),if_neg (by have:di (i:Int) 0 ((r.ai.length:Int)-1)=true:=pt.2 ⟨by omega,by omega⟩;simp [this]),if_neg (by have:di x 1 3=true:=pt.2 hx;simp [this]),if_neg (by simpa using hk)]
end
section
variable {c:Nat} {H:aj}
@[simp] theorem Uj {cs:List PV}:canon (.bX cs)= .bX cs:= .trans rfl rfl
theorem m6 {G:aj}{nm:Nm}(h:nm.1<G.length): ∀pre:aj,aj.get (pre++G) nm=aj.get G nm
 | []=>rfl
 |X::pre=>by
  show aj.get (X::(pre++G)) nm=_
  rw [aj.fb,if_neg (by simp;omega),m6 h pre]
structure Aq (nm:Nm)(n0:Nat)(α:Type)(C:α→aj)(ps:ak→Bool)(cont:ak→α→Bool)(next:ak→α→α)(ok:α→Prop)(A:ak→Prop):Prop where
 pos:0<n0
 lp:nm.1<n0
 len: ∀a,(C a).length=n0
 gr: ∀(x:ak) (a:α) (pre:aj),A x→ps x=true→ok a→ground (aE KC) nm [.pure (.agg x.row)] (pre++C a)=some (.pure (.bool (cont x a)),pre++C (next x a))
 ZE: ∀(x:ak) (a:α),A x→ok a→cont x a=true→ok (next x a)
def fk {α:Type}(pos:ak→Bool)(cont:ak→α→Bool)(next:ak→α→α):List ak→α→α×Bool
 | [],a=>(a,true)
 |x::l,a=>if pos x=true then (if cont x a=true then fk pos cont next l (next x a)else (next x a,false))else fk pos cont next l a
theorem jo {α:Type}{pos:ak→Bool}{cont:ak→α→Bool}{next:ak→α→α}: ∀(l m:List ak) (a:α),fk pos cont next (l++m) a=if (fk pos cont next l a).2=true then fk pos cont next m (fk pos cont next l a).1 else fk pos cont next l a
 | [],m,a=>by simp [fk]
 |x::l,m,a=>by
  simp only [List.cons_append,fk];split
  ·split
   ·exact jo l m _
   ·simp
  ·exact jo l m a
section
variable {r:aA} {s:aw} {w:Nat} {nm:Nm} {n0:Nat} {α:Type} {C:α→aj} {cont:ak→α→Bool} {next:ak→α→α} {ok:α→Prop} {A:ak→Prop} (hC:Aq nm n0 α C (b7 r s w) cont next ok A) (hS:fT r s) (hW:WB r) (hA: ∀x,A x→AB r w x)
include hC hS hW hA
theorem uH {F0:Fr}(f3:F0.get 3=some (.box [.yield nm])){x:ak}(hx:A x){a:α}(ha:ok a)(pre:aj):
  aL KC (aE KC) 133 [.pure (.agg x.row), .bX (aP r s), .ay (n0,3) 0] c (pre++F0::C a)=
   some (.pure (.bool (if b7 r s w x=true then cont x a else true)),pre++F0::C (if b7 r s w x=true then next x a else a)):=by
 refine aM (bd KC au Tryz.func133 rfl rfl L0 rfl rfl rfl (by simp) (by simp;omega) ?_);have hlen:=hC.len;have g3:aj.get (pre++F0::C a) (n0,3)=some (.box [.yield nm]):=by
  rw [m6 (by simp [hlen])];rw [aj.fb,if_pos (by simp [hlen])];exact f3
 have M:=fun(c:Nat) (H:aj) (hH:0<H.length)=>y9 (c:=c) (H:=H) hS hW (hA x hx) hH;have G:=fun hp=>hC.gr x a ([(3, .box (x.row.map .pure))]::(pre++[F0])) hx hp ha;simp only [List.cons_append,List.append_assoc,List.nil_append]at G;have ne: ¬n0=pre.length+(n0+1):=(by omega);rw [bE]at G;rw [aP,bE]at M;rw [aP,bE]
 cases hp:b7 r s w x with
 |true=>
  have G:=G hp;simp at G;simp [g3,hlen,ne,M,hp,G,ae]
 |false=>simp [g3,hlen,ne,M,hp,ae]
end
end
section
variable {c:Nat} {H:aj}
def jZ (r:aA)(s:aw)(n0:Nat):GV:= .func 133 [] [.bX (aP r s), .ay (n0,3) 0]
section
variable {r:aA} {s:aw} {n0:Nat}
theorem jJ {G:aj}{l0:Nat}(h:n0≤l0):clean G l0 (jZ r s n0)=jZ r s n0:=by
 show iD G l0 (.func _ [] [_,_])=_
 have e:dG l0 ([]:List GV)=true:=rfl;have e2:dG l0 [.bX (aP r s), .ay (n0,3) 0]=true:=(by simp [dG,h]);show (if (dG l0 [] && dG l0 [.bX (aP r s), .ay (n0,3) 0])=true then _ else _)=_
 rw [e,e2];rfl
theorem ff {rec:Rec}{x:GV}{c:Nat}{G:aj}:dN KC rec (jZ r s n0) [x] c G=aL KC rec 133 [x, .bX (aP r s), .ay (n0,3) 0] c G:=rfl
end
section
variable {r:aA} {s:aw} {w:Nat} {nm:Nm} {n0:Nat} {α:Type} {C:α→aj} {cont:ak→α→Bool} {next:ak→α→α} {ok:α→Prop} {A:ak→Prop} (hC:Aq nm n0 α C (b7 r s w) cont next ok A) (hS:fT r s) (hW:WB r) (hA: ∀x,A x→AB r w x)
include hC hS hW hA
theorem Ci {F0:Fr}(f3:F0.get 3=some (.box [.yield nm])){n:Nat}(hn:n≤1000000)(hall: ∀x∈gJ w n 0,A x)(Q:GX→bO→Prop): ∀(k i:Nat) (a:α),i+k=n→ok a→
  (∀a',fk (b7 r s w) cont next (gJ w k i) a=(a',true)→ok a'→Q (.exit 2) ⟨[(1, .bX (aP r s)),(2, .bX [.int .i64 w]),(4,jZ r s n0),(5, .pure (.int .i64 1))],[]::F0::C a',79⟩)→
  (∀a',fk (b7 r s w) cont next (gJ w k i) a=(a',false)→Q .ret ⟨[(1, .bX (aP r s)),(2, .bX [.int .i64 w]),(4,jZ r s n0),(5, .pure (.int .i64 1))],[]::F0::C a',79⟩)→
  iB KC au 132 (lp Tryz.f132 1) [1,2,4,5,18,19] [1,2,4,5] Q
   [(1, .bX (aP r s)),(2, .bX [.int .i64 w]),(4,jZ r s n0),(5, .pure (.int .i64 1)),(18, .pure (.int .i64 n)),(19, .pure (.int .i64 i))] ([]::F0::C a) 79:=by
 have hlen:=hC.len;have CL:=fun(G:aj) (l0:Nat) (h:n0≤l0)=>jJ (r:=r) (s:=s) (G:=G) h;have c1:=fun G=>CL G n0 (by omega);have c2:=fun G=>CL G (n0+1) (by omega);intro k
 induction k with
 |zero=>
  intro i a hk ho h1 _;have h1':=h1 a rfl ho;have hnl: ¬i<n:=(by omega);apply ax;conv=>arg 4;whnf
  simp [hnl,hlen,c1,c2];simpa using h1'
 |succ k ih=>
  intro i a hk ho h1 h2;have hil:i<n:=(by omega);have hw:=dp (x:=(i:Int)+1) (by omega) (by omega)
  have hx:A (bZ w 1 0 0 i 0):=hall _ (by
   unfold gJ;exact List.mem_map.2 ⟨i,by simp [List.mem_range'];omega,rfl⟩)
  have HO:=fun(c:Nat)=>uH (c:=c) hC hS hW hA f3 hx ho [[],[]];rw [qz]at h1 h2;simp only [fk]at h1 h2;simp only [List.cons_append,List.nil_append]at HO;generalize hB:b7 r s w (bZ w 1 0 0 i 0)=b at HO h1 h2;have hrow:(bZ w 1 0 0 i 0).row=[.int .i64 0, .int .i64 w, .int .i64 1, .int .i64 0, .int .i64 0, .int .i64 i, .int .i64 0, .int .i64 0, .int .i64 0]:=rfl;rw [hrow]at HO;apply ax;conv=>arg 4;whnf
  cases b with
  |false=>
   simp only [Bool.false_eq_true,if_false]at HO h1 h2;have ih':=ih (i+1) a (by omega) ho h1 h2;simp [hil,hlen,c1,c2,ff,HO,hw];simpa using ih'
  |true=>
   simp only [if_true]at HO h1 h2
   cases hc:cont (bZ w 1 0 0 i 0) a with
   |true=>
    rw [hc]at HO h1 h2;simp only [if_true]at h1 h2;have ih':=ih (i+1) (next (bZ w 1 0 0 i 0) a) (by omega) (hC.ZE _ _ hx ho hc) h1 h2
    simp [hil,hlen,c1,c2,ff,HO,hw];simpa using ih'
   |false=>
    rw [hc]at HO h1 h2;have h2':=h2 _ rfl;simp [hil,hlen,c1,c2,ff,HO,hw];simpa using h2'
def aB (x:ak):Fr:=[(8, .box [.pure (.int .i64 x.ba), .pure (.int .i64 x.aO), .pure (.int .i64 x.kind), .pure (.int .i64 x.hand), .pure (.int .i64 x.bf), .pure (.int .i64 x.cell), .pure (.int .i64 x.other), .pure (.int .i64 x.cd), .pure (.int .i64 x.gR)])]
theorem BA {F0:Fr}(f3:F0.get 3=some (.box [.yield nm])){n h:Nat}(hn:n≤1000000)(hall: ∀x∈ib w h n 0,A x)(Q:GX→bO→Prop): ∀(k i:Nat) (t:Int) (a:α),i+k=n→ok a→
  (∀a' t',fk (b7 r s w) cont next (ib w h k i) a=(a',true)→ok a'→Q (.exit 7) ⟨[(1, .bX (aP r s)),(2, .bX [.int .i64 w]),(4,jZ r s n0),(5, .pure (.int .i64 2)),(30, .pure (.int .i64 h))],aB (bZ w 2 h t' 0 0)::[]::F0::C a',79⟩)→
  (∀a' F1,fk (b7 r s w) cont next (ib w h k i) a=(a',false)→Q .ret ⟨[(1, .bX (aP r s)),(2, .bX [.int .i64 w]),(4,jZ r s n0),(5, .pure (.int .i64 2)),(30, .pure (.int .i64 h))],F1::[]::F0::C a',79⟩)→
  iB KC au 132 (lp Tryz.f132 3) [1,2,4,5,8,30,47,48] [1,2,4,5,30] Q
   [(1, .bX (aP r s)),(2, .bX [.int .i64 w]),(4,jZ r s n0),(5, .pure (.int .i64 2)),(8, .ay (n0+2,8) 0),(30, .pure (.int .i64 h)),(47, .pure (.int .i64 n)),(48, .pure (.int .i64 i))] (aB (bZ w 2 h t 0 0)::[]::F0::C a) 79:=by
 have hlen:=hC.len;have CL:=fun(G:aj) (l0:Nat) (h:n0≤l0)=>jJ (r:=r) (s:=s) (G:=G) h;have c1:=fun G=>CL G (n0+1) (by omega);have c2:=fun G=>CL G (n0+2) (by omega);have ne1: ¬n0+2=n0+3:=(by omega);intro k
 induction k with
 |zero=>
  intro i t a hk ho h1 _;have h1':=h1 a t rfl ho;have hnl: ¬i<n:=(by omega);apply ax;conv=>arg 4;whnf
  simp [hnl,hlen,c1,c2];simpa using h1'
 |succ k ih=>
  intro i t a hk ho h1 h2;have hil:i<n:=(by omega);have hw:=dp (x:=(i:Int)+1) (by omega) (by omega)
  have hx:A (bZ w 2 h i 0 0):=hall _ (by
   unfold ib;exact List.mem_map.2 ⟨i,by simp [List.mem_range'];omega,rfl⟩)
  have HO:=fun(c:Nat)=>uH (c:=c) hC hS hW hA f3 hx ho [[],aB (bZ w 2 h i 0 0),[]];rw [tC]at h1 h2;simp only [fk]at h1 h2;simp only [List.cons_append,List.nil_append]at HO;generalize hB:b7 r s w (bZ w 2 h i 0 0)=b at HO h1 h2;have hrow:(bZ w 2 h i 0 0).row=[.int .i64 0, .int .i64 w, .int .i64 2, .int .i64 h, .int .i64 i, .int .i64 0, .int .i64 0, .int .i64 0, .int .i64 0]:=rfl;rw [hrow]at HO;simp only [aB,bZ]at HO ih⊢;apply ax;conv=>arg 4;whnf
  cases b with
  |false=>
   simp only [Bool.false_eq_true,if_false]at HO h1 h2;have ih':=ih (i+1) i a (by omega) ho h1 h2;simp [hil,hlen,c1,c2,ne1,ff,HO,hw];simpa using ih'
  |true=>
   simp only [if_true]at HO h1 h2
   cases hc:cont (bZ w 2 h i 0 0) a with
   |true=>
    rw [hc]at h1 h2;simp only [bZ]at hc;rw [hc]at HO;simp only [if_true]at h1 h2;have ih':=ih (i+1) i (next (bZ w 2 h i 0 0) a) (by omega) (hC.ZE _ _ hx ho hc) h1 h2
    simp only [bZ]at ih';simp [hil,hlen,c1,c2,ne1,ff,HO,hw];simpa using ih'
   |false=>
    rw [hc]at h1 h2;have h2':=h2 _ [(8, .box [.pure (.int .i64 0), .pure (.int .i64 w), .pure (.int .i64 2), .pure (.int .i64 h), .pure (.int .i64 i), .pure (.int .i64 0), .pure (.int .i64 0), .pure (.int .i64 0), .pure (.int .i64 0)])] rfl;simp only [bZ]at hc h2';rw [hc]at HO;simp [hil,hlen,c1,c2,ne1,ff,HO,hw];simpa using h2'
theorem BB {F0:Fr}(f3:F0.get 3=some (.box [.yield nm])){n h:Nat}(hn:n≤1000000)(hall: ∀x∈gy w h n 0,A x)(Q:GX→bO→Prop): ∀(k i:Nat) (t:Int) (a:α),i+k=n→ok a→
  (∀a' t',fk (b7 r s w) cont next (gy w h k i) a=(a',true)→ok a'→Q (.exit 9) ⟨[(1, .bX (aP r s)),(2, .bX [.int .i64 w]),(4,jZ r s n0),(5, .pure (.int .i64 4)),(30, .pure (.int .i64 h))],aB (bZ w 4 h 0 0 t')::[]::F0::C a',79⟩)→
  (∀a' F1,fk (b7 r s w) cont next (gy w h k i) a=(a',false)→Q .ret ⟨[(1, .bX (aP r s)),(2, .bX [.int .i64 w]),(4,jZ r s n0),(5, .pure (.int .i64 4)),(30, .pure (.int .i64 h))],F1::[]::F0::C a',79⟩)→
  iB KC au 132 (lp Tryz.f132 4) [1,2,4,5,8,30,62,63] [1,2,4,5,30] Q
   [(1, .bX (aP r s)),(2, .bX [.int .i64 w]),(4,jZ r s n0),(5, .pure (.int .i64 4)),(8, .ay (n0+2,8) 0),(30, .pure (.int .i64 h)),(62, .pure (.int .i64 n)),(63, .pure (.int .i64 i))] (aB (bZ w 4 h 0 0 t)::[]::F0::C a) 79:=by
 have hlen:=hC.len;have CL:=fun(G:aj) (l0:Nat) (h:n0≤l0)=>jJ (r:=r) (s:=s) (G:=G) h;have c1:=fun G=>CL G (n0+1) (by omega);have c2:=fun G=>CL G (n0+2) (by omega);have ne1: ¬n0+2=n0+3:=(by omega);intro k
 induction k with
 |zero=>
  intro i t a hk ho h1 _;have h1':=h1 a t rfl ho;have hnl: ¬i<n:=(by omega);apply ax;conv=>arg 4;whnf
  simp [hnl,hlen,c1,c2];simpa using h1'
 |succ k ih=>
  intro i t a hk ho h1 h2;have hil:i<n:=(by omega);have hw:=dp (x:=(i:Int)+1) (by omega) (by omega);by_cases hiw:(i:Int)=w
  ·rw [oS,if_pos hiw]at h1 h2;have ih':=ih (i+1) i a (by omega) ho h1 h2;have hiw2:i=w:=(by omega);subst hiw2;simp only [aB,bZ]at ih'⊢;apply ax;conv=>arg 4;whnf
   simp [hil,hlen,c1,c2,ne1,hw];simpa using ih'
  ·have hiw':((i:Int)==(w:Int))=false:=by simpa using hiw
   have hx:A (bZ w 4 h 0 0 i):=hall _ (by
    unfold gy;exact List.mem_map.2 ⟨i,List.mem_filter.2 ⟨by simp [List.mem_range'];omega,by simpa using hiw⟩,rfl⟩)
   have HO:=fun(c:Nat)=>uH (c:=c) hC hS hW hA f3 hx ho [[],aB (bZ w 4 h 0 0 i),[]];rw [oS,if_neg hiw]at h1 h2;simp only [fk]at h1 h2;simp only [List.cons_append,List.nil_append]at HO;generalize hB:b7 r s w (bZ w 4 h 0 0 i)=b at HO h1 h2;have hrow:(bZ w 4 h 0 0 i).row=[.int .i64 0, .int .i64 w, .int .i64 4, .int .i64 h, .int .i64 0, .int .i64 0, .int .i64 i, .int .i64 0, .int .i64 0]:=rfl;rw [hrow]at HO;simp only [aB,bZ]at HO ih⊢;apply ax;conv=>arg 4;whnf
   cases b with
   |false=>
    simp only [Bool.false_eq_true,if_false]at HO h1 h2;have ih':=ih (i+1) i a (by omega) ho h1 h2;simp [hil,hlen,c1,c2,ne1,ff,HO,hw,hiw,hiw'];simpa using ih'
   |true=>
    simp only [if_true]at HO h1 h2
    cases hc:cont (bZ w 4 h 0 0 i) a with
    |true=>
     rw [hc]at h1 h2;simp only [bZ]at hc;rw [hc]at HO;simp only [if_true]at h1 h2;have ih':=ih (i+1) i (next (bZ w 4 h 0 0 i) a) (by omega) (hC.ZE _ _ hx ho hc) h1 h2
     simp only [bZ]at ih';simp [hil,hlen,c1,c2,ne1,ff,HO,hw,hiw,hiw'];simpa using ih'
    |false=>
     rw [hc]at h1 h2;have h2':=h2 _ [(8, .box [.pure (.int .i64 0), .pure (.int .i64 w), .pure (.int .i64 4), .pure (.int .i64 h), .pure (.int .i64 0), .pure (.int .i64 0), .pure (.int .i64 i), .pure (.int .i64 0), .pure (.int .i64 0)])] rfl;simp only [bZ]at hc h2';rw [hc]at HO;simp [hil,hlen,c1,c2,ne1,ff,HO,hw,hiw,hiw'];simpa using h2'
end
end
section
variable {c:Nat} {H:aj}
def wR (r:aA)(w kind:Nat)(k h:Nat):List ak:=(List.range' h k).flatMap fun(h:Nat)=>ia r.aa.length r.ah.length w kind h
theorem td (r:aA)(w kind k h:Nat):wR r w kind (k+1) h=ia r.aa.length r.ah.length w kind h++wR r w kind k (h+1):=by simp [wR,List.range'_succ]
theorem xl (r:aA)(w kind:Nat):wR r w kind 2 0=nX r.aa.length r.ah.length w kind:=by
 rw [td,td];simp [wR,nX]
section
variable {r:aA} {s:aw} {w:Nat} {nm:Nm} {n0:Nat} {α:Type} {C:α→aj} {cont:ak→α→Bool} {next:ak→α→α} {ok:α→Prop} {A:ak→Prop} (hC:Aq nm n0 α C (b7 r s w) cont next ok A) (hS:fT r s) (hW:WB r) (hA: ∀x,A x→AB r w x)
include hC hS hW hA
theorem As {F0:Fr}(f3:F0.get 3=some (.box [.yield nm])){kind:Nat}(hk1:kind≠1)(hk:kind≤8)(hall: ∀x∈wR r w kind 2 0,A x)(Q:GX→bO→Prop): ∀(k h:Nat) (a:α),h+k=2→ok a→
  (∀a',fk (b7 r s w) cont next (wR r w kind k h) a=(a',true)→ok a'→Q (.exit 4) ⟨[(1, .bX (aP r s)),(2, .bX [.int .i64 w]),(4,jZ r s n0),(5, .pure (.int .i64 kind))],[]::F0::C a',79⟩)→
  (∀a',fk (b7 r s w) cont next (wR r w kind k h) a=(a',false)→Q .ret ⟨[(1, .bX (aP r s)),(2, .bX [.int .i64 w]),(4,jZ r s n0),(5, .pure (.int .i64 kind))],[]::F0::C a',79⟩)→
  iB KC au 132 (lp Tryz.f132 2) [1,2,4,5,30] [1,2,4,5] Q
   [(1, .bX (aP r s)),(2, .bX [.int .i64 w]),(4,jZ r s n0),(5, .pure (.int .i64 kind)),(30, .pure (.int .i64 h))] ([]::F0::C a) 79:=by
 have hlen:=hC.len;have CL:=fun(G:aj) (l0:Nat) (h:n0≤l0)=>jJ (r:=r) (s:=s) (G:=G) h;have c0:=fun G=>CL G n0 (by omega);have c1:=fun G=>CL G (n0+1) (by omega);have c2:=fun G=>CL G (n0+2) (by omega);intro k
 induction k with
 |zero=>
  intro h a hk ho h1 _;have h1':=h1 a rfl ho;have hnl: ¬h<2:=(by omega);have hnl': ¬(h:Int)<2:=(by omega);apply ax;conv=>arg 4;whnf
  simp [hnl,hnl',hlen,c0,c1,c2];simpa using h1'
 |succ k ih=>
  intro h a hkh ho h1 h2;have hil:h<2:=(by omega);have hil':(h:Int)<2:=(by omega);have hw:=dp (x:=(h:Int)+1) (by omega) (by omega);rw [td,jo]at h1 h2
  have hsub: ∀x∈ia r.aa.length r.ah.length w kind h,A x:=fun x hx=>hall x (by
   unfold wR;exact List.mem_flatMap.2 ⟨h,by simp [List.mem_range'];omega,hx⟩)
  have hsl:3≤(aP r s).length:=by show 3≤10;omega
  have hsl2:2≤(aP r s).length:=by show 2≤10;omega
  have hpt:List.drop 3 (aP r s)= .slice (r.aa.map aZ.row)::List.drop 4 (aP r s):=rfl;have hpp:List.drop 2 (aP r s)= .slice (r.ah.map aS.row)::List.drop 3 (aP r s):=rfl;by_cases k2:kind=2
  ·subst k2;have ek:ia r.aa.length r.ah.length w 2 h=ib w h r.aa.length 0:=rfl;rw [ek]at hsub h1 h2;have L:=fun Q t h1 h2=>BA hC hS hW hA f3 (n:=r.aa.length) (h:=h) hW.tl hsub Q r.aa.length 0 t a (by omega) ho h1 h2;simp only [aB,bZ]at L;apply ax;conv=>arg 4;whnf
   simp [hil,hil',hlen,c0,c1,c2,hsl,hsl2,hpt,hpp];refine L _ _ (fun a' t' e ho'=> ?_) (fun a' F1 e=> ?_)
   ·rw [e]at h1 h2;simp only [if_true]at h1 h2;have ih':=ih (h+1) a' (by omega) ho' h1 h2;simp [hlen,c0,c1,c2,hw];simpa using ih'
   ·rw [e]at h2;have h2':=h2 a' rfl;simp [hlen,c0,c1,c2];simpa using h2'
  ·have k2':((kind:Int)==2)=false:=(by simp;omega);by_cases k4:kind=4
   ·subst k4;have ek:ia r.aa.length r.ah.length w 4 h=gy w h r.ah.length 0:=rfl;rw [ek]at hsub h1 h2;have L:=fun Q t h1 h2=>BB hC hS hW hA f3 (n:=r.ah.length) (h:=h) hW.pl hsub Q r.ah.length 0 t a (by omega) ho h1 h2;simp only [aB,bZ]at L;apply ax;conv=>arg 4;whnf
    simp [hil,hil',hlen,c0,c1,c2,hsl,hsl2,hpt,hpp];refine L _ _ (fun a' t' e ho'=> ?_) (fun a' F1 e=> ?_)
    ·rw [e]at h1 h2;simp only [if_true]at h1 h2;have ih':=ih (h+1) a' (by omega) ho' h1 h2;simp [hlen,c0,c1,c2,hw];simpa using ih'
    ·rw [e]at h2;have h2':=h2 a' rfl;simp [hlen,c0,c1,c2];simpa using h2'
   ·have k4':((kind:Int)==4)=false:=(by simp;omega);have ek:ia r.aa.length r.ah.length w kind h=[bZ w kind h 0 0 0]:=(by unfold ia;rw [if_neg k2,if_neg k4]);rw [ek]at hsub h1 h2;have hx:=hsub _ (List.mem_singleton.2 rfl);have HO:=fun(c:Nat)=>uH (c:=c) hC hS hW hA f3 hx ho [aB (bZ w kind h 0 0 0),[]];simp only [fk]at h1 h2;simp only [List.cons_append,List.nil_append]at HO;have hrow:(bZ w kind h 0 0 0).row=[.int .i64 0, .int .i64 w, .int .i64 kind, .int .i64 h, .int .i64 0, .int .i64 0, .int .i64 0, .int .i64 0, .int .i64 0]:=rfl;rw [hrow]at HO;apply ax;conv=>arg 4;whnf
    cases hB:b7 r s w (bZ w kind h 0 0 0)with
    |false=>
     simp only [hB,Bool.false_eq_true,if_false,if_true]at HO h1 h2;have ih':=ih (h+1) a (by omega) ho h1 h2;simp only [aB,bZ]at HO;simp [hil,hil',hlen,c0,c1,c2,k2',k4',ff,HO,hw];simpa using ih'
    |true=>
     simp only [hB,if_true]at HO h1 h2
     cases hc:cont (bZ w kind h 0 0 0) a with
     |true=>
      simp only [hc,if_true]at HO h1 h2;have ih':=ih (h+1) (next (bZ w kind h 0 0 0) a) (by omega) (hC.ZE _ _ hx ho hc) h1 h2
      simp only [aB,bZ]at HO ih';simp [hil,hil',hlen,c0,c1,c2,k2',k4',ff,HO,hw];simpa using ih'
     |false=>
      simp only [hc,Bool.false_eq_true,if_false]at HO h2;have h2':=h2 _ rfl;simp only [aB,bZ]at HO h2';simp [hil,hil',hlen,c0,c1,c2,k2',k4',ff,HO,hw];simpa using h2'
end
end
end Go.Gh
