/- Texts joined: the evaluator over ghost values, its soundness, the walks. Spaces struck and names made short by a program, for the size. -/
import Derived.Test.YtkcmcjohoockcaaGreatGc8j
import Derived.Test.YtkcmcjohoockcaaGreatGc8f
import Derived.Test.YtkcmcjohoockcaaGreatGc8i
namespace Go.Gh
open Go.Proofs
set_option linter.unusedVariables false
set_option linter.unusedSimpArgs false
set_option linter.unnecessarySimpa false
set_option maxRecDepth 100000
set_option maxHeartbeats 8000000
section
variable {c:Nat} {H:aj}
section
variable {r:aA} {s:aw} {w:Nat} {nm:Nm} {n0:Nat} {α:Type} {C:α→aj} {cont:ak→α→Bool} {next:ak→α→α} {ok:α→Prop} {A:ak→Prop} (hC:Aq nm n0 α C (b7 r s w) cont next ok A) (hS:fT r s) (hW:WB r) (hA: ∀x,A x→AB r w x)
include hC hS hW hA
theorem Ar {F0:Fr}(f3:F0.get 3=some (.box [.yield nm]))(hall: ∀x∈fy r.aa.length r.ah.length w 7 2,A x)(Q:GX→bO→Prop): ∀(k i:Nat) (a:α),i+k=9→2≤i→ok a→
  (∀a',fk (b7 r s w) cont next (fy r.aa.length r.ah.length w k i) a=(a',true)→ok a'→Q (.exit 0) ⟨[],F0::C a',79⟩)→
  (∀a',fk (b7 r s w) cont next (fy r.aa.length r.ah.length w k i) a=(a',false)→Q .ret ⟨[],F0::C a',79⟩)→
  iB KC au 132 (lp Tryz.f132 0) [1,2,4,5] [] Q
   [(1, .bX (aP r s)),(2, .bX [.int .i64 w]),(4,jZ r s n0),(5, .pure (.int .i64 i))] (F0::C a) 79:=by
 have hlen:=hC.len;have CL:=fun(G:aj) (l0:Nat) (h:n0≤l0)=>jJ (r:=r) (s:=s) (G:=G) h;have c0:=fun G=>CL G n0 (by omega);have c1:=fun G=>CL G (n0+1) (by omega);intro k
 induction k with
 |zero=>
  intro i a hk hi ho h1 _;have h1':=h1 a rfl ho;have hnl': ¬(i:Int)≤8:=(by omega);apply ax;conv=>arg 4;whnf
  simp [hnl',hlen,c0,c1];simpa using h1'
 |succ k ih=>
  intro i a hk hi ho h1 h2;have hil':(i:Int)≤8:=(by omega);have hi1:((i:Int)==1)=false:=(by simp;omega);have hw:=dp (x:=(i:Int)+1) (by omega) (by omega);rw [ov,jo,←xl]at h1 h2
  have hsub: ∀x∈wR r w i 2 0,A x:=fun x hx=>hall x (by
   unfold fy;rw [xl]at hx;exact List.mem_flatMap.2 ⟨i,List.mem_range'_1.2 ⟨hi,by omega⟩,hx⟩)
  have L:=fun Q h1 h2=>As hC hS hW hA f3 (kind:=i) (by omega) (by omega) hsub Q 2 0 a rfl ho h1 h2;apply ax;conv=>arg 4;whnf
  simp [hil',hi1,hlen,c0,c1];refine L _ (fun a' e ho'=> ?_) (fun a' e=> ?_)
  ·rw [e]at h1 h2;simp only [if_true]at h1 h2;have ih':=ih (i+1) a' (by omega) (by omega) ho' h1 h2;simp [hlen,c0,c1,hw];simpa using ih'
  ·rw [e]at h2;have h2':=h2 a' rfl;simp [hlen,c0,c1];simpa using h2'
theorem yL {n:Nat}(hn:IntKind.i64.wrap (r.wide*r.deep)=n)(hn0:n≤1000000)(hall: ∀x∈bL n r.aa.length r.ah.length w,A x){a:α}(ha:ok a):
  aL KC (aE KC) 132 [.yield nm, .bX (aP r s), .bX [.int .i64 w]] c (C a)=some (.pure (.tuple []),C (fk (b7 r s w) cont next (bL n r.aa.length r.ah.length w) a).1):=by
 have hlen:=hC.len;have hpos:=hC.pos;refine aM (bd KC au Tryz.func132 rfl rfl LZ rfl rfl rfl (by simp) (by rw [hlen];exact hpos) ?_);have CL:=fun(G:aj) (l0:Nat) (h:n0≤l0)=>jJ (r:=r) (s:=s) (G:=G) h;have c0:=fun G=>CL G n0 (by omega);have c1:=fun G=>CL G (n0+1) (by omega);have f3:Fr.get [(3, .box [.yield nm])] 3=some (.box [.yield nm]):=rfl;have es:bL n r.aa.length r.ah.length w=gJ w n 0++fy r.aa.length r.ah.length w 7 2:=rfl;rw [es]at hall⊢;rw [jo];have h1: ∀x∈gJ w n 0,A x:=fun x hx=>hall x (List.mem_append_left _ hx);have h2: ∀x∈fy r.aa.length r.ah.length w 7 2,A x:=fun x hx=>hall x (List.mem_append_right _ hx);have L1:=fun Q q1 q2=>Ci hC hS hW hA f3 hn0 h1 Q n 0 a (by omega) ha q1 q2;have hlp:=hC.lp;have hm:=fun(c:Nat) (H:aj) (hH:0<H.length)=>Ao (c:=c) (H:=H) (hH:=hH) (w:=r.wide) (d:=r.deep) (x1:= .slice (r.ah.map aS.row)) (x2:= .slice (r.aa.map aZ.row)) (x3:= .slice (r.seen.map aF)) (x4:= .slice (r.aX.map aF)) (x5:= .slice (r.ai.map ak.row));have hsl:(aP r s).length=10:=rfl;have hpp:List.take 7 (aP r s)=[.int .i64 r.wide, .int .i64 r.deep, .slice (r.ah.map aS.row), .slice (r.aa.map aZ.row), .slice (r.seen.map aF), .slice (r.aX.map aF), .slice (r.ai.map ak.row)]:=rfl;simp [hlen];rw [show GV.func 133 [] [.bX (aP r s), .ay (n0,3) 0]=jZ r s n0 from rfl]
 apply ax;conv=>arg 4;whnf
 simp [hlen,c0,c1,hm,hsl,hpp,hn];refine L1 _ (fun a' e ho'=> ?_) (fun a' e=> ?_)
 ·rw [e];simp only [if_true];have L2:=fun Q q1 q2=>Ar hC hS hW hA f3 h2 Q 7 2 a' rfl (Nat.le_refl _) ho' q1 q2;simp [hlen,c0,c1];refine L2 _ (fun a2 e2 ho2=> ?_) (fun a2 e2=> ?_)
  ·rw [e2];simp [ae,hlen]
  ·rw [e2];simp [ae,hlen]
 ·rw [e];simp [ae,hlen,c0,c1]
end
theorem HC {r:aA}{s:aw}{w:Nat}(hH:0<H.length):
  aL KC (aE KC) 117 [.pure (.agg (aP r s)), .pure (.int .i64 w)] c H=some (.func 132 [] [.bX (aP r s), .bX [.int .i64 w]],H):=by
 refine aM (bd KC au Tryz.func117 rfl rfl LI rfl rfl rfl (by simp) hH ?_);have h1: ¬H.length≤H.length-1:=(by omega);rw [aP];simp;rw [ae (by simp)];simp [clean,iD,dG,pT,rf,h1,bm,canon,cn]
end
section
variable {c:Nat} {H:aj}
noncomputable def gK:aA→Nat→aw→Bool:=nO fun r w s=>r.seen.contains (s.ah.getD w 0)
theorem sD (r:aA)(w:Nat)(s:aw):gK r w s=r.seen.contains (s.ah.getD w 0):=by rw [gK,cP]
theorem xm {r:aA}{w:Nat}{s:aw}{a:ak}(hk:1≤a.kind∧a.kind≤8)(hw:w<s.ah.length):uj r s w a=(b7 r s w a && !(gK r w s||gK r w (da s w a))):=by
 have e:(da s w a).ah.getD w 0=if a.kind=1 then a.cell else s.ah.getD w 0:=by
  by_cases k1:a.kind=1
  ·rw [if_pos k1,lH k1];simp [List.getD_eq_getElem?_getD,hw]
  ·rw [if_neg k1,uU hk k1]
 rw [uV,sD,sD,e,lI];congr 2;rw [Bool.eq_iff_iff];simp;constructor
 ·rintro⟨x,h1,h2|h2⟩
  ·exact Or.inl (h2▸h1)
  ·exact Or.inr (h2▸h1)
 ·rintro(h|h)
  ·exact⟨_,h,Or.inl rfl⟩
  ·exact⟨_,h,Or.inr rfl⟩
noncomputable def gZ (r:aA)(w:Nat)(all:List ak)(fin:aw→List ak→Bool):Nat→aw→List ak→GV→GV×Bool
 |0,s,l,g=>(.pure (.slice (l.map ak.row)),fin s l)
 |n+1,s,l,g=>if gK r w s=true then (g,false)else
  (fk (b7 r s w) (fun x (a:GV×Bool)=>if gK r w (da s w x)=true then true else !(gZ r w all fin n (da s w x) (l++[x]) a.1).2)
   (fun x (a:GV×Bool)=>if gK r w (da s w x)=true then a else gZ r w all fin n (da s w x) (l++[x]) a.1) all (g,false)).1
theorem Ec {r:aA}{w:Nat}{all:List ak}{fin:aw→List ak→Bool}(hab: ∀x∈all,AB r w x): ∀(n:Nat) (s:aw) (l:List ak) (g:GV),fT r s→
  (gZ r w all fin n s l g).2=(yM r w all fin n s l).isSome∧ ∀x,yM r w all fin n s l=some x→(gZ r w all fin n s l g).1= .pure (.slice (x.map ak.row))
 |0,s,l,g,_=>by
  unfold gZ yM
  cases fin s l with
  |true=>exact⟨rfl,fun x e=>by cases e;rfl⟩
  |false=>exact⟨rfl,fun x e=>by cases e⟩
 |n+1,s,l,g,hS=>by
  unfold gZ yM
  have hf: ∀(all':List ak),(∀x∈all',AB r w x)→ ∀g:GV,gK r w s=false→
    let q:=(fk (b7 r s w) (fun x (a:GV×Bool)=>if gK r w (da s w x)=true then true else !(gZ r w all fin n (da s w x) (l++[x]) a.1).2)
     (fun x (a:GV×Bool)=>if gK r w (da s w x)=true then a else gZ r w all fin n (da s w x) (l++[x]) a.1) all' (g,false)).1
    let o:=all'.findSome? fun a=>if uj r s w a=true then yM r w all fin n (da s w a) (l++[a])else none
    q.2=o.isSome∧ ∀x,o=some x→q.1= .pure (.slice (x.map ak.row)):=fun all'=>by
   induction all' with
   |nil=>intro _ g _;exact⟨rfl,fun x e=>by cases e⟩
   |cons a all' ih=>
    intro ha g hs;have hA:=ha a (by simp);have hu:=xm (r:=r) (s:=s) hA.kind (by rw [hS.pl];exact hA.wl);rw [hs,Bool.false_or]at hu;simp only [fk,List.findSome?_cons]
    cases hp:b7 r s w a with
    |false=>
     rw [hp,Bool.false_and]at hu;rw [if_neg (by simp),if_neg (by simp [hu])];exact ih (fun x hx=>ha x (by simp [hx])) g hs
    |true=>
     rw [hp,Bool.true_and]at hu;rw [if_pos rfl]
     cases hs2:gK r w (da s w a)with
     |true=>
      rw [hs2]at hu;simp only [hs2,if_true];rw [if_neg (show¬uj r s w a=true by simp [hu])]
      exact ih (fun x hx=>ha x (by simp [hx])) g hs
     |false=>
      rw [hs2]at hu;obtain⟨t1,t2⟩:=Ec hab n (da s w a) (l++[a]) g (hS.TA hA hp);simp only [hs2,Bool.false_eq_true,if_false];rw [if_pos (show uj r s w a=true by simp [hu])]
      generalize hT:gZ r w all fin n (da s w a) (l++[a]) g=T at t1 t2⊢
      cases ho:yM r w all fin n (da s w a) (l++[a])with
      |some x=>
       rw [ho]at t1 t2;have t1':T.2=true:=t1;rw [if_neg (by simp [t1'])];exact⟨t1,fun y e=>t2 y e⟩
      |none=>
       rw [ho]at t1;have t1':T.2=false:=t1;rw [if_pos (by simp [t1'])];have e2:T=(T.1,false):=(by rw [←t1']);rw [e2];exact ih (fun x hx=>ha x (by simp [hx])) T.1 hs
  cases hs:gK r w s with
  |true=>
   rw [if_pos rfl];have:(all.findSome? fun a=>if uj r s w a=true then yM r w all fin n (da s w a) (l++[a])else none)=none:=by
    rw [List.findSome?_eq_none_iff];intro x hx;have hA:=hab x hx;have hu:=xm (r:=r) (s:=s) hA.kind (by rw [hS.pl];exact hA.wl);rw [hs]at hu;simp [hu]
   rw [this];exact⟨rfl,fun x e=>by cases e⟩
  |false=>
   rw [if_neg (by simp)];exact hf all hab g hs
theorem Ed {r:aA}(sh:gL r){s:aw}{w:Nat}(hw:w<s.ah.length){n3 n9:Nm}(g3:H.get n3=some (aU r))(g9:H.get n9=some (.box [.pure (.int .i64 w)]))(hH:0<H.length):
  aL KC (aE KC) 114 [.pure (.agg (aP r s)), .ay n3 0, .ay n9 0] c H=some (.pure (.bool (gK r w s)),H):=by
 refine aM (bd KC au Tryz.func114 rfl rfl LF rfl rfl rfl (by simp) hH ?_);have l3:=aj.bR g3;have l9:=aj.bR g9;have ne3: ¬n3.1=H.length:=(by omega);have ne9: ¬n9.1=H.length:=(by omega);have C:=fun(c:Nat) (H:aj) (hH:0<H.length)=>nQ (c:=c) (H:=H) r.seen s.ah[w] sh.s hH;have hgd:s.ah.getD w 0=s.ah[w]:=aQ hw;rw [sD,hgd];simp only [aU]at g3;rw [aP];simp [g3,g9,ne3,ne9,l3,l9,hw,aF,C,ae]
theorem Ee {r:aA}(hW:WB r)(ai:List ak)(hal:ai.length≤1000000)(hA: ∀a∈ai,AB r a.aO.toNat a){s:aw}(hS:fT r s)(hF:Full s)(hH:0<H.length):
  aL KC (aE KC) 93 [.pure (.agg (aP r s)), .pure (.slice (ai.map ak.row)), .pure (.fn 59)] c H=
   some (.pure (.tuple [.agg (aP r (bG r ai.length s ai 0).2.1), .int .i64 (bG r ai.length s ai 0).2.2.1, .int .i64 (bG r ai.length s ai 0).2.2.2]),H):=by
 rw [jK rfl rfl rfl];exact yN (c:=c) hW (sE r H hH) ai hal hA hS hF
end
section
variable {c:Nat} {H:aj}
theorem ri {G:aj}{nm:Nm}{b:dE}(h:nm.1<G.length): ∀pre:aj,aj.set (pre++G) nm b=pre++aj.set G nm b
 | []=>rfl
 |X::pre=>by
  show aj.set (X::(pre++G)) nm b=_
  rw [aj.jL,if_neg (by simp;omega),ri h pre];rfl
structure ZA (r:aA)(w:Nat)(ai:List ak)(nU:Nat)(n3 n8 n9 n11 n15 n16 n17:Nm)(n0:Nat)(C:GV→aj):Prop where
 pos:0<n0
 len: ∀g,(C g).length=n0
 l3:n3.1<n0
 l8:n8.1<n0
 l9:n9.1<n0
 l11:n11.1<n0
 ZB:n15.1<n0
 l16:n16.1<n0
 l17:n17.1<n0
 g3: ∀g,(C g).get n3=some (aU r)
 g8: ∀g,(C g).get n8=some (.box [.pure (.slice (ai.map ak.row))])
 g9: ∀g,(C g).get n9=some (.box [.pure (.int .i64 w)])
 Xt: ∀g,(C g).get n11=some (.box [.pure (.int .i64 nU)])
 Qf: ∀g,(C g).get n15=some (.box [.func 114 [] [.ay n3 0, .ay n9 0]])
 g16: ∀g,(C g).get n16=some (.box [g])
 s16: ∀g g',(C g).set n16 (.box [g'])=C g'
 Xu: ∀g,(C g).get n17=some (.box [.func 116 [] [.ay n8 0, .ay n11 0, .ay n16 0, .ay n15 0, .ay n9 0, .ay n17 0]])
structure xn (r:aA)(w:Nat)(ai:List ak)(nU:Nat):Prop where
 hr:Qg r
 wl:w<r.ah.length
 ab: ∀a∈ai,AB r a.aO.toNat a
 len:ai.length≤1000000
 u:nU≤ai.length
section
variable {r:aA} {w:Nat} {ai:List ak} {nU:Nat} {n3 n8 n9 n11 n15 n16 n17:Nm} {n0:Nat} {C:GV→aj} (M:ZA r w ai nU n3 n8 n9 n11 n15 n16 n17 n0 C) (P:xn r w ai nU)
include M P
theorem ZC {s:aw}(hS:fT r s)(hF:Full s)(l:List ak)(g:GV)(pre:aj):
  bI KC (aE KC) 116 [.pure (.agg (aP r s)), .pure (.slice (l.map ak.row)), .pure (.int .i64 0), .ay n8 0, .ay n11 0, .ay n16 0, .ay n15 0, .ay n9 0, .ay n17 0] c (pre++C g)=
   some (.pure (.bool (ow r (ai.drop nU) s l)),pre++C (.pure (.slice (l.map ak.row)))):=by
 refine aM (aK KC au Tryz.func116 rfl rfl D6 (by simp) (by simp [M.len];have:=M.pos;omega) ?_);have hlen:=M.len;have G:=fun(g:GV) (nm:Nm) (h:nm.1<n0)=>m6 (G:=C g) (nm:=nm) (by rw [hlen];exact h) pre;have G8:=fun g=>(G g n8 M.l8).trans (M.g8 g);have G11:=fun g=>(G g n11 M.l11).trans (M.Xt g);have G16:=fun g=>(G g n16 M.l16).trans (M.g16 g);have S16:=fun g g'=>(ri (G:=C g) (nm:=n16) (b:= .box [g']) (by rw [hlen];exact M.l16) pre).trans (by rw [M.s16 g g']);have ne8: ¬n8.1=pre.length+n0:=(by have:=M.l8;omega);have ne11: ¬n11.1=pre.length+n0:=(by have:=M.l11;omega);have ne16: ¬n16.1=pre.length+n0:=(by have:=M.l16;omega);have R:=fun(c:Nat) (H:aj) (hH:0<H.length)=>Ee (c:=c) (H:=H) P.hr.w (ai.drop nU) (by have:=P.len;simp;omega) (fun a ha=>P.ab a (List.mem_of_mem_drop ha)) hS hF hH;have hsn:=(mw (ai.drop nU).length s (ai.drop nU) 0 hS (fun a ha=>P.ab a (List.mem_of_mem_drop ha))).1;unfold ow;obtain⟨q,hq⟩: ∃q,bG r (ai.drop nU).length s (ai.drop nU) 0=q:=⟨_,rfl⟩;rw [hq]at R hsn⊢;have O:=fun(c:Nat) (H:aj) (hH:0<H.length)=>uW (c:=c) (H:=H) r q.2.1 P.hr.w.tl (by rw [hsn.hl];exact P.hr.w.pl) hsn.tl hH;rw [aP]at R O;rw [aP]at R;rw [aP];have hu:=P.u;have hdm:List.drop nU (ai.map ak.row)=(ai.drop nU).map ak.row:=(by rw [List.map_drop]);have hall: ∀x:ak,x.row.length=9:=fun _=>rfl;have tl:List.take ai.length (ai.map ak.row)=ai.map ak.row:=List.take_of_length_le (by simp);by_cases he:q.2.2.2=0
 ·rw [he]at R⊢;simp [hlen,G8,G11,G16,S16,ne8,ne11,ne16,hu,hdm,hall,tl,R,O,-List.map_drop,ae]
 ·have he':(q.2.2.2==0)=false:=(by simpa using he);simp [hlen,G8,G11,G16,S16,ne8,ne11,ne16,hu,hdm,hall,tl,R,O,he,he',-List.map_drop,ae]
end
end
section
variable {c:Nat} {H:aj}
end
section
variable {c:Nat} {H:aj}
def HD (l:Nat)(g:GV):Prop:= ∀nm es top lo len,g= .bc nm es top lo len→nm.1=l
theorem my {l:Nat}{p:PV}:HD l (.pure p):=fun _ _ _ _ _ h=>by cases h
theorem Ef {F:Fr}{nm:Nm}{b:dE}(h:nm.1=H.length): ∀pre:aj,aj.set (pre++F::H) nm b=pre++F.ins nm.2 b::H
 | []=>by
  show aj.set (F::H) nm b=_
  rw [aj.jL,if_pos h];rfl
 |X::pre=>by
  show aj.set (X::(pre++F::H)) nm b=_
  rw [aj.jL,if_neg (by simp;omega),Ef h pre];rfl
theorem tu {F:Fr}{g:GV}(h:HD H.length g)(pre:aj): ∃F',(dY (pre++F::H) g).2=pre++F'::H:=by
 cases g with
 |bc nm es top lo len=>
  have hn:=h _ _ _ _ _ rfl;simp only [dY,dH];split
  ·split
   ·exact⟨_,Ef hn pre⟩
   ·exact⟨F,rfl⟩
  ·exact⟨F,rfl⟩
 |_=>exact⟨F,rfl⟩
theorem rj (pre:aj): ∀{l:List GV} {F:Fr},(∀g∈l,HD H.length g)→ ∃F',(gA (pre++F::H) l).2=pre++F'::H
 | [],F,_=>⟨F,rfl⟩
 |g::l,F,h=>by
  obtain⟨F1,e1⟩:=tu (F:=F) (h g (List.mem_cons_self ..)) pre;obtain⟨F2,e2⟩:=rj pre (l:=l) (F:=F1) fun x hx=>h x (List.mem_cons_of_mem _ hx);exact⟨F2,by simp only [gA,e1,e2]⟩
def Mv (L:Nat):GV→Prop
 | .agg l=> ∀x∈l,HD L x
 |g=>HD L g
theorem uX {F:Fr}{g:GV}(h:Mv H.length g)(pre:aj): ∃F',(dy (pre++F::H) g).2=pre++F'::H:=by
 cases g with
 |agg l=>
  obtain⟨F',e⟩:=rj pre (F:=F) (l:=l) h;exact⟨F',by simp only [dy,e]⟩
 |_=>exact tu h pre
theorem EW {H:aj}{g:GV}{q:PV}(hg:EX H g q):canon (dy H g).1= .pure q:=by
 have h3:=(qg hg).1
 cases g with
 |bc nm es top lo len=>
  show canon (dY H (.bc nm es top lo len)).1=_
  have e: ∃p,(dY H (.bc nm es top lo len)).1= .pure p:=⟨_,rfl⟩;obtain⟨p,hp⟩:=e;rw [hp]at h3⊢;have:p=q:=by
   have h4:cn (.pure p)=GV.pure p:=rfl;rw [h4]at h3;cases h3;rfl
  rw [this];obtain⟨rows,v,ro,a1,a2,a3,a4,a5,a6⟩:=hg;rw [a6];rfl
 |pure p=>cases hg;rfl
 |aW=>cases hg;rfl
 |_=>exact hg.elim
inductive nR (H:aj) (F:Fr) (pre:aj):List GV→List GV→Prop
 |nil:nR H F pre [] []
 |ptr {nm:Nm} {o:Nat} {l m:List GV} (h:nR H F pre l m):nR H F pre (.ay nm o::l) (.ay nm o::m)
 |rd {g:GV} {q:PV} {l m:List GV} (hg:pM (pre++F::H) g q) (ht:Mv H.length g) (h:nR H F pre l m):nR H F pre (g::l) (.pure q::m)
 |Xv {g:GV} {q:PV} {l m:List GV} (hg:EX (pre++F::H) g q) (hq:canon (.pure q)= .pure q) (ht:Mv H.length g) (h:nR H F pre l m):nR H F pre (g::l) (.pure q::m)
theorem nS.pre {F F':Fr}(h:qh F F'): ∀pre:aj,nS (pre++F::H) (pre++F'::H)
 | []=> .cons h (nS.refl H)
 |X::pre=> .cons (qh.refl X) (nS.pre h pre)
theorem qh.Cj {F F':Fr}: ∀{pre:aj},nS (pre++F::H) (pre++F'::H)→qh F F'
 | [],h=>by cases h with|cons a _=>exact a
 |X::pre,h=>by cases h with|cons _ b=>exact qh.Cj b
theorem nR.ro {F F':Fr}{pre:aj}(hr:qh F F'){l m:List GV}(h:nR H F pre l m):nR H F' pre l m:=by
 induction h with
 |nil=>exact .nil
 |ptr _ ih=>exact .ptr ih
 |rd hg ht _ ih=>exact .rd (rm (nS.sim (nS.pre hr pre)) hg) ht ih
 |Xv hg hq ht _ ih=>exact .Xv (Eg (nS.sim (nS.pre hr pre)) hg) hq ht ih
theorem uy {pre:aj}: ∀{l m:List GV} {F:Fr},nR H F pre l m→ ∃F',qh F F'∧(bs (pre++F::H) l).2=pre++F'::H∧(bs (pre++F::H) l).1.map canon=m.map canon
 |_,_,F, .nil=>⟨F,qh.refl F,rfl,rfl⟩
 |_,_,F, .ptr h=>by
  obtain⟨F',r,e1,e2⟩:=uy h;refine⟨F',r, ?_, ?_⟩
  ·simp only [bs,dy,dY,e1]
  ·simp only [bs,dy,dY,List.map_cons,e2]
 |g::l,_,F, .rd hg ht h=>by
  obtain⟨F1,e1⟩:=uX (F:=F) ht pre;have r1:qh F F1:=by
   have:=xo (pre++F::H) g;rw [e1]at this;exact qh.Cj this
  obtain⟨F',r,e2,e3⟩:=uy (h.ro r1);have hc:=(m7 hg).1;refine⟨F',r1.trans r, ?_, ?_⟩
  ·simp only [bs,e1,e2]
  ·simp only [bs,e1,List.map_cons,e3,hc];congr 1
 |g::l,_,F, .Xv hg hq ht h=>by
  obtain⟨F1,e1⟩:=uX (F:=F) ht pre;have r1:qh F F1:=by
   have:=xo (pre++F::H) g;rw [e1]at this;exact qh.Cj this
  obtain⟨F',r,e2,e3⟩:=uy (h.ro r1);have hc:=EW hg;refine⟨F',r1.trans r, ?_, ?_⟩
  ·simp only [bs,e1,e2]
  ·simp only [bs,e1,List.map_cons,e3,hc,hq]
theorem uY {f:FuncId}(h1:KC.wP f=false)(h2:KC.Af f=false)(h3:KC.EO f=true)(pre:aj){l m:List GV}{F:Fr}(h:nR H F pre l m):
  ∃F',qh F F'∧ ∀c,aL KC (aE KC) f l c (pre++F::H)=bI KC (aE KC) f m c (pre++F'::H):=by
 obtain⟨F',r,e1,e2⟩:=uy h;refine⟨F',r,fun c=> ?_⟩;rw [jK h1 h2 h3,e1];exact wU e2
theorem Au.rd {F:Fr}{g:GV}{A:List ak}(h:Au H F g A):EX (F::H) g (.slice (A.map ak.row)):=by
 rcases h with ⟨rfl,rfl⟩|⟨hne,key,v,rfl,hg,hv⟩
 ·rfl
 ·exact⟨A.map ak.row,v,false,by simpa using hg,by simpa using hv,by simp,rfl,rfl,rfl⟩
theorem Au.top {F:Fr}{g:GV}{A:List ak}(h:Au H F g A):Mv H.length g:=by
 rcases h with ⟨rfl,rfl⟩|⟨hne,key,v,rfl,hg,hv⟩
 ·intro nm es top lo len e;cases e
 ·intro nm es top lo len e;cases e;rfl
end
section
variable {c:Nat} {H:aj}
noncomputable def wM (S:a7)(st:LoopState)(p:Option GX):fL:={eA:=S,nt:=69,params:=[44],assign:=rgA Tryz.f116,body:=rgB Tryz.f116,fn:=116,state:=st,pending:=p}
def Ck (r:aA)(s:aw)(l:List ak)(n:Int)(b:Bool)(lb:fL):Fr:=
 [(9,bM r s),(10, .box [.pure (.slice (l.map ak.row))]),(11, .box [.pure (.int .i64 n)]),(12, .box [.pure (.bool b)]),(10000010, .loop lb)]
def CT (r:aA)(s:aw)(l:List ak)(n:Int)(b:Bool)(lb:fL)(G:aj):aj:=Ck r s l n b lb::G
section
variable {r:aA} {s:aw} {l:List ak} {n:Int} {b:Bool} {lb:fL} {G:aj} {L:Nat} (hL:G.length=L) (pre:aj)
include hL
theorem TC:(pre++CT r s l n b lb G).length=pre.length+(L+1):=by simp [CT,hL]
theorem sF (k:Nat):aj.get (pre++CT r s l n b lb G) (L,k)=(Ck r s l n b lb).get k:=by
 rw [m6 (by simp [CT,hL])];unfold CT;rw [aj.fb,if_pos hL.symm]
theorem TD {nm:Nm}(h:nm.1<L):aj.get (pre++CT r s l n b lb G) nm=aj.get G nm:=by
 rw [m6 (by simp [CT,hL];omega)];unfold CT;rw [aj.fb,if_neg (by omega)]
theorem Eh (lb':fL):aj.set (pre++CT r s l n b lb G) (L,10000010) (.loop lb')=pre++CT r s l n b lb' G:=by
 rw [ri (by simp [CT,hL])];unfold CT;rw [aj.jL,if_pos hL.symm];rfl
theorem Mw (b':Bool):aj.set (pre++CT r s l n b lb G) (L,12) (.box [.pure (.bool b')])=pre++CT r s l n b' lb G:=by
 rw [ri (by simp [CT,hL])];unfold CT;rw [aj.jL,if_pos hL.symm];rfl
end
theorem Av (l:List ak)(hn:l.length≤1000000){F:Fr}(hf:F.get (ao c 7)=none): ∃g F',Au H F' g l∧(∀q top,g= .bc (H.length,q) 9 top 0 top→q=ao c 7)∧(∀k,k≠ao c 7→F'.get k=F.get k)∧
  aL KC (aE KC) 75 [.pure (.slice (l.map ak.row))] c (F::H)=some (g,F'::H):=by
 refine⟨_,_, ?_, ?_, ?_,Aw l hn hf⟩
 ·unfold cY;by_cases h:l=[]
  ·subst h;exact Or.inl ⟨rfl,rfl⟩
  ·refine Or.inr ⟨h,ao c 7,0,by rw [if_neg (by simpa using h)];simp, ?_,Nat.zero_le _⟩;exact cV (by simpa using h)
 ·intro q top e;unfold cY at e;split at e
  ·cases e
  ·cases e;rfl
 ·intro k hk;exact bQ hk
noncomputable def Xw (r:aA)(s:aw)(l:List ak)(n:Nat)(S:a7)(up:aj→aj)(C:GV→aj)(a:GV×Bool):aj:=
 CT r s l ((n:Int)+1) a.2 (wM S (if a.2=true then .done else .ready) (if a.2=true then some .ret else none)) (up (C a.1))
section
variable {r:aA} {w:Nat} {ai:List ak} {nU:Nat} {n3 n8 n9 n11 n15 n16 n17:Nm} {n0:Nat} {C:GV→aj} (M:ZA r w ai nU n3 n8 n9 n11 n15 n16 n17 n0 C) (P:xn r w ai nU)
include M P
theorem TE {fin:aw→List ak→Bool} {all:List ak} {s:aw} (hS:fT r s) (hF:Full s) (l:List ak) (hl:l.length≤100000) {n:Nat} (hn:n≤1000)
  (ih: ∀(c:Nat) (s:aw) (l:List ak) (g:GV) (pre:aj),fT r s→Full s→l.length+n≤100001→
   bI KC (aE KC) 116 [.pure (.agg (aP r s)), .pure (.slice (l.map ak.row)), .pure (.int .i64 n), .ay n8 0, .ay n11 0, .ay n16 0, .ay n15 0, .ay n9 0, .ay n17 0] c (pre++C g)=
    some (.pure (.bool (gZ r w all fin n s l g).2),pre++C (gZ r w all fin n s l g).1))
  (hln:l.length+1+n≤100001) {x:ak} (hx:AB r w x) (hp:b7 r s w x=true) (S:a7) {L:Nat} (pre0:aj) (hL:pre0.length+n0=L) (h9:look S 9= .ay (L,9) 0) (h10:look S 10= .ay (L,10) 0) (h11:look S 11= .ay (L,11) 0) (h12:look S 12= .ay (L,12) 0) (h6:look S 6= .ay n15 0) (h8:look S 8= .ay n17 0) (g:GV) (pre:aj):
  ground (aE KC) (L,10000010) [.pure (.agg x.row)] (pre++CT r s l ((n:Int)+1) false (wM S .ready none) (pre0++C g))=
   some (.pure (.bool (if gK r w (da s w x)=true then true else !(gZ r w all fin n (da s w x) (l++[x]) g).2)),pre++Xw r s l n S (pre0++ ·) C (if gK r w (da s w x)=true then (g,false)else gZ r w all fin n (da s w x) (l++[x]) g)):=by
 have hG: ∀g,(pre0++C g).length=L:=fun g=>(by rw [List.length_append,M.len,hL]);have gl:=fun(lb:fL) (g:GV) (b:Bool) (pre:aj)=>sF (r:=r) (s:=s) (l:=l) (n:=(n:Int)+1) (b:=b) (lb:=lb) (hG g) pre 10000010;refine aM (ER KC au (l:=wM S .ready none) (s:=(44, .pure (.agg x.row))::S) ?_ rfl ?_ ?_ ?_ ?_)
 ·rw [gl];rfl
 ·simp [wM,ir]
 ·kernel_rfl
 ·kernel_rfl
 ·show wp KC au 116 (rgA Tryz.f116) _ _
  conv=>arg 4;whnf
  have ln:=fun lb g b pre=>TC (r:=r) (s:=s) (l:=l) (n:=(n:Int)+1) (b:=b) (lb:=lb) (hG g) pre;have gl2:=fun(lb:fL) (g:GV) (b:Bool) (pre:aj)=>(gl lb g b pre).trans (show _=some (.loop lb)from rfl)
  have sl:=fun(lb lb':fL) (g:GV) (b:Bool) (pre:aj)=>Eh (r:=r) (s:=s) (l:=l) (n:=(n:Int)+1) (b:=b) (lb:=lb) (hG g) pre lb';have g9:=fun(lb:fL) (g:GV) (b:Bool) (pre:aj)=>(sF (r:=r) (s:=s) (l:=l) (n:=(n:Int)+1) (b:=b) (lb:=lb) (hG g) pre 9).trans (show _=some (bM r s)from rfl)
  have g10:=fun(lb:fL) (g:GV) (b:Bool) (pre:aj)=>(sF (r:=r) (s:=s) (l:=l) (n:=(n:Int)+1) (b:=b) (lb:=lb) (hG g) pre 10).trans (show _=some (.box [.pure (.slice (l.map ak.row))])from rfl)
  have Xt:=fun(lb:fL) (g:GV) (b:Bool) (pre:aj)=>(sF (r:=r) (s:=s) (l:=l) (n:=(n:Int)+1) (b:=b) (lb:=lb) (hG g) pre 11).trans (show _=some (.box [.pure (.int .i64 ((n:Int)+1))])from rfl)
  have low:=fun(lb:fL) (g:GV) (b:Bool) (pre:aj) (nm:Nm) (h:nm.1<n0)=>(TD (r:=r) (s:=s) (l:=l) (n:=(n:Int)+1) (b:=b) (lb:=lb) (hG g) pre (nm:=nm) (by omega)).trans (m6 (G:=C g) (by rw [M.len];exact h) pre0);have g3:=fun(lb:fL) (g:GV) (b:Bool) (pre:aj)=>(low lb g b pre n3 M.l3).trans (M.g3 g);have g9':=fun(lb:fL) (g:GV) (b:Bool) (pre:aj)=>(low lb g b pre n9 M.l9).trans (M.g9 g);have Qf:=fun(lb:fL) (g:GV) (b:Bool) (pre:aj)=>(low lb g b pre n15 M.ZB).trans (M.Qf g);have Xu:=fun(lb:fL) (g:GV) (b:Bool) (pre:aj)=>(low lb g b pre n17 M.l17).trans (M.Xu g);have m15:=M.ZB;have m17:=M.l17;have e0: ¬L=pre.length+(L+1):=(by omega);have e1: ¬L=pre.length+(L+1)+1:=(by omega);have e15: ¬n15.1=pre.length+(L+1):=(by omega);have e15': ¬n15.1=pre.length+(L+1)+1:=(by omega);have e17: ¬n17.1=pre.length+(L+1):=(by omega);have e17': ¬n17.1=pre.length+(L+1)+1:=(by omega);have hS2:=hS.TA hx hp;have hF2:=rq hS hS2 hF;have hxw:x.aO.toNat=w:=(by rw [hx.aO];rfl);have MN:=fun(c:Nat) (H:aj) (hH:0<H.length)=>xp (c:=c) (H:=H) hS P.hr.w hF [x] (by simp) (fun a ha=>by rw [List.mem_singleton.1 ha,hxw];exact hx) hH;rw [uZ (by rw [hxw];exact hp),hxw]at MN;simp only [List.map_cons,List.map_nil]at MN;have SN:=fun(c:Nat) (lb:fL) (g:GV) (b:Bool) (pre:aj)=>Ed (c:=c) (H:=pre++CT r s l ((n:Int)+1) b lb (pre0++C g)) P.hr.sh (s:=da s w x) (w:=w) (by rw [hS2.pl];exact P.wl) (g3 lb g b pre) (g9' lb g b pre) (by rw [ln];omega);have SN2:=fun c lb g b X=>SN c lb g b (X::pre);simp only [List.cons_append]at SN2;rw [bE]at MN;rw [aP,aP]at MN;rw [aP]at SN2;simp [Ah,bE,ln,gl2,sl];refine⟨by show 16<69;omega,rfl, ?_⟩
  show wp KC au 116 (rgB Tryz.f116) ⟨_,_::(pre++CT r s l ((n:Int)+1) false (wM S .busy none) (pre0++C g)),69⟩ _
  conv=>arg 4;whnf
  cases hs2:gK r w (da s w x)with
  |true=>
   rw [hs2]at SN2;simp [h9,h10,h11,h12,h6,h8,ln,g9,bM,e0,MN,SN2,e15,e17,Qf,og,gl2,sl];rfl
  |false=>
   rw [hs2]at SN2;obtain⟨gc,F1,L1,k1,f1,CE⟩:=Av (c:=61) (H:=pre++CT r s l ((n:Int)+1) false (wM S .busy none) (pre0++C g)) l (by omega) (F:=[(16, .box [.pure (.int .i64 x.ba), .pure (.int .i64 x.aO), .pure (.int .i64 x.kind), .pure (.int .i64 x.hand), .pure (.int .i64 x.bf), .pure (.int .i64 x.cell), .pure (.int .i64 x.other), .pure (.int .i64 x.cd), .pure (.int .i64 x.gR)]),(17, .box [.pure (.int .i64 r.wide), .pure (.int .i64 r.deep), .pure (.slice (r.ah.map aS.row)), .pure (.slice (r.aa.map aZ.row)), .pure (.slice (r.seen.map aF)), .pure (.slice (r.aX.map aF)), .pure (.slice (r.ai.map ak.row)), .pure (.slice ((da s w x).ah.map aF)), .pure (.slice ((da s w x).aq.map aG.row)), .pure (.slice ((da s w x).aa.map bC.row))])]) (by simp [ao]);have d16:(16:Nat)≠ao 61 7:=(by decide);have d64:(64:Nat)≠ao 61 7:=(by decide);have f16:=f1 16 d16;have f64:=f1 64 d64;have f17:=f1 17 (by decide);simp at f16 f64 f17;simp [h9,h10,h11,h12,h6,h8,ln,g9,g10,Xt,bM,e0,MN,SN2,e15,e17,Qf,Xu,CE,f16,f17,-uO];rw [←ln (wM S .busy none) g false pre];refine HE (key:=64) (H:=pre++CT r s l ((n:Int)+1) false (wM S .busy none) (pre0++C g)) x L1 f64 (by omega) _ fun g2 F2 L2 k2 f2=> ?_;have nk: ∀q,q≠ao 61 7→ ∀top,gc≠ .bc ((pre++CT r s l ((n:Int)+1) false (wM S .busy none) (pre0++C g)).length,q) 9 top 0 top:=fun q hq top e=>hq (k1 q top e);have f16':=(f2 16 (by decide) (nk 16 d16)).trans f16;have f17':=(f2 17 (by decide) (nk 17 (by decide))).trans f17;obtain⟨F3,r3,e3⟩:=uY (f:=116) rfl rfl rfl [] (F:=F2) (H:=pre++CT r s l ((n:Int)+1) false (wM S .busy none) (pre0++C g)) (.rd (g:= .pure (.agg (aP r (da s w x)))) rfl my (.Xv L2.rd rfl L2.top (.rd (g:= .pure (.int .i64 n)) rfl my (.ptr (nm:=n8) (o:=0) (.ptr (nm:=n11) (o:=0) (.ptr (nm:=n16) (o:=0) (.ptr (nm:=n15) (o:=0) (.ptr (nm:=n9) (o:=0) (.ptr (nm:=n17) (o:=0) .nil)))))))));have I0:=ih 67 (da s w x) (l++[x]) g ((F3::pre)++[Ck r s l ((n:Int)+1) false (wM S .busy none)]++pre0) hS2 hF2 (by simp;omega);have hsh: ∀g,((F3::pre)++[Ck r s l ((n:Int)+1) false (wM S .busy none)]++pre0)++C g=F3::(pre++CT r s l ((n:Int)+1) false (wM S .busy none) (pre0++C g)):=fun g=>(by simp [CT]);rw [hsh,hsh]at I0;have I:=(e3 67).trans I0;have fl:=fun(lb:fL) (g:GV) (b b':Bool) (pre:aj)=>Mw (r:=r) (s:=s) (l:=l) (n:=(n:Int)+1) (b:=b) (lb:=lb) (hG g) pre b';have g12:=fun(lb:fL) (g:GV) (b:Bool) (pre:aj)=>(sF (r:=r) (s:=s) (l:=l) (n:=(n:Int)+1) (b:=b) (lb:=lb) (hG g) pre 12).trans (show _=some (.box [.pure (.bool b)])from rfl)
   have hwn:=dp (x:=(n:Int)) (by omega) (by omega);rw [aP]at I;simp only [List.nil_append]at I;generalize hT:gZ r w all fin n (da s w x) (l++[x]) g=T at I⊢;obtain⟨Tg,Tb⟩:=T
   cases Tb with
   |true=>
    simp only at I;simp [h9,h10,h11,h12,h6,h8,ln,g9,g10,Xt,bM,e0,e15,e17,Qf,Xu,f16',f17',hwn,I,fl,g12,og,gl2,sl];rfl
   |false=>
    simp only at I;simp [h9,h10,h11,h12,h6,h8,ln,g9,g10,Xt,bM,e0,e15,e17,Qf,Xu,f16',f17',hwn,I,fl,g12,og,gl2,sl];rfl
end
end
section
variable {c:Nat} {H:aj}
section
variable {r:aA} {w:Nat} {ai:List ak} {nU:Nat} {n3 n8 n9 n11 n15 n16 n17:Nm} {n0:Nat} {C:GV→aj} (M:ZA r w ai nU n3 n8 n9 n11 n15 n16 n17 n0 C) (P:xn r w ai nU)
include M P
theorem ZD {fin:aw→List ak→Bool} {all:List ak} {s:aw} (hS:fT r s) (hF:Full s) (l:List ak) (hl:l.length≤100000) {n:Nat} (hn:n≤1000)
  (ih: ∀(c:Nat) (s:aw) (l:List ak) (g:GV) (pre:aj),fT r s→Full s→l.length+n≤100001→
   bI KC (aE KC) 116 [.pure (.agg (aP r s)), .pure (.slice (l.map ak.row)), .pure (.int .i64 n), .ay n8 0, .ay n11 0, .ay n16 0, .ay n15 0, .ay n9 0, .ay n17 0] c (pre++C g)=
    some (.pure (.bool (gZ r w all fin n s l g).2),pre++C (gZ r w all fin n s l g).1))
  (hln:l.length+1+n≤100001) (S:a7) {L:Nat} (pre0:aj) (hL:pre0.length+n0=L) (h9:look S 9= .ay (L,9) 0) (h10:look S 10= .ay (L,10) 0) (h11:look S 11= .ay (L,11) 0) (h12:look S 12= .ay (L,12) 0) (h6:look S 6= .ay n15 0) (h8:look S 8= .ay n17 0):
  Aq (L,10000010) (L+1) (GV×Bool) (Xw r s l n S (pre0++ ·) C) (b7 r s w) (fun x (a:GV×Bool)=>if gK r w (da s w x)=true then true else !(gZ r w all fin n (da s w x) (l++[x]) a.1).2)
   (fun x (a:GV×Bool)=>if gK r w (da s w x)=true then a else gZ r w all fin n (da s w x) (l++[x]) a.1) (fun a=>a.2=false) (AB r w) where
 pos:=by omega
 lp:=by simp
 len:=fun a=>by simp [Xw,CT,M.len,hL]
 gr:=fun x a pre hx hp ha=>by
  obtain⟨g,b⟩:=a;simp only at ha;subst ha;exact TE M P hS hF l hl hn ih hln hx hp S pre0 hL h9 h10 h11 h12 h6 h8 g pre
 ZE:=fun x a hx ha hc=>by
  split at hc
  ·rename_i hs;rw [if_pos hs];exact ha
  ·rename_i hs;rw [if_neg hs];simpa using hc
theorem EY {fin:aw→List ak→Bool} {s:aw} (hS:fT r s) (hF:Full s) (l:List ak) (hl:l.length≤100000) {n nc:Nat} (hn:n≤1000) (hnc:IntKind.i64.wrap (r.wide*r.deep)=nc) (hnc2:(nc:Int)=r.wide*r.deep) (hnc0:nc≤1000000)
  (ih: ∀(c:Nat) (s:aw) (l:List ak) (g:GV) (pre:aj),fT r s→Full s→l.length+n≤100001→
   bI KC (aE KC) 116 [.pure (.agg (aP r s)), .pure (.slice (l.map ak.row)), .pure (.int .i64 n), .ay n8 0, .ay n11 0, .ay n16 0, .ay n15 0, .ay n9 0, .ay n17 0] c (pre++C g)=
    some (.pure (.bool (gZ r w (bL nc r.aa.length r.ah.length w) fin n s l g).2),pre++C (gZ r w (bL nc r.aa.length r.ah.length w) fin n s l g).1))
  (hln:l.length+1+n≤100001) {L:Nat} (pre0:aj) (hL:pre0.length+n0=L) (g:GV) (hs:gK r w s=false) (st:bO) (Q:GX→bO→Prop)
  (hh:st.h=[(9,bM r s),(10, .box [.pure (.slice (l.map ak.row))]),(11, .box [.pure (.int .i64 ((n:Int)+1))]),(12, .box [.pure (.bool false)])]::(pre0++C g))
  (hnt:st.nt=69) (h9:look st.s 9= .ay (L,9) 0) (h10:look st.s 10= .ay (L,10) 0) (h11:look st.s 11= .ay (L,11) 0) (h12:look st.s 12= .ay (L,12) 0) (h6:look st.s 6= .ay n15 0) (h8:look st.s 8= .ay n17 0)
  (h43:look st.s 43= .func 132 [] [.bX (aP r s), .bX [.int .i64 w]])
  (hq: ∀lb,Q (if (gZ r w (bL nc r.aa.length r.ah.length w) fin (n+1) s l g).2=true then .ret else .normal)
   {st with h:=CT r s l ((n:Int)+1) (gZ r w (bL nc r.aa.length r.ah.length w) fin (n+1) s l g).2 lb (pre0++C (gZ r w (bL nc r.aa.length r.ah.length w) fin (n+1) s l g).1)}):
  WP KC au 116 (.rangeFunc (.tmp 43) #[44] (rgA Tryz.f116) (rgB Tryz.f116)) st Q:=by
 have hC:=ZD M P hS hF l hl hn ih hln st.s pre0 hL h9 h10 h11 h12 h6 h8;have hR:=fun c=>yL (c:=c) hC hS P.hr.w (fun x hx=>hx) hnc hnc0 (fun x hx=>(mz (n:=nc) hnc2.symm P.wl hx).1) (a:=(g,false)) rfl;have hfr:aY (rgB Tryz.f116)=10:=by kernel_rfl
 have et:gZ r w (bL nc r.aa.length r.ah.length w) fin (n+1) s l g=(fk (b7 r s w) (fun x (a:GV×Bool)=>if gK r w (da s w x)=true then true else !(gZ r w (bL nc r.aa.length r.ah.length w) fin n (da s w x) (l++[x]) a.1).2)
   (fun x (a:GV×Bool)=>if gK r w (da s w x)=true then a else gZ r w (bL nc r.aa.length r.ah.length w) fin n (da s w x) (l++[x]) a.1) (bL nc r.aa.length r.ah.length w) (g,false)).1:=by
  conv=>lhs;unfold gZ
  rw [if_neg (by simp [hs])]
 rw [et]at hq
 generalize (fk (b7 r s w) (fun x (a:GV×Bool)=>if gK r w (da s w x)=true then true else !(gZ r w (bL nc r.aa.length r.ah.length w) fin n (da s w x) (l++[x]) a.1).2)
   (fun x (a:GV×Bool)=>if gK r w (da s w x)=true then a else gZ r w (bL nc r.aa.length r.ah.length w) fin n (da s w x) (l++[x]) a.1) (bL nc r.aa.length r.ah.length w) (g,false)).1=T at hR hq
 have hG: ∀g,(pre0++C g).length=L:=fun g=>(by rw [List.length_append,M.len,hL]);refine Hs KC au (nm:=(L,10000010)) (H1:=Xw r s l n st.s (pre0++ ·) C (g,false)) (H2:=Xw r s l n st.s (pre0++ ·) C T) (v:= .pure (.tuple [])) ?_ ?_ ?_
 ·rw [hh,hfr,hnt];simp [iC,kj,Xw,CT,Ck,wM,hL,M.len]
 ·simp only [ev,h43];exact hR 0
 ·have gl:=sF (r:=r) (s:=s) (l:=l) (n:=(n:Int)+1) (b:=T.2) (lb:=wM st.s (if T.2=true then .done else .ready) (if T.2=true then some .ret else none)) (hG T.1) [] 10000010;have hlp:=gl.trans (show _=some (dE.loop (wM st.s (if T.2=true then .done else .ready) (if T.2=true then some .ret else none)))from rfl)
  have sl:=Eh (r:=r) (s:=s) (l:=l) (n:=(n:Int)+1) (b:=T.2) (lb:=wM st.s (if T.2=true then .done else .ready) (if T.2=true then some .ret else none)) (hG T.1) [];unfold uQ;show Qe (aj.get (CT r s l ((n:Int)+1) T.2 (wM st.s _ _) (pre0++C T.1)) (L,10000010)) _
  rw [show aj.get (CT r s l ((n:Int)+1) T.2 (wM st.s (if T.2=true then .done else .ready) (if T.2=true then some .ret else none)) (pre0++C T.1)) (L,10000010)=_ from hlp,Hq]
  refine⟨?_, ?_⟩
  ·show (if T.2=true then LoopState.done else .ready)≠ .busy
   split<;>simp
  ·have q:=hq {wM st.s (if T.2=true then .done else .ready) (if T.2=true then some .ret else none)with state:= .exhausted};have s2:=sl {wM st.s (if T.2=true then .done else .ready) (if T.2=true then some .ret else none)with state:= .exhausted};simp only [List.nil_append]at s2;show Q _ {st with h:=aj.set (CT r s l ((n:Int)+1) T.2 (wM st.s (if T.2=true then .done else .ready) (if T.2=true then some .ret else none)) (pre0++C T.1)) (L,10000010) _}
   rw [s2]
   cases hb:T.2 with
   |true=>rw [hb]at q;exact q
   |false=>rw [hb]at q;exact q
end
end
section
variable {c:Nat} {H:aj}
section
variable {r:aA} {w:Nat} {ai:List ak} {nU:Nat} {n3 n8 n9 n11 n15 n16 n17:Nm} {n0:Nat} {C:GV→aj} (M:ZA r w ai nU n3 n8 n9 n11 n15 n16 n17 n0 C) (P:xn r w ai nU)
include M P
theorem HF {nc:Nat}(hnc:IntKind.i64.wrap (r.wide*r.deep)=nc)(hnc2:(nc:Int)=r.wide*r.deep)(hnc0:nc≤1000000): ∀(n:Nat),n≤1000→ ∀(c:Nat) (s:aw) (l:List ak) (g:GV) (pre:aj),fT r s→Full s→l.length+n≤100001→
      bI KC (aE KC) 116 [.pure (.agg (aP r s)), .pure (.slice (l.map ak.row)), .pure (.int .i64 n), .ay n8 0, .ay n11 0, .ay n16 0, .ay n15 0, .ay n9 0, .ay n17 0] c (pre++C g)=
        some (.pure (.bool (gZ r w (bL nc r.aa.length r.ah.length w) (ow r (ai.drop nU)) n s l g).2),pre++C (gZ r w (bL nc r.aa.length r.ah.length w) (ow r (ai.drop nU)) n s l g).1)
  |0,_,c,s,l,g,pre,hS,hF,hl=>ZC M P hS hF l g pre
  |n+1,hn,c,s,l,g,pre,hS,hF,hl=>by
    refine aM (aK KC au Tryz.func116 rfl rfl D6 (by simp) (by simp [M.len];have:=M.pos;omega) ?_);have hlen:=M.len;have G:=fun(g:GV) (nm:Nm) (h:nm.1<n0)=>m6 (G:=C g) (nm:=nm) (by rw [hlen];exact h) pre;have G3:=fun g=>(G g n3 M.l3).trans (M.g3 g);have G9:=fun g=>(G g n9 M.l9).trans (M.g9 g);have G15:=fun g=>(G g n15 M.ZB).trans (M.Qf g);have ne3: ¬n3.1=pre.length+n0:=(by have:=M.l3;omega);have ne9: ¬n9.1=pre.length+n0:=(by have:=M.l9;omega);have ne15: ¬n15.1=pre.length+n0:=(by have:=M.ZB;omega);have h0:(((n:Int)+1)==0)=false:=(by simp;omega);have SN:=fun(c:Nat) (F:Fr)=>Ed (c:=c) (H:=F::(pre++C g)) P.hr.sh (s:=s) (w:=w) (by rw [hS.pl];exact P.wl) (n3:=n3) (n9:=n9) (by rw [aj.fb,if_neg (by simp [hlen,ne3])];exact G3 g) (by rw [aj.fb,if_neg (by simp [hlen,ne9])];exact G9 g) (by simp)
    cases hs:gK r w s with
    |true=>
      have et:gZ r w (bL nc r.aa.length r.ah.length w) (ow r (ai.drop nU)) (n+1) s l g=(g,false):=by
        unfold gZ;rw [if_pos hs]
      rw [et];rw [hs,aP]at SN;rw [aP];simp [hlen,h0,ne3,ne9,ne15,G15,G9,SN,ae]
    |false=>
      have R:=fun st Q=>EY M P hS hF l (by omega) (n:=n) (fin:=ow r (ai.drop nU)) (by omega) hnc hnc2 hnc0 (fun c s l g pre hS hF hl=>HF hnc hnc2 hnc0 n (by omega) c s l g pre hS hF hl) (by omega) pre rfl g hs st Q;have PG:=fun(c:Nat) (H:aj) (hH:0<H.length)=>HC (c:=c) (H:=H) (r:=r) (s:=s) (w:=w) hH;rw [hs]at SN;simp only [aP]at SN PG R⊢;simp [hlen,h0,ne3,ne9,ne15,G15,G9,SN,PG];generalize gZ r w (bL nc r.aa.length r.ah.length w) (ow r (ai.drop nU)) (n+1) s l g=T at R⊢;obtain⟨Tg,Tb⟩:=T;refine R _ _ (by simp [bM]) rfl (by simp [look]) (by simp [look]) (by simp [look]) (by simp [look]) (by simp [look]) (by simp [look]) (by simp [look]) fun lb=> ?_
      cases Tb with
      |true=>
        simp [CT,Ck,hlen,ae]
      |false=>
        simp [CT,Ck,hlen,ae]
end
end
section
variable {c:Nat} {H:aj}
def Cb (r:aA)(w:Nat)(ai:List ak)(nU:Nat)(s:aw)(L:Nat)(g:GV):Fr:=
 [(3,aU r),(8, .box [.pure (.slice (ai.map ak.row))]),(9, .box [.pure (.int .i64 w)]),(11, .box [.pure (.int .i64 nU)]),(12,bM r s),(15, .box [.func 114 [] [.ay (L,3) 0, .ay (L,9) 0]]),(16, .box [g]),(17, .box [.func 116 [] [.ay (L,8) 0, .ay (L,11) 0, .ay (L,16) 0, .ay (L,15) 0, .ay (L,9) 0, .ay (L,17) 0]])]
theorem ZF (r:aA)(w:Nat)(ai:List ak)(nU:Nat)(s:aw)(H:aj):ZA r w ai nU (H.length,3) (H.length,8) (H.length,9) (H.length,11) (H.length,15) (H.length,16) (H.length,17) (H.length+1) (fun g=>Cb r w ai nU s H.length g::H) where
 pos:=by omega
 len:=fun g=>by simp
 l3:=by simp
 l8:=by simp
 l9:=by simp
 l11:=by simp
 ZB:=by simp
 l16:=by simp
 l17:=by simp
 g3:=fun g=>by simp [Cb]
 g8:=fun g=>by simp [Cb]
 g9:=fun g=>by simp [Cb]
 Xt:=fun g=>by simp [Cb]
 Qf:=fun g=>by simp [Cb]
 g16:=fun g=>by simp [Cb]
 s16:=fun g g'=>by simp [Cb]
 Xu:=fun g=>by simp [Cb]
section
variable {r:aA} {w:Nat} {ai:List ak} {nU:Nat} (P:xn r w ai nU)
include P
theorem Ax {nc:Nat}(hnc:IntKind.i64.wrap (r.wide*r.deep)=nc)(hnc2:(nc:Int)=r.wide*r.deep)(hnc0:nc≤1000000){s:aw}(hS:fT r s)(hF:Full s)(Q:GX→bO→Prop): ∀(k n:Nat) (g:GV),n+k=4→
  (((List.range' n k).findSome? fun n=>yM r w (bL nc r.aa.length r.ah.length w) (ow r (ai.drop nU)) n s [])=none→ ∀g',Q (.exit 0) ⟨[(6,aN),(7,aN)],Cb r w ai nU s H.length g'::H,60⟩)→
  (∀x,((List.range' n k).findSome? fun n=>yM r w (bL nc r.aa.length r.ah.length w) (ow r (ai.drop nU)) n s [])=some x→ ∀g',Q .ret ⟨[(6, .pure (.slice (x.map ak.row))),(7, .pure (.bool true))],Cb r w ai nU s H.length g'::H,60⟩)→
  iB KC au 79 (lp Tryz.f79 0) [12,16,17,51] [6,7] Q [(12, .ay (H.length,12) 0),(16, .ay (H.length,16) 0),(17, .ay (H.length,17) 0),(51, .pure (.int .i64 n))] (Cb r w ai nU s H.length g::H) 60:=by
 have M:=ZF r w ai nU s H;have ne1: ¬H.length=H.length+1:=(by omega);intro k
 induction k with
 |zero=>
  intro n g hk h1 _;have hn:n=4:=(by omega);subst hn;have h1':=h1 rfl g;apply ax;conv=>arg 4;whnf
  simp;simpa using h1'
 |succ k ih=>
  intro n g hk h1 h2;have hn:(n:Int)<4:=(by omega);have hw:=dp (x:=(n:Int)+1) (by omega) (by omega);have T:=HF M P hnc hnc2 hnc0 n (by omega) 57 s [] g [[]] hS hF (by simp;omega);obtain⟨t1,t2⟩:=Ec (r:=r) (w:=w) (all:=bL nc r.aa.length r.ah.length w) (fin:=ow r (ai.drop nU)) (fun x hx=>(mz (n:=nc) hnc2.symm P.wl hx).1) n s [] g hS;obtain⟨F',r3,e3⟩:=uY (f:=116) rfl rfl rfl [] (F:=[]) (H:=Cb r w ai nU s H.length g::H) (.rd (g:= .pure (.agg (aP r s))) rfl my (.Xv (g:= .aW) (q:= .slice []) rfl rfl (fun _ _ _ _ _ e=>by cases e) (.rd (g:= .pure (.int .i64 n)) rfl my (.ptr (nm:=(H.length,8)) (o:=0) (.ptr (nm:=(H.length,11)) (o:=0) (.ptr (nm:=(H.length,16)) (o:=0) (.ptr (nm:=(H.length,15)) (o:=0) (.ptr (nm:=(H.length,9)) (o:=0) (.ptr (nm:=(H.length,17)) (o:=0) .nil)))))))));have hF':=r3.empty;subst hF';have I:=(e3 57).trans T;simp only [aP,List.nil_append,List.cons_append]at I;rw [List.range'_succ,List.findSome?_cons]at h1 h2;generalize gZ r w (bL nc r.aa.length r.ah.length w) (ow r (ai.drop nU)) n s [] g=X at I t1 t2;obtain⟨Xg,Xb⟩:=X;obtain⟨o,ho⟩: ∃o,yM r w (bL nc r.aa.length r.ah.length w) (ow r (ai.drop nU)) n s []=o:=⟨_,rfl⟩;rw [ho]at t1 t2 h1 h2
  cases o with
  |some x=>
   have h2':=h2 x rfl Xg;have e1:Xb=true:=t1;have e2:Xg= .pure (.slice (x.map ak.row)):=t2 x rfl;subst e1 e2;simp only [Cb,bM]at I h2'⊢;apply ax;conv=>arg 4;whnf
   simp [hn,ne1,I];simpa using h2'
  |none=>
   have e1:Xb=false:=t1;subst e1;have ih':=ih (n+1) Xg (by omega) h1 h2;simp only [Cb,bM]at I ih'⊢;apply ax;conv=>arg 4;whnf
   simp [hn,ne1,I,hw];simpa using ih'
end
end
section
variable {c:Nat} {H:aj}
def Mx (o:Option (List ak)):PV:= .tuple (match o with|some l=> [.slice (l.map ak.row), .bool true]|none=> [.slice [], .bool false])
theorem Cl {r:aA}{k:Nat}{kind:Int}(h:ma r k kind)(h20:r.ai.length≤20)(hH:0<H.length):
  bI KC (aE KC) 79 [.pure (.agg r.row), .pure (.int .i64 k), .pure (.int .i64 kind)] c H=some (.pure (Mx (jC r k kind)),H):=by
 refine aM (aK KC au Tryz.func79 rfl rfl Tk (by simp) hH ?_);have sh:=h.run.sh;have tm: ∀a∈r.ai,0≤a.ba∧a.ba≤1000000:=fun a ha=>(by have:=h.tm a ha;omega);have hlt:=h.lt;have hg:=h.get;have hw0:(r.ai[k]'hlt).aO=(iT r k:Int):=by
  have:=(h.run.ab _ (List.getElem_mem hlt)).aO;unfold iT;rw [hg];exact this
 obtain⟨A,hA⟩: ∃A,gS r k kind=A:=⟨_,rfl⟩;have hAl:A.length≤40:=(by rw [←hA];have:=rr h;have:=h.n40;omega);have hAb: ∀a∈A,AB r a.aO.toNat a:=fun a ha=>(oy h (hA▸ha)).1;have LP:=fun(c:Nat) (H:aj) (hH:0<H.length)=>xq (c:=c) (H:=H) h.run hlt h.pw tm h20 h.hand hH;have AF:=fun(c:Nat) (H:aj) (hH:0<H.length)=>Ay (c:=c) (H:=H) hlt h.run.al (tm _ (List.getElem_mem hlt)) kind A (by omega) (g:= .pure (.slice (A.map ak.row))) rfl hH;rw [hA]at LP;obtain⟨m,hm⟩: ∃m,fF r k kind=m:=⟨_,rfl⟩;rw [hm]at AF;have FP:=fun(c:Nat) (H:aj) (hH:0<H.length)=>sG (c:=c) (H:=H) r h.run.w.pl h.run.w.tl hH;have hF:Full (aJ r):=⟨by simpa [aJ]using h.run.p0,by simpa [aJ]using h.run.p0,by simp [aJ];exact h.run.w.pl,by simp [aJ];exact h.run.w.pl,by simp [aJ];exact h.run.w.tl⟩;have hUb: ∀a∈cL m A,AB r a.aO.toNat a:=fun a ha=>hAb a (jM ha).2;have hUl:(cL m A).length≤A.length:=(List.takeWhile_sublist _).length_le;have RB:=fun(c:Nat) (H:aj) (hH:0<H.length)=>Ee (c:=c) (H:=H) h.run.w (cL m A) (by omega) hUb h.run.snd hF hH;have hsn:=(mw (cL m A).length (aJ r) (cL m A) 0 h.run.snd hUb).1;have eU:cL m A=A.take (cL m A).length:=by
  have e:=jd m A;obtain⟨U,hU⟩: ∃U,cL m A=U:=⟨_,rfl⟩;rw [hU]at e⊢;rw [←e];exact List.take_left.symm
 have eB:A.drop (cL m A).length=behind m A:=by
  have e:=jd m A;obtain⟨V,hV⟩: ∃V,behind m A=V:=⟨_,rfl⟩;obtain⟨U,hU⟩: ∃U,cL m A=U:=⟨_,rfl⟩;rw [hU,hV]at e;rw [hU,hV,←e];exact List.drop_left
 have hlen': ∀x:ak,x.row.length=9:=fun _=>rfl;have hO:jC r k kind=if (bG r (cL m A).length (aJ r) (cL m A) 0).2.2.2≠0 then none else (List.range' 0 4).findSome? fun n=>yM r (iT r k) (bL (r.wide*r.deep).toNat r.aa.length r.ah.length (iT r k)) (ow r (A.drop (cL m A).length)) n (bG r (cL m A).length (aJ r) (cL m A) 0).2.1 []:=by
  unfold jC HG HH;rw [hm,hA,List.range_eq_range',eB];rfl
 rw [hO];have P:xn r (iT r k) A (cL m A).length:=⟨h.run.toQg,h.wl,hAb,by omega,hUl⟩;obtain⟨a1,a2,a3⟩:=h.ru;have rowU:List.take (cL m A).length (A.map ak.row)=(cL m A).map ak.row:=(by rw [←List.map_take,←eU]);obtain⟨q,hq⟩: ∃q,bG r (cL m A).length (aJ r) (cL m A) 0=q:=⟨_,rfl⟩;rw [hq]at RB hsn⊢;have hF2:=rq h.run.snd hsn hF;have ML:=fun Q h1 h2=>Ax (H:=H) P (nc:=(r.wide*r.deep).toNat) (by rw [a1];exact dp (by omega) (by omega)) a1 (by omega) hsn hF2 Q 4 0 .aW rfl h1 h2;obtain⟨u,hu⟩: ∃u,(cL m A).length=u:=⟨_,rfl⟩;rw [hu]at AF rowU hUl ML P⊢;simp only [aP]at FP RB;simp only [eE]at LP AF FP⊢;have unl: ¬(u:Int)<0:=(by omega);by_cases he:q.2.2.2=0
 ·rw [if_neg (by simpa using he)];rw [he]at RB;simp [LP,AF,FP,RB,hlt,ak.row,hw0,rowU,hUl,unl,hlen',-List.map_take];simp only [Cb,bM,aU]at ML;refine ML _ (fun ho g'=> ?_) (fun x ho g'=> ?_)
  ·rw [ho];simp [ae,Mx]
  ·rw [ho];simp [ae,Mx]
 ·have he':(q.2.2.2==0)=false:=(by simpa using he);rw [if_pos he];simp [LP,AF,FP,RB,hlt,ak.row,hw0,rowU,hUl,unl,hlen',he,he',ae,Mx,-List.map_take]
end
section
variable {c:Nat} {H:aj}
theorem u0 {r:aA}{k:Nat}{kind:Int}(h:ma r k kind)(h20:r.ai.length≤20)(hH:0<H.length):
  aL KC (aE KC) 79 [.pure (.agg r.row), .pure (.int .i64 k), .pure (.int .i64 kind)] c H=some (.pure (Mx (jC r k kind)),H):=
 (j3 (f:=79) (c:=c) (H:=H) rfl rfl rfl [.agg r.row, .int .i64 k, .int .i64 kind]).trans (Cl (c:=c) h h20 hH)
theorem oz {r:aA}(sh:gL r)(act kind:Int)(hH:0<H.length):
  aL KC (aE KC) 69 [.pure (.agg r.row), .pure (.int .i64 act), .pure (.int .i64 kind)] c H=some (.pure (.int .i64 (Az r act kind)),H):=eJ rfl rfl rfl rfl rfl hH fun H hH=>u4 sh act kind hH
theorem AA {r:aA}(sh:gL r)(h20:cv r=0→r.ai.length≤20)(act kind:Int)(hH:0<H.length):
  bI KC (aE KC) 34 [.pure (.agg r.row), .pure (.int .i64 act), .pure (.int .i64 kind)] c H=some (.pure (xr r act kind),H):=by
 refine aM (aK KC au Tryz.func34 rfl rfl SJ (by simp) hH ?_);have K:=fun(c:Nat) (H:aj) (hH:0<H.length)=>oz (c:=c) (H:=H) sh act kind hH;unfold xr;by_cases he:Az r act kind=0
 ·obtain⟨k,rfl,hL⟩:=ry sh he;have MP:=fun(c:Nat) (H:aj) (hH:0<H.length)=>u0 (c:=c) (H:=H) hL (h20 hL.run.ck) hH;rw [if_neg (by simpa using he)];rw [he]at K;show mm _ _
  rw [show jC r (k:Int).toNat kind=jC r k kind from rfl]
  cases ho:jC r k kind with
  |some l=>
   rw [ho]at MP;simp only [Mx]at MP;rw [eE]at K MP⊢;simp [K,MP,ae]
  |none=>
   rw [ho]at MP;simp only [Mx]at MP;rw [eE]at K MP⊢;simp [K,MP,ae]
 ·have he':(Az r act kind==0)=false:=(by simpa using he);rw [if_pos he];rw [eE]at K⊢;simp [K,he,he',ae]
end
section
variable {c:Nat} {H:aj}
theorem My {r:aA}(sh:gL r)(h:oc r=0){i:Nat}(hi:i<r.ai.length){x:Int}(hx:1≤x∧x≤3)(hk: ¬(x=2∧(r.ai.getD i cg).kind=1)):ma r i x:=by
 obtain⟨k,e,hL⟩:=ry sh (uz h hi hx hk);have:i=k:=(by omega);rw [this];exact hL
theorem Cm (r:aA)(i:Nat)(x:Int)(l:List Int):pU r i (x::l)=if lJ r i x=true then pU r i l else some ((i:Int),x):=by
 unfold pU;rw [List.findSome?_cons];split
 ·rename_i y hy;split at hy
  ·cases hy
  ·rename_i hb;rw [if_neg hb];exact hy.symm
 ·rename_i hy;split at hy
  ·rename_i hb;rw [if_pos hb]
  ·cases hy
section
variable {r:aA} (sh:gL r) (hrun:oc r=0) (hls: ∀x∈r.aX,1≤x∧x≤3) (h20:r.ai.length≤20)
include sh hrun hls h20
theorem HI {F:Fr}(f1:F.get 1=some (aU r)){i n:Nat}(hi:i<r.ai.length)(Q:GX→bO→Prop): ∀k j:Nat,j+k=r.aX.length→
  (pU r i (r.aX.drop j)=none→Q (.exit 2) ⟨[(1, .ay (H.length,1) 0),(2,aN),(3,aN),(4,aN),(24, .pure (.int .i64 n)),(25, .pure (.int .i64 i))],[]::F::H,59⟩)→
  (∀a b,pU r i (r.aX.drop j)=some (a,b)→Q .ret ⟨[(1, .ay (H.length,1) 0),(2, .pure (.int .i64 a)),(3, .pure (.int .i64 b)),(4, .pure (.int .i64 0)),(24, .pure (.int .i64 n)),(25, .pure (.int .i64 i))],[]::F::H,59⟩)→
  iB KC au 36 (lp Tryz.f36 1) [1,8,24,25,29,30,31] [1,2,3,4,24,25] Q [(1, .ay (H.length,1) 0),(8, .pure (.int .i64 i)),(24, .pure (.int .i64 n)),(25, .pure (.int .i64 i)),(29, .pure (.slice (r.aX.map aF))),(30, .pure (.int .i64 r.aX.length)),(31, .pure (.int .i64 j))] ([]::F::H) 59:=by
 have hal:=sh.l;have ne1: ¬H.length=H.length+1:=(by omega);have ne2: ¬H.length=H.length+2:=(by omega);simp only [aU]at f1;intro k
 induction k with
 |zero=>
  intro j hj h1 _;have e:r.aX.drop j=[]:=List.drop_of_length_le (by omega);rw [e]at h1;have hnl: ¬j<r.aX.length:=(by omega);apply ax;conv=>arg 4;whnf
  simp [hnl];simpa using h1 rfl
 |succ k ih=>
  intro j hj h1 h2;have hja:j<r.aX.length:=(by omega);have hw:=dp (x:=(j:Int)+1) (by omega) (by omega);have ed:r.aX.drop j=r.aX[j]::r.aX.drop (j+1):=List.drop_eq_getElem_cons hja;have hx:=hls _ (List.getElem_mem hja);obtain⟨x,hxe⟩: ∃x,r.aX[j]=x:=⟨_,rfl⟩;rw [hxe]at ed hx;have hg:r.ai.getD i cg=r.ai[i]:=aQ hi;rw [ed,Cm]at h1 h2;have ih':=ih (j+1) (by omega);by_cases hs:x=2∧r.ai[i].kind=1
  ·have hgood:lJ r i x=true:=by
    unfold lJ;rw [hg];simp [hs]
   rw [if_pos hgood]at h1 h2;have ih2:=ih' h1 h2;obtain⟨rfl,hk⟩:=hs;apply ax;conv=>arg 4;whnf
   simp [f1,ne1,ne2,hja,hxe,aF,hi,ak.row,hk,hw];simpa using ih2
  ·have hL:=My sh hrun hi hx (by rw [hg];exact hs);have M:=fun(c:Nat) (H:aj) (hH:0<H.length)=>u0 (c:=c) (H:=H) hL h20 hH;rw [eE]at M;have hgood:lJ r i x=(jC r i x).isSome:=by
    unfold lJ;rw [hg];simp [hs]
   rw [hgood]at h1 h2
   cases ho:jC r i x with
   |some l=>
    rw [ho]at M h1 h2;simp only [Mx]at M;simp only [Option.isSome_some,if_true]at h1 h2;have ih2:=ih' h1 h2;by_cases h2x:x=2
    ·subst h2x;have hk: ¬r.ai[i].kind=1:=fun e=>hs ⟨rfl,e⟩;have hk':(r.ai[i].kind==1)=false:=(by simpa using hk);apply ax;conv=>arg 4;whnf
     simp [f1,ne1,ne2,hja,hxe,aF,hi,ak.row,hk,hk',hw,M];simpa using ih2
    ·have h2x':(x==2)=false:=(by simpa using h2x);apply ax;conv=>arg 4;whnf
     simp [f1,ne1,ne2,hja,hxe,aF,hi,ak.row,h2x,h2x',hw,M];simpa using ih2
   |none=>
    rw [ho]at M h1 h2;simp only [Mx]at M;simp only [Option.isSome_none,Bool.false_eq_true,if_false]at h1 h2;have h2':=h2 i x rfl;by_cases h2x:x=2
    ·subst h2x;have hk: ¬r.ai[i].kind=1:=fun e=>hs ⟨rfl,e⟩;have hk':(r.ai[i].kind==1)=false:=(by simpa using hk);apply ax;conv=>arg 4;whnf
     simp [f1,ne1,ne2,hja,hxe,aF,hi,ak.row,hk,hk',hw,M];simpa using h2'
    ·have h2x':(x==2)=false:=(by simpa using h2x);apply ax;conv=>arg 4;whnf
     simp [f1,ne1,ne2,hja,hxe,aF,hi,ak.row,h2x,h2x',hw,M];simpa using h2'
theorem EZ {F:Fr}(f1:F.get 1=some (aU r))(Q:GX→bO→Prop): ∀k i:Nat,i+k=r.ai.length→
  (nT r k i=none→Q (.exit 0) ⟨[(2,aN),(3,aN),(4,aN)],F::H,59⟩)→
  (∀a b,nT r k i=some (a,b)→Q .ret ⟨[(2, .pure (.int .i64 a)),(3, .pure (.int .i64 b)),(4, .pure (.int .i64 0))],F::H,59⟩)→
  iB KC au 36 (lp Tryz.f36 0) [1,24,25] [2,3,4] Q [(1, .ay (H.length,1) 0),(24, .pure (.int .i64 r.ai.length)),(25, .pure (.int .i64 i))] (F::H) 59:=by
 have ne1: ¬H.length=H.length+1:=(by omega);have hal:=sh.a;have f1':=f1;simp only [aU]at f1';intro k
 induction k with
 |zero=>
  intro i hi h1 _;have hnl: ¬i<r.ai.length:=(by omega);apply ax;conv=>arg 4;whnf
  simp [hnl];simpa using h1 rfl
 |succ k ih=>
  intro i hi h1 h2;have hia:i<r.ai.length:=(by omega);have hw:=dp (x:=(i:Int)+1) (by omega) (by omega);have e2:nT r (k+1) i=match pU r i r.aX with|some y=>some y|none=>nT r k (i+1):=by
   unfold nT;rw [List.range'_succ,List.findSome?_cons];cases pU r i r.aX<;>rfl
  have L:=fun Q h1 h2=>HI (H:=H) sh hrun hls h20 f1 (n:=r.ai.length) hia Q r.aX.length 0 (by omega) h1 h2;simp only [List.drop_zero]at L;rw [e2]at h1 h2;apply ax;conv=>arg 4;whnf
  simp [f1',ne1,hia];refine L _ (fun ho=> ?_) (fun a b ho=> ?_)
  ·rw [ho]at h1 h2;have ih':=ih (i+1) (by omega) h1 h2;simp [hw];simpa using ih'
  ·rw [ho]at h2;have h2':=h2 a b rfl;simp;exact h2'
end
theorem Cn (r:aA):jc (tv r)=true:=by
 unfold tv;split
 ·rfl
 ·cases nT r r.ai.length 0<;>rfl
theorem HJ {r:aA}(sh:gL r)(h20:cv r=0→r.ai.length≤20)(hH:0<H.length):
  bI KC (aE KC) 36 [.pure (.agg r.row)] c H=some (.pure (tv r),H):=by
 refine aM (aK KC au Tryz.func36 rfl rfl SL (by simp) hH ?_);have R:=fun(c:Nat) (H:aj) (hH:0<H.length)=>(j3 (f:=15) (c:=c) (H:=H) rfl rfl rfl [.agg r.row]).trans (AD (c:=c) sh hH);obtain⟨s,n,hs⟩:=HK (r:=r);rw [hs]at R;unfold aw.row at R;simp only [List.map_cons,List.map_nil]at R;unfold tv;by_cases he:oc r=0
 ·have hc:cv r=0:=by
   rw [oA]at he;rcases Decidable.em (cv r=0)with e|e
   ·exact e
   ·rw [if_neg e]at he;exact he
  have hls:=(lK hc).1.ls;rw [he]at R⊢;rw [eE]at R⊢;have L:=fun F f1 Q h1 h2=>EZ (H:=H) sh he hls (h20 hc) (F:=F) f1 Q r.ai.length 0 (by omega) h1 h2;simp [R];refine L _ (by simp [aU]) _ (fun ho=> ?_) (fun a b ho=> ?_)
  ·rw [ho];simp [ae]
  ·rw [ho];simp [ae]
 ·have he':(oc r==0)=false:=(by simpa using he);rw [if_pos he];rw [eE]at R⊢;simp [R,he,he',ae]
end
section
variable {c:Nat} {H:aj}
noncomputable def xt:aA→Int→ak→Int:=nO fun r aO a=>if a.aO≠aO then 7 else if a.ba≠0∨a.cd≠0∨a.gR≠0 then 3 else dX (cT r.wide r.deep) r.aa.length r.ah.length a
theorem xu (r:aA)(aO:Int)(a:ak):xt r aO a=if a.aO≠aO then 7 else if a.ba≠0∨a.cd≠0∨a.gR≠0 then 3 else dX (cT r.wide r.deep) r.aa.length r.ah.length a:=by rw [xt,cP]
noncomputable def u5 (r:aA)(aO:Int):List ak→Int
 | []=>0
 |a::l=>if xt r aO a≠0 then xt r aO a else u5 r aO l
noncomputable def ZG (r:aA)(act kind:Int)(mend:List ak):Int:=if Az r act kind≠0 then Az r act kind else if 3<mend.length then 8 else u5 r (r.ai.getD act.toNat cg).aO mend
section
variable {r:aA} {k:Nat} {kind:Int} (hk:k<r.ai.length) {mend:List ak} (hm:mend.length≤1000000) (sh:gL r)
include hk hm sh
theorem TF (Q:GX→bO→Prop): ∀j i:Nat,i+j=mend.length→
  (u5 r (r.ai[k]'hk).aO (mend.drop i)=0→Q (.exit 0) ⟨[(1, .pure (.int .i64 k)),(2, .pure (.int .i64 kind)),(3, .pure (.slice (mend.map ak.row))),(4, .ay (H.length,4) 0),(8, .ay (H.length,8) 0),(9,aN)],[(4,aU r),(8,iI)]::H,129⟩)→
  (u5 r (r.ai[k]'hk).aO (mend.drop i)≠0→Q .ret ⟨[(1, .pure (.int .i64 k)),(2, .pure (.int .i64 kind)),(3, .pure (.slice (mend.map ak.row))),(4, .ay (H.length,4) 0),(8, .ay (H.length,8) 0),(9, .pure (.int .i64 (u5 r (r.ai[k]'hk).aO (mend.drop i))))],[(4,aU r),(8,iI)]::H,129⟩)→
  iB KC au 29 (lp Tryz.f29 0) [1,2,3,4,8,34,35,36] [1,2,3,4,8,9] Q
   [(1, .pure (.int .i64 k)),(2, .pure (.int .i64 kind)),(3, .pure (.slice (mend.map ak.row))),(4, .ay (H.length,4) 0),(8, .ay (H.length,8) 0),(34, .pure (.slice (mend.map ak.row))),(35, .pure (.int .i64 mend.length)),(36, .pure (.int .i64 i))] ([(4,aU r),(8,iI)]::H) 129:=by
 have ne1: ¬H.length=H.length+1:=(by omega);intro j
 induction j with
 |zero=>
  intro i hi h1 _;have e:mend.drop i=[]:=List.drop_of_length_le (by omega);rw [e]at h1;have hnl: ¬i<mend.length:=(by omega);apply ax;conv=>arg 4;whnf
  simp [hnl];simpa using h1 rfl
 |succ j ih=>
  intro i hi h1 h2;have hil:i<mend.length:=(by omega);have hw:=dp (x:=(i:Int)+1) (by omega) (by omega);have ed:mend.drop i=mend[i]::mend.drop (i+1):=List.drop_eq_getElem_cons hil;obtain⟨a,ha⟩: ∃a,mend[i]=a:=⟨_,rfl⟩;rw [ha]at ed;rw [ed]at h1 h2;simp only [u5]at h1 h2;have FD: ∀(c:Nat) (H:aj),0<H.length→aL KC (aE KC) 73 [.pure (.agg r.row), .pure (.agg a.row)] c H=some (.pure (.int .i64 (dX (cT r.wide r.deep) r.aa.length r.ah.length a)),H):=fun c H hH=>ou (c:=c) (H:=H) (r:=r) (q1:=a.ba) (q2:=a.aO) (kind:=a.kind) (hand:=a.hand) (bf:=a.bf) (cell:=a.cell) (other:=a.other) (q3:=a.cd) (q4:=a.gR) sh.p sh.t hH;rw [eE,bE]at FD;simp only [aU,iI]at h1 h2 ih⊢;have ih':=ih (i+1) (by omega);obtain⟨aO,hwho⟩: ∃aO,(r.ai[k]'hk).aO=aO:=⟨_,rfl⟩;rw [hwho]at h1 h2 ih';have hd:=xu r aO a;have err3:(a.ba≠0∨a.cd≠0∨a.gR≠0)→a.aO=aO→xt r aO a=3:=fun h w=>(by rw [hd,if_neg (by simpa using w),if_pos h]);by_cases w:a.aO=aO
  ·by_cases z1:a.ba=0
   ·by_cases z2:a.cd=0
    ·by_cases z3:a.gR=0
     ·rw [if_neg (by simpa using w),if_neg (by simp [z1,z2,z3])]at hd;rw [hd]at h1 h2;generalize dX (cT r.wide r.deep) r.aa.length r.ah.length a=e at FD h1 h2;by_cases fz:e=0
      ·rw [fz]at FD;rw [if_neg (by simpa using fz)]at h1 h2;have ih2:=ih' h1 h2;rw [z1,z2,z3,w]at FD;apply ax;conv=>arg 4;whnf
       simp [hil,ha,hk,ak.row,hwho,w,ne1,z1,z2,z3,FD,hw];simpa using ih2
      ·have fz':(e==0)=false:=(by simpa using fz);rw [if_pos fz]at h2;have h2':=h2 fz;rw [z1,z2,z3,w]at FD;apply ax;conv=>arg 4;whnf
       simp [hil,ha,hk,ak.row,hwho,w,ne1,z1,z2,z3,FD,fz,fz',hw,aD];simpa using h2'
     ·have e3:=err3 (Or.inr (Or.inr z3)) w;have z3':(a.gR==0)=false:=(by simpa using z3);rw [e3]at h2;have h2':=h2 (by simp);simp at h2';apply ax;conv=>arg 4;whnf
      simp [hil,ha,hk,ak.row,hwho,w,ne1,z1,z2,z3,z3',aD];exact h2'
    ·have e3:=err3 (Or.inr (Or.inl z2)) w;have z2':(a.cd==0)=false:=(by simpa using z2);rw [e3]at h2;have h2':=h2 (by simp);simp at h2';apply ax;conv=>arg 4;whnf
     simp [hil,ha,hk,ak.row,hwho,w,ne1,z1,z2,z2',aD];exact h2'
   ·have e3:=err3 (Or.inl z1) w;have z1':(a.ba==0)=false:=(by simpa using z1);rw [e3]at h2;have h2':=h2 (by simp);simp at h2';apply ax;conv=>arg 4;whnf
    simp [hil,ha,hk,ak.row,hwho,w,ne1,z1,z1',aD];exact h2'
  ·rw [if_pos w]at hd;have w':(a.aO==aO)=false:=(by simpa using w);rw [hd]at h2;have h2':=h2 (by simp);simp at h2';apply ax;conv=>arg 4;whnf
   simp [hil,ha,hk,ak.row,hwho,w,w',ne1,aD];exact h2'
end
end
section
variable {c:Nat} {H:aj}
def ZH:Nat:=ao 89 7
structure Qh (r:aA)(fr:Fr):Prop where
 f4:fr.get 4=some (aU r)
 f8:fr.get 8=some iI
theorem Qh.move {r:aA}{fr fr':Fr}{g:GV}(h:Qh r fr){ks:List Nat}(hK:TG H ks g)(hk: ∀q∈ks,q≠4∧q≠8){key:Nat}(h4:key≠4)(h8:key≠8)(f': ∀k,k≠key→(∀top,g≠ .bc (H.length,k) 9 top 0 top)→fr'.get k=fr.get k):Qh r fr':=
 ⟨(f' 4 h4.symm fun top e=>(hk 4 (hK 4 top e)).1 rfl).trans h.f4,(f' 8 h8.symm fun top e=>(hk 8 (hK 8 top e)).2 rfl).trans h.f8⟩
theorem AE {g g':GV}{ks:List Nat}{key:Nat}(hK:TG H ks g)(k': ∀q top,g'= .bc (H.length,q) 9 top 0 top→q=key∨ ∃top,g= .bc (H.length,q) 9 top 0 top)(hk:key∈ks):TG H ks g':=fun q top e=>by
 rcases k' q top e with e|⟨t,e⟩
 ·rw [e];exact hk
 ·exact hK q t e
theorem TH {r:aA} {ai mend A:List ak} {m:Int} {n:Nat} (hm:mend.length≤400000) (hA:A.length≤400000) (hmm: -1000000≤m∧m≤1000000000) (Q:GX→bO→Prop)
  (h1: ∀g fr,Au H fr g (A++bS m mend)→TG H [ZH,105,124] g→Qh r fr→(g= .aW→fr.get 124=none)→Q (.exit 3) ⟨[(3, .pure (.slice (mend.map ak.row))),(4, .ay (H.length,4) 0),(8, .ay (H.length,8) 0),(14, .pure (.slice (ai.map ak.row))),(16, .pure (.int .i64 n)),(17,g)],fr::H,129⟩): ∀(k i:Nat) (g:GV) (fr:Fr),i+k=mend.length→Au H fr g (A++bS m (mend.take i))→TG H [ZH,105,124] g→Qh r fr→(g= .aW→fr.get 105=none∧fr.get 124=none)→
  iB KC au 29 (lp Tryz.f29 1) [3,4,8,14,15,16,17,90,91,92] [3,4,8,14,16,17] Q [(3, .pure (.slice (mend.map ak.row))),(4, .ay (H.length,4) 0),(8, .ay (H.length,8) 0),(14, .pure (.slice (ai.map ak.row))),(15, .pure (.int .i64 m)),(16, .pure (.int .i64 n)),(17,g),(90, .pure (.slice (mend.map ak.row))),(91, .pure (.int .i64 mend.length)),(92, .pure (.int .i64 i))] (fr::H) 129:=by
 intro k
 induction k with
 |zero=>
  intro i g fr hk L hK mf fn;have e:i=mend.length:=(by omega);rw [List.take_of_length_le (by omega)]at L;have h1':=h1 g fr L hK mf fun e=>(fn e).2;have cl:=L.cl;subst e;apply ax;conv=>arg 4;whnf
  simp [cl];simpa using h1'
 |succ k ih=>
  intro i g fr hk L hK mf fn;have hl:i<mend.length:=(by omega);have hw:=dp (x:=(i:Int)+1) (by omega) (by omega);have hw1:=dp (x:=m+1) (by omega) (by omega);have hw2:=dp (x:=m+1+i) (by omega) (by omega);have et:bS m (mend.take (i+1))=bS m (mend.take i)++[{(mend[i]'hl)with ba:=m+1+i}]:=by
   rw [List.take_add_one,List.getElem?_eq_getElem hl];have:=lL mend[i] (mend.take i) m;rw [List.length_take,Nat.min_eq_left (by omega)]at this;exact this
  have cl:=L.cl;apply ax;conv=>arg 4;whnf
  simp [hl,ak.row,hw,hw1,hw2,-uO];have hml:(bS m (mend.take i)).length=i:=(by rw [hJ,List.length_take];omega);refine Ei (key:=105) {(mend[i]'hl)with ba:=m+1+i} L (fun e=>(fn e).1) (by rw [List.length_append,hml];omega) _ fun g' fr' L' k' f'=> ?_;rw [List.append_assoc,←et]at L';have hK':=AE hK k' (by simp);have mf':=mf.move hK (by decide) (by decide) (by decide) f';have ih':=ih (i+1) g' fr' (by omega) L' hK' mf' (fun e=>by
   rcases L' with ⟨_,h0⟩|⟨_,key,v,h0,_⟩
   ·have hz:(A++bS m (mend.take (i+1))).length=0:=(by rw [h0];rfl);rw [List.length_append,hJ,List.length_take]at hz;omega
   ·rw [h0]at e;cases e)
  have cl':=L'.cl;simp [cl'];simpa using ih'
theorem TJ {r:aA} {mend A B:List ak} (hm:mend.length≤400000) (hA:A.length≤500000) (hn:B.length≤400000) (tm: ∀a∈B,0≤a.ba∧a.ba≤1000000000) (Q:GX→bO→Prop)
  (h1: ∀g fr,Au H fr g (A++B.map fun a=>{a with ba:=a.ba+mend.length})→Qh r fr→Q (.exit 5) ⟨[(4, .ay (H.length,4) 0),(8, .ay (H.length,8) 0),(17,g)],fr::H,129⟩): ∀(k i:Nat) (g:GV) (fr:Fr),i+k=B.length→Au H fr g (A++(B.take i).map fun a=>{a with ba:=a.ba+mend.length})→TG H [ZH,105,124] g→Qh r fr→(g= .aW→fr.get 124=none)→
  iB KC au 29 (lp Tryz.f29 2) [3,4,8,17,109,110,111] [4,8,17] Q [(3, .pure (.slice (mend.map ak.row))),(4, .ay (H.length,4) 0),(8, .ay (H.length,8) 0),(17,g),(109, .pure (.slice (B.map ak.row))),(110, .pure (.int .i64 B.length)),(111, .pure (.int .i64 i))] (fr::H) 129:=by
 intro k
 induction k with
 |zero=>
  intro i g fr hk L hK mf fn;have e:i=B.length:=(by omega);rw [List.take_of_length_le (by omega)]at L;have h1':=h1 g fr L mf;have cl:=L.cl;subst e;apply ax;conv=>arg 4;whnf
  simp [cl];simpa using h1'
 |succ k ih=>
  intro i g fr hk L hK mf fn;have hl:i<B.length:=(by omega);have tmi:=tm _ (List.getElem_mem hl);have hw:=dp (x:=(i:Int)+1) (by omega) (by omega);have hw1:=dp (x:=(B[i]'hl).ba+mend.length) (by omega) (by omega);have et:B.take (i+1)=B.take i++[B[i]]:=by
   rw [List.take_add_one,List.getElem?_eq_getElem hl];rfl
  have cl:=L.cl;apply ax;conv=>arg 4;whnf
  simp [hl,ak.row,hw,hw1,-uO];refine Ei (key:=124) {(B[i]'hl)with ba:=(B[i]'hl).ba+mend.length} L fn (by rw [List.length_append,List.length_map,List.length_take];omega) _ fun g' fr' L' k' f'=> ?_;have L2:Au H fr' g' (A++(B.take (i+1)).map fun a=>{a with ba:=a.ba+mend.length}):=by
   rw [et,List.map_append,←List.append_assoc];exact L'
  have hK':=AE hK k' (by simp);have mf':=mf.move hK (by decide) (by decide) (by decide) f';have ih':=ih (i+1) g' fr' (by omega) L2 hK' mf' (fun e=>by
   rcases L' with ⟨_,h0⟩|⟨_,key,v,h0,_⟩
   ·simp at h0
   ·rw [h0]at e;cases e)
  have cl':=L'.cl;simp [cl'];simpa using ih'
end
section
variable {c:Nat} {H:aj}
def Mz:List PV:=[.int .i64 0, .int .i64 0, .slice [], .slice [], .slice [], .slice [], .slice []]
noncomputable def MA (r:aA)(act kind:Int)(mend:List ak):PV:= .tuple (if ZG r act kind mend≠0 then [.agg Mz, .int .i64 (ZG r act kind mend)]else [.agg ({r with ai:=gM (fF r act.toNat kind) (gS r act.toNat kind) mend}:aA).row, .int .i64 0])
theorem Co {r:aA}(sh:gL r)(h20:cv r=0→r.ai.length≤20)(act kind:Int){mend:List ak}(hm:mend.length≤1000000)(hH:0<H.length):
  bI KC (aE KC) 29 [.pure (.agg r.row), .pure (.int .i64 act), .pure (.int .i64 kind), .pure (.slice (mend.map ak.row))] c H=some (.pure (MA r act kind mend),H):=by
 refine aM (aK KC au Tryz.func29 rfl rfl SH (by simp) hH ?_);have K:=fun(c:Nat) (H:aj) (hH:0<H.length)=>oz (c:=c) (H:=H) sh act kind hH;unfold MA;have hd:ZG r act kind mend=if Az r act kind≠0 then Az r act kind else if 3<mend.length then 8 else u5 r (r.ai.getD act.toNat cg).aO mend:=rfl;by_cases he:Az r act kind=0
 ·obtain⟨k,rfl,hL⟩:=ry sh he;rw [he]at K;rw [if_neg (by simpa using he)]at hd;have hlt:=hL.lt;have hg:=hL.get;by_cases h3:3<mend.length
  ·have h3':(3:Int)<mend.length:=(by omega);rw [if_pos h3]at hd;rw [hd,if_pos (by simp)];rw [eE]at K⊢;simp [K,h3,h3',ae,aD,Mz]
  ·have h3': ¬(3:Int)<mend.length:=(by omega);rw [if_neg h3]at hd;have hgk:r.ai.getD (k:Int).toNat cg=r.ai[k]:=hg;rw [hgk]at hd;rw [hd];have C:=fun Q h1 h2=>TF (H:=H) (k:=k) (kind:=kind) hlt hm sh Q mend.length 0 (by omega) h1 h2;simp only [List.drop_zero]at C;by_cases hz:u5 r (r.ai[k]'hlt).aO mend=0
   ·rw [if_neg (by simpa using hz)];have tm: ∀a∈r.ai,0≤a.ba∧a.ba≤1000000:=fun a ha=>(by have:=hL.tm a ha;omega);obtain⟨A,hA⟩: ∃A,gS r k kind=A:=⟨_,rfl⟩;obtain⟨m,hm'⟩: ∃m,fF r k kind=m:=⟨_,rfl⟩;have hAl:A.length≤40:=(by rw [←hA];have:=rr hL;have:=hL.n40;omega);have hmr:0≤m∧m≤1001:=hm'▸u6 hL;have LP:=fun(c:Nat) (H:aj) (hH:0<H.length)=>xq (c:=c) (H:=H) hL.run hlt hL.pw tm (h20 hL.run.ck) hL.hand hH;have AF:=fun(c:Nat) (H:aj) (hH:0<H.length)=>Ay (c:=c) (H:=H) hlt hL.run.al (tm _ (List.getElem_mem hlt)) kind A (by omega) (g:= .pure (.slice (A.map ak.row))) rfl hH;rw [hA]at LP;rw [hm']at AF;have hUl:(cL m A).length≤A.length:=(List.takeWhile_sublist _).length_le;have hLA:gS r (k:Int).toNat kind=A:=hA;have hMA:fF r (k:Int).toNat kind=m:=hm';rw [hLA,hMA];have eU:cL m A=A.take (cL m A).length:=by
     have e:=jd m A;obtain⟨U,hU⟩: ∃U,cL m A=U:=⟨_,rfl⟩;rw [hU]at e⊢;rw [←e];exact List.take_left.symm
    have eB:A.drop (cL m A).length=behind m A:=by
     have e:=jd m A;obtain⟨V,hV⟩: ∃V,behind m A=V:=⟨_,rfl⟩;obtain⟨U,hU⟩: ∃U,cL m A=U:=⟨_,rfl⟩;rw [hU,hV]at e;rw [hU,hV,←e];exact List.drop_left
    have hBl:(behind m A).length+(cL m A).length=A.length:=by
     have e:=congrArg List.length (jd m A);rw [List.length_append]at e;omega
    have hml:mend.length≤3:=(by omega);have rowU:List.take (cL m A).length (A.map ak.row)=(cL m A).map ak.row:=(by rw [←List.map_take,←eU]);have rowB:List.drop (cL m A).length (A.map ak.row)=(behind m A).map ak.row:=(by rw [←List.map_drop,eB]);have tmB: ∀a∈behind m A,0≤a.ba∧a.ba≤1000000000:=fun a ha=>by
     have ha':a∈A:=(List.dropWhile_sublist _).subset ha;rw [←hA]at ha';have:=(oy hL ha').2;omega
    obtain⟨gc,F1,L1,k1,f1,CE⟩:=Av (c:=89) (H:=H) (cL m A) (by omega) (F:=[(4,aU r),(8,iI)]) (by simp [ao]);have MI:=fun Q h1=>TH (r:=r) (H:=H) (ai:=A) (mend:=mend) (A:=cL m A) (m:=m) (n:=(cL m A).length) (by omega) (by omega) (by omega) Q h1 mend.length 0 gc F1 (by omega) (by simpa [bS]using L1) (fun q top e=>by rw [k1 q top e];simp [ZH]) ⟨by rw [f1 4 (by decide)];rfl,by rw [f1 8 (by decide)];rfl⟩ (fun _=>⟨by rw [f1 105 (by decide)];rfl,by rw [f1 124 (by decide)];rfl⟩);have ME:=fun(g:GV) (fr:Fr) (L:Au H fr g (cL m A++bS m mend)) (hK:TG H [ZH,105,124] g) (mf:Qh r fr) (fn:g= .aW→fr.get 124=none) Q h1=>TJ (r:=r) (H:=H) (mend:=mend) (A:=cL m A++bS m mend) (B:=behind m A) (by omega) (by rw [List.length_append,hJ];omega) (by omega) tmB Q h1 (behind m A).length 0 g fr (by omega) (by rw [List.take_zero,List.map_nil,List.append_nil];exact L) hK mf fn;obtain⟨u,hu⟩: ∃u,(cL m A).length=u:=⟨_,rfl⟩;rw [hu]at AF rowU rowB hUl MI eB;have tl:List.take A.length (A.map ak.row)=A.map ak.row:=List.take_of_length_le (by simp);have hlen': ∀x:ak,x.row.length=9:=fun _=>rfl;have unl: ¬(u:Int)<0:=(by omega);have hbl2:A.length-u=(behind m A).length:=(by omega);simp only [eE]at K LP AF⊢;simp only [aU,iI]at C CE;have h3i: ¬3<mend.length:=h3;simp [K,h3,h3'];refine C _ (fun _=> ?_) (fun h=>absurd hz h);simp [LP,AF,CE,rowU,rowB,hUl,unl,hlen',tl,hbl2,-List.map_take,-List.map_drop];refine MI _ fun g2 F2 L2 hK2 mf2 fn2=> ?_;have ME2:=ME g2 F2 L2 hK2 mf2 fn2;simp [L2.cl,hUl,unl,rowB,hlen',hbl2,tl,-List.map_take,-List.map_drop];refine ME2 _ fun g3 F3 L3 mf3=> ?_;have hL':gM m A mend=(cL m A++bS m mend)++(behind m A).map fun a=>{a with ba:=a.ba+mend.length}:=rfl;rw [←hL']at L3;obtain⟨F4,r4,e4⟩:=uY (f:=65) rfl rfl rfl [] (F:=F3) (H:=H) (.rd (g:= .pure (.agg r.row)) rfl my (.Xv L3.rd rfl L3.top .nil));have OW:=MB (c:=128) (H:=F4::H) r sh (gM m A mend) (by rw [hL',List.length_append,List.length_append,List.length_map,hJ];omega) (by simp);have OW2:=(e4 128).trans ((j3 (f:=65) (c:=128) (H:=F4::H) rfl rfl rfl [.agg r.row, .slice ((gM m A mend).map ak.row)]).symm.trans OW);simp only [List.nil_append,eE]at OW2;have q4:=mf3.f4;have q8:=r4.box mf3.f8;simp [q4,OW2,q8,aD,ae,aU,iI,Fr.bJ]
   ·rw [if_pos hz];rw [eE]at K⊢;simp only [aU,iI]at C;simp [K,h3,h3'];refine C _ (fun h=>absurd h hz) (fun _=> ?_);simp [ae,Mz]
 ·have he':(Az r act kind==0)=false:=(by simpa using he);rw [if_pos he]at hd;rw [hd,if_pos he];rw [eE]at K⊢;simp [K,he,he',ae,aD,Mz]
end
section
variable {c:Nat} {H:aj}
end
section
variable {c:Nat} {H:aj}
end
section
variable {c:Nat} {H:aj}
end
section
variable {c:Nat} {H:aj}
end
section
variable {c:Nat} {H:aj}
end
section
variable {c:Nat} {H:aj}
def MC (L k1 k2 k3:Nat)(m:aA)(sn:List Int):dE:= .box [.pure (.int .i64 m.wide), .pure (.int .i64 m.deep),cY (L,k1) 2 (m.ah.map aS.row),cY (L,k2) 5 (m.aa.map aZ.row),cY (L,24) 1 (sn.map aF), .pure (.slice (m.aX.map aF)),cY (L,k3) 9 (m.ai.map ak.row)]
theorem Cp {nm:Nm}(hlt:nm.1<H.length){m:aA}{n k1 k2 k3:Nat}(hn:IntKind.i64.wrap (m.wide*m.deep)=n)(hn0:n≤1000){A:Fr}(a24:A.get 24=none)(Q:GX→bO→Prop): ∀(k i:Nat) (sn:List Int) (wd:Int),i+k=n→sn.length≤i→sn.Pairwise (· < ·)→(∀x∈sn,0≤x∧x<i)→
  (∀(sn':List Int) (wd':Int),sn'.length≤n→sn'.Pairwise (· < ·)→(∀x∈sn',0≤x∧x<n)→
   Q (.exit 0) ⟨[(3, .ay (H.length,3) 0),(4, .ay (H.length,4) 0)],eG 24 1 (sn'.map aF) (A.ins 3 (MC H.length k1 k2 k3 m sn'))::H.set nm (bw wd'),27⟩)→
  iB KC au 33 (lp Tryz.f33 0) [0,3,4,5] [3,4] Q
   [(0, .ay nm 0),(3, .ay (H.length,3) 0),(4, .ay (H.length,4) 0),(5, .pure (.int .i64 i))] (eG 24 1 (sn.map aF) (A.ins 3 (MC H.length k1 k2 k3 m sn))::H.set nm (bw wd)) 27:=by
 have hne: ¬nm.1=H.length:=(by omega);have hne2: ¬nm.1=H.length+1:=(by omega);have hle:nm.1≤H.length:=(by omega);have hB:=fun w f0 f1=>Cq hlt w f0 f1;have hW:=fun w f0 f1=>u7 hlt w f0 f1;intro k
 induction k with
 |zero=>
  intro i sn wd hi hl hp hb hq;have hq':=hq sn wd (by omega) hp (fun x hx=>by have:=hb x hx;omega);have hnl: ¬(i:Int)<n:=(by omega);apply ax;conv=>arg 4;whnf
  simp [MC,aj.length_set,hn,hnl,bQ,Fr.bJ];exact hq'
 |succ k ih=>
  intro i sn wd hi hl hp hb hq;have hw:=dp (x:=(i:Int)+1) (by omega) (by omega);have hil:(i:Int)<n:=(by omega);have hbb:(sn.length+1)*8≤1099511627776:=(by omega);obtain⟨on,w1,e1⟩: ∃(on:Bool) (w1:Int),yJ wd 4=(on,w1):=⟨_,_,rfl⟩;apply ax;conv=>arg 4;whnf
  cases on with
  |false=>
   have ih2:=ih (i+1) sn w1 (by omega) (by omega) hp (fun x hx=>by have:=hb x hx;omega) hq;simp only [MC]at ih2;simp [MC,hn,hil,hw,aj.length_set,mZ,hB,hW,hlt,hne,hne2,aj.dF,hle,e1,bQ,Fr.bJ];exact ih2
  |true=>
   have ih2:=ih (i+1) (sn++[(i:Int)]) w1 (by omega) (by simp;omega) (List.pairwise_append.2 ⟨hp,by simp,fun a ha b hb'=>by simp at hb';subst hb';exact(hb a ha).2⟩)
    (fun x hx=>by
     rcases List.mem_append.1 hx with hx|hx
     ·have:=hb x hx;omega
     ·simp at hx;subst hx;omega) hq
   have AP:=fun(f0:Fr)=>Hp (H:=H.set nm (bw w1)) (l:=H.length) (key:=24) (es:=1) (bytes:=8) (rows:=sn.map aF) (r:=aF i) (fr:=A.ins 3 (MC H.length k1 k2 k3 m sn)) (f0:=f0) (by simp [aj.length_set]) (by rw [Fr.az _ (by decide)];exact a24) (by simpa using hbb);simp only [MC,aF]at ih2 AP;simp [MC,hn,hil,hw,aj.length_set,mZ,hB,hW,hlt,hne,hne2,aj.dF,hle,e1,bQ,Fr.bJ,Fr.iq,aF,AP];simpa [aF]using ih2
theorem HL {F:Fr}(r:aA)(sh:gL r)(f6:F.get (ao c 6)=none)(f10:F.get (ao c 10)=none)(f22:F.get (ao c 22)=none):
  ∃F',(∀k,k≠ao c 6→k≠ao c 10→k≠ao c 22→F'.get k=F.get k)∧
   (r.ah.map aS.row≠[]→F'.get (ao c 6)=some (.arr 2 (r.ah.map aS.row) 0 false))∧(r.aa.map aZ.row≠[]→F'.get (ao c 10)=some (.arr 5 (r.aa.map aZ.row) 0 false))∧(r.ai.map ak.row≠[]→F'.get (ao c 22)=some (.arr 9 (r.ai.map ak.row) 0 false))∧
   aL KC (aE KC) 13 [.pure (.agg r.row)] c (F::H)=some (Cr (H.length,ao c 6) (H.length,ao c 10) (H.length,ao c 22) r,F'::H):=by
 have nV:ao c 6≠ao c 10:=(by unfold ao;omega);have m9:ao c 6≠ao c 22:=(by unfold ao;omega);have lM:ao c 10≠ao c 22:=(by unfold ao;omega);have O:=Cs (c:=c) (H:=F::H) r sh (by simp) (by simpa using f6) (by simpa using f10) (by simpa using f22);simp only [List.length_cons,Nat.add_sub_cancel]at O;have hH:HM (F::H) (H.length,ao c 6) (H.length,ao c 10) (H.length,ao c 22) r=eG (ao c 22) 9 (r.ai.map ak.row) (eG (ao c 10) 5 (r.aa.map aZ.row) (eG (ao c 6) 2 (r.ah.map aS.row) F))::H:=by
  unfold HM;rw [yO rfl,yO rfl,yO rfl]
 rw [hH]at O;refine⟨_,fun k a b d=> ?_,fun h=> ?_,fun h=> ?_,fun h=> ?_,O⟩
 ·rw [bQ d,bQ b,bQ a]
 ·rw [bQ m9,bQ nV,cV h]
 ·rw [bQ lM,cV h]
 ·rw [cV h]
theorem Ct {nm:Nm}(hB0:fU H nm){m:aA}(sh:gL m){n:Nat}(hn:IntKind.i64.wrap (m.wide*m.deep)=n)(hn0:n≤1000):
  ∃sn wd,sn.length≤n∧sn.Pairwise (· < ·)∧(∀x∈sn,0≤x∧x<(n:Int))∧
   aL KC (aE KC) 33 [.ay nm 0, .pure (.agg m.row)] c H=some (.pure (.agg ({m with seen:=sn}:aA).row),H.set nm (bw wd)):=by
 have hlt:=gz hB0;have hset:=jI hB0;have hne: ¬nm.1=H.length:=by omega
 suffices hs:mm (aL KC (aE KC) 33 [.ay nm 0, .pure (.agg m.row)] c H) (fun x=> ∃sn wd,sn.length≤n∧sn.Pairwise (· < ·)∧(∀x∈sn,0≤x∧x<(n:Int))∧x=(.pure (.agg ({m with seen:=sn}:aA).row),H.set nm (bw wd)))by
  obtain⟨x,hx,sn,wd,h1,h2,h3,h4⟩:=hs;exact⟨sn,wd,h1,h2,h3,by rw [hx,h4]⟩
 refine bd KC au Tryz.func33 rfl rfl SI rfl rfl rfl (by simp) (by omega) ?_;obtain⟨F1,o1,p2,p3,p7,O⟩:=HL (c:=7) (H:=H) (F:=[(3,aU m),(4,iI)]) m sh (by simp [ao]) (by simp [ao]) (by simp [ao]);have f3:F1.get 3=some (aU m):=(by rw [o1 3 (by decide) (by decide) (by decide)];rfl);have f4:F1.get 4=some iI:=(by rw [o1 4 (by decide) (by decide) (by decide)];rfl);have f24:F1.get 24=none:=(by rw [o1 24 (by decide) (by decide) (by decide)];rfl);obtain⟨w0,hw0⟩: ∃w0,bD H nm=w0:=⟨_,rfl⟩;rw [hw0]at hset;have L:=fun Q h1=>Cp (H:=H) hlt (m:=m) (k1:=ao 7 6) (k2:=ao 7 10) (k3:=ao 7 22) hn hn0 f24 Q n 0 [] w0 (by omega) (by simp) .nil (by simp) h1;rw [hset]at L;simp only [List.map_nil,fJ,MC,fI]at L;simp only [aU]at f3 O;simp only [iI]at O f4;rw [eE]at O⊢;simp only [Cr]at O;simp [O,f3,Fr.bJ,Fr.iq,iI];refine L _ fun sn wd h1 h2 h3=> ?_;have hls:(H.set nm (bw wd)).length=H.length:=aj.length_set ..;simp [hls,bQ,Fr.bJ,Fr.az,f4,aD];generalize hx:dE.box [.pure (.int .i64 m.wide), .pure (.int .i64 m.deep),cY (H.length,ao 7 6) 2 (m.ah.map aS.row),cY (H.length,ao 7 10) 5 (m.aa.map aZ.row),cY (H.length,24) 1 (sn.map aF), .pure (.slice (m.aX.map aF)),cY (H.length,ao 7 22) 9 (m.ai.map ak.row)]=x;obtain⟨F,hF⟩: ∃F,eG 24 1 (sn.map aF) (Fr.ins 4 x (Fr.ins 3 x F1))=F:=⟨_,rfl⟩;have gg: ∀k,k≠24→k≠4→k≠3→F.get k=F1.get k:=fun k a b d=>(by rw [←hF,bQ a,Fr.az _ b,Fr.az _ d]);have g1:m.ah.map aS.row≠[]→F.get (ao 7 6)=some (.arr 2 (m.ah.map aS.row) 0 false):=fun h=>(gg _ (by decide) (by decide) (by decide)).trans (p2 h);have g2:m.aa.map aZ.row≠[]→F.get (ao 7 10)=some (.arr 5 (m.aa.map aZ.row) 0 false):=fun h=>(gg _ (by decide) (by decide) (by decide)).trans (p3 h);have g3:sn.map aF≠[]→F.get 24=some (.arr 1 (sn.map aF) 0 false):=fun h=>(by rw [←hF,cV h]);have g4:m.ai.map ak.row≠[]→F.get (ao 7 22)=some (.arr 9 (m.ai.map ak.row) 0 false):=fun h=>(gg _ (by decide) (by decide) (by decide)).trans (p7 h);rw [hF,ae (by simp),gB];have lt:(H.set nm (bw wd)).length-1<H.length:=(by omega);rw [py];refine⟨sn,h1,h2,h3,wd, ?_⟩;have e:canon (cW ([.pure (.int .i64 m.wide), .pure (.int .i64 m.deep),cY (H.length,ao 7 6) 2 (m.ah.map aS.row),cY (H.length,ao 7 10) 5 (m.aa.map aZ.row),cY (H.length,24) 1 (sn.map aF), .pure (.slice (m.aX.map aF)),cY (H.length,ao 7 22) 9 (m.ai.map ak.row)].map (cH (F::H.set nm (bw wd)) ((H.set nm (bw wd)).length-1))))= .pure (.agg ({m with seen:=sn}:aA).row):=by
  refine oB ?_;simp only [List.map_cons,List.map_nil,lN,dc hls lt g1,dc hls lt g2,dc hls lt g3,dc hls lt g4,xv];rfl
 rw [e]
end
section
theorem gm {α β:Type}{f:α→β}{l:List α}{i:Nat}{d:α}{d':β}(h:i<l.length):(l.map f).getD i d'=f (l.getD i d):=by
 rw [aQ (by simpa using h),aQ h,List.getElem_map]
section
variable {r:aA} {n:Int} {s:aw} {w:Nat} {a:ak}
def tt (n:Int)(x:Int×Int):Int×Int:=if x.1=2 then (2,n-x.2)else x
end
end
section
theorem MD {p:Int→Bool}{e:Int}(he:e≠0){l:List Int}:bK (mq p e l) l.length 0=0↔(∀j,j<l.length→p (l.getD j 0)=true)∧ ∀j,j+1<l.length→l.getD j 0<l.getD (j+1) 0:=by
 constructor
 ·intro h;have key: ∀j,j<l.length→p (l.getD j 0)=true∧ ¬(0<j∧l.getD j 0≤l.getD (j-1) 0):=fun j hj=>by
   have a:=fX h j (Nat.zero_le _) (by omega);rw [om]at a;obtain⟨a1,a⟩:=bH he a;obtain⟨a2,_⟩:=bH (by decide) a;exact⟨by simpa using a1,a2⟩
  refine⟨fun j hj=>(key j hj).1,fun j hj=> ?_⟩;have:=(key (j+1) hj).2;rw [Nat.add_sub_cancel]at this;have h2: ¬l.getD (j+1) 0≤l.getD j 0:=fun x=>this ⟨by omega,x⟩;omega
 ·rintro⟨h1,h2⟩;refine iU fun j _ hj=> ?_;rw [om,if_neg (by rw [h1 j (by omega)];simp),if_neg];rintro⟨j0,hle⟩;obtain⟨i,rfl⟩: ∃i,j=i+1:=⟨j-1,by omega⟩;have:=h2 i (by omega);rw [Nat.add_sub_cancel]at hle;omega
section
variable {r:aA} {sn:List Int}
theorem E0 {s:aw}{w:Nat}{a:ak}:b7 {r with seen:=sn} s w a=b7 r s w a:=by rw [du,du]
theorem xw {s:aw}: ∀(g:List ak) (tk:List (Int×Int)) (nx:aw) (i:Nat),cK {r with seen:=sn} s g tk nx i=cK r s g tk nx i
 | [],_,_,_=>rfl
 |a::g,tk,nx,i=>by
  unfold cK;rw [E0,xw g]
theorem xx: ∀(k:Nat) (s:aw) (ai:List ak) (i:Nat),bG {r with seen:=sn} k s ai i=bG r k s ai i
 |0,s,ai,i=>by
  cases ai<;>rfl
 |_+1,s,[],i=>rfl
 |k+1,s,a::rest,i=>by
  rw [dP,dP,xw,xx k]
theorem E1:dI {r with seen:=sn}=dI r:=by
 have e: ∀s,pN {r with seen:=sn} s=pN r s:=fun s=>(by rw [mA,mA]);unfold dI;simp only [xx,e];rfl
theorem AG (h:cv r=0)(h1:sn.Pairwise (· < ·))(h2: ∀x∈sn,0≤x∧x<r.wide*r.deep):cv {r with seen:=sn}=0:=by
 have C:=(lK h).1;have ar:=C.ru;have top:=rz ar.1 (by omega);rw [iV]at h⊢;obtain⟨hr,h⟩:=ite_self h;obtain⟨ha,hb⟩:=bH (by decide) h;have e7:bK (mq (fun x=>di x 0 (cT r.wide r.deep)) 7 sn) sn.length 0=0:=by
  refine(MD (by decide)).2 ⟨fun j hj=> ?_,fun j hj=> ?_⟩
  ·rw [aQ hj,top];have:=h2 _ (List.getElem_mem hj);exact cS this.1 (by omega)
  ·rw [aQ (by omega),aQ hj];exact List.pairwise_iff_getElem.1 h1 j (j+1) (by omega) hj (by omega)
 have er:kx {r with seen:=sn}=0:=by
  rw [kI]at hr⊢;obtain⟨g1,hr⟩:=bH (by decide) hr;obtain⟨g2,hr⟩:=bH (by decide) hr;obtain⟨g3,hr⟩:=bH (by decide) hr;obtain⟨g4,hr⟩:=ite_self hr;obtain⟨g5,hr⟩:=bH (by decide) hr;obtain⟨g6,hr⟩:=ite_self hr;obtain⟨g7,g8⟩:=ite_self hr;simp only;rw [if_neg g1,if_neg g2,if_neg g3,if_neg (by rw [g4];simp),if_neg g5,if_neg (by rw [g6];simp),if_neg (by rw [e7];simp)];exact g8
 rw [er,if_neg (by simp),if_neg ha];rw [re r.ai.length 0 fun j _ _=>(by rw [kW,kW]:yP {r with seen:=sn} j=yP r j)];exact hb
end
end
section
variable {c:Nat} {H:aj}
end
section
variable {c:Nat} {H:aj}
end
section
variable {c:Nat} {H:aj}
end
section
variable {H:aj}
end
section
variable {c:Nat} {H:aj}
end
section
variable {c:Nat} {H:aj}
theorem HN (l:List Int)(x:Int)(hn:l.length≤1000000)(Q:GX→bO→Prop)(hH:0<H.length): ∀k i:Nat,i+k=l.length→
  ((l.drop i).contains x=false→Q (.exit 0) ⟨[(4,aN)],H,18⟩)→((l.drop i).contains x=true→Q .ret ⟨[(4, .pure (.bool true))],H,18⟩)→
  iB KC au 44 (lp Tryz.f44 0) [0,1,5] [4] Q [(0, .pure (.slice (l.map aF))),(1, .pure (.int .i64 x)),(5, .pure (.int .i64 i))] H 18:=by
 intro k
 induction k with
 |zero=>
  intro i hi h1 h2;have e:l.drop i=[]:=List.drop_of_length_le (by omega);rw [e]at h1;apply ax;conv=>arg 4;whnf
  have: ¬i<l.length:=(by omega);simp [this,hH];exact h1 rfl
 |succ k ih=>
  intro i hi h1 h2;have hia:i<l.length:=(by omega);have hw:=dp (x:=(i:Int)+1) (by omega) (by omega);have ed:l.drop i=l[i]::l.drop (i+1):=List.drop_eq_getElem_cons hia;rw [ed,List.contains_cons]at h1 h2;apply ax;conv=>arg 4;whnf
  by_cases he:l[i]=x
  ·have e2:(x==l[i])=true:=(by simp [he]);rw [e2,Bool.true_or]at h2;simp [hia,hH,aF,he];exact h2 rfl
  ·have e1:(l[i]==x)=false:=(by simpa using he);have e2:(x==l[i])=false:=(by simpa using fun e=>he e.symm);rw [e2,Bool.false_or]at h1 h2;have ih':=ih (i+1) (by omega) h1 h2;simp [hia,hH,aF,e1,hw];simpa [aF]using ih'
theorem yQ (l:List Int)(x:Int)(hn:l.length≤1000000)(hH:0<H.length):aL KC (aE KC) 44 [.pure (.slice (l.map aF)), .pure (.int .i64 x)] c H=some (.pure (.bool (l.contains x)),H):=by
 refine eJ rfl rfl rfl rfl rfl hH fun H hH=> ?_;refine aM (aK KC au Tryz.func44 rfl rfl SP (by simp) hH ?_);have L:=fun Q=>HN (H:=[]::H) l x hn Q (by simp) l.length 0 (by omega);simp only [List.drop_zero]at L;simp;refine L _ (fun h=> ?_) (fun h=> ?_)
 ·simp only [List.contains_eq_mem]at h;simp [ae];simpa using h
 ·simp only [List.contains_eq_mem]at h;simp [ae];simpa using h
def qi (C:List Int)(v:Nat):dE:= .arr 1 (C.map aF) v false
def jN (r:aA)(s:aw)(C:List Int)(v:Nat):Fr:=[(2,aU r),(3,fY s),(39,qi C v)]
def CF (nt:Nat)(C:List Int)(v:Nat)(f:Nat→Nat):Prop:=C.length=nt∧v≤nt∧ ∀t,t<nt→C.getD t 0=(f t:Int)
theorem xy {r:aA} {s:aw} (hS:fT r s) (hh1:s.aq.length≤1000000) {nt:Nat} (hnt:r.aa.length=nt) (hn:nt≤1000000) (i:Nat) (hi:i<s.aq.length) (hd:Int) (hh:hd=0∨hd=1) (C:List Int) (v:Nat) (f:Nat→Nat) (hC:CF nt C v f) (hf: ∀t,f t≤1000000000) (Q:GX→bO→Prop)
  (ih: ∀C' v',CF nt C' v' (fun t=>f t+if aV s.aq i hd=t then 1 else 0)→
   iB KC au 39 (lp Tryz.f39 1) [2,3,5,6,7] [2,3,4,5,6] Q [(2, .ay (H.length,2) 0),(3, .ay (H.length,3) 0),(5, .bc (H.length,39) 1 nt 0 nt),(6, .pure (.int .i64 i)),(7, .pure (.int .i64 (hd+1)))] ([]::jN r s C' v'::H) 145):
  iB KC au 39 (lp Tryz.f39 1) [2,3,5,6,7] [2,3,4,5,6] Q [(2, .ay (H.length,2) 0),(3, .ay (H.length,3) 0),(5, .bc (H.length,39) 1 nt 0 nt),(6, .pure (.int .i64 i)),(7, .pure (.int .i64 hd))] ([]::jN r s C v::H) 145:=by
 obtain⟨c1,c2,c3⟩:=hC;have hiw:i<r.ah.length:=(by rw [←hS.hl];exact hi);have R:=fZ hS.toE9 (w:=i) (hand:=hd) hiw;have et:=hS.tl;obtain⟨x,hx⟩: ∃x,aV s.aq i hd=x:=⟨_,rfl⟩;rw [hx]at R ih;have hx':(if hd=0 then s.aq[i].l else s.aq[i].r)=x:=(by rw [←hx];unfold aV;rw [aQ hi]);have hw1:=dp (x:=hd+1) (by omega) (by omega);have n1: ¬x< -1:=(by omega);have n2: ¬(nt:Int)≤x:=(by omega);have ne: ¬H.length=H.length+1:=(by omega);by_cases h0:0≤x
 ·obtain⟨t,rfl⟩:=Int.eq_ofNat_of_zero_le h0;have ht:t<nt:=(by omega);have htC:t<C.length:=(by omega);have hv:=c3 t ht;rw [aQ htC]at hv;have hft:=hf t;have hw2:=dp (x:=(f t:Int)+1) (by omega) (by omega);have I:=ih (C.set t ((f t:Int)+1)) nt ⟨by simpa using c1,Nat.le_refl _,fun u hu=>by
   rw [tw (by omega)];by_cases e:t=u
   ·subst e;simp
   ·have: ¬(t:Int)=u:=(by omega);simp [e,this];exact c3 u hu⟩
  apply ax;conv=>arg 4;whnf
  rcases hh with rfl|rfl
  ·rw [if_pos rfl]at hx';simp [jN,qi,aU,fY,aF]at I;simp [jN,qi,aU,fY,hi,aG.row,hx',n1,n2,h0,ht,htC,c1,c2,hv,hw2,ne,aF,aD];exact I
  ·rw [if_neg (by decide)]at hx';have w11:IntKind.i64.wrap (1+1)=2:=rfl;simp [jN,qi,aU,fY,aF]at I;simp [jN,qi,aU,fY,hi,aG.row,hx',n1,n2,h0,ht,htC,c1,c2,hv,hw2,w11,ne,aF,aD];exact I
 ·have I:=ih C v ⟨c1,c2,fun t ht=>by
   have: ¬x=t:=(by omega);simp [this];exact c3 t ht⟩
  apply ax;conv=>arg 4;whnf
  rcases hh with rfl|rfl
  ·rw [if_pos rfl]at hx';simp [jN,qi,aU,fY,aF]at I;simp [jN,qi,aU,fY,hi,aG.row,hx',n1,n2,h0,ne,aF];exact I
  ·rw [if_neg (by decide)]at hx';have w11:IntKind.i64.wrap (1+1)=2:=rfl;simp [jN,qi,aU,fY,aF]at I;simp [jN,qi,aU,fY,hi,aG.row,hx',n1,n2,h0,w11,ne,aF];exact I
end
section
variable {c:Nat} {H:aj}
theorem E2 {l:List aG}{i:Nat}(h:i<l.length)(t:Int):fN (l.take (i+1)) t=fN (l.take i) t+((if (l.getD i bA).l=t then 1 else 0)+(if (l.getD i bA).r=t then 1 else 0)):=by
 induction l generalizing i with
 |nil=>simp at h
 |cons x l ih=>
  cases i with
  |zero=>simp [fN,uk]
  |succ i=>
   have:=ih (i:=i) (by simpa using h);simp only [List.take_succ_cons,fN,List.getD_cons_succ];omega
theorem MG (l:List aG)(t:Int):fN l t≤2*l.length:=by
 induction l with
 |nil=>simp [fN]
 |cons x l ih=>
  simp only [fN,uk,List.length_cons];split<;>split<;>omega
theorem AH {r:aA}{s:aw}(hS:fT r s)(hw0:1≤r.wide*r.deep)(hw:r.wide*r.deep≤1000000)(hpl:r.ah.length≤1000000){nt:Nat}(hnt:r.aa.length=nt)(hn:nt≤1000000)(Q:GX→bO→Prop): ∀(k i:Nat) (C:List Int) (v:Nat),i+k=s.ah.length→CF nt C v (fun t=>fN (s.aq.take i) t)→
  (∀C' v',CF nt C' v' (fun t=>fN s.aq t)→Q (.exit 0) ⟨[(2, .ay (H.length,2) 0),(3, .ay (H.length,3) 0),(4,aN),(5, .bc (H.length,39) 1 nt 0 nt)],jN r s C' v'::H,145⟩)→
  iB KC au 39 (lp Tryz.f39 0) [2,3,5,6] [2,3,4,5] Q [(2, .ay (H.length,2) 0),(3, .ay (H.length,3) 0),(5, .bc (H.length,39) 1 nt 0 nt),(6, .pure (.int .i64 i))] (jN r s C v::H) 145:=by
 have ep:=hS.pl;have eh:=hS.hl;intro k
 induction k with
 |zero=>
  intro i C v hi hC h1;have e:s.aq.take i=s.aq:=List.take_of_length_le (by omega);rw [e]at hC;apply ax;conv=>arg 4;whnf
  have: ¬i<s.ah.length:=(by omega);simp [this,jN,fY,aU];simpa [jN,fY,aU]using h1 C v hC
 |succ k ih=>
  intro i C v hi hC h1;have hia:i<s.ah.length:=(by omega);have hih:i<s.aq.length:=(by omega);have hw1:=dp (x:=(i:Int)+1) (by omega) (by omega);have pr:=hS.pr _ (List.getElem_mem hia);have hwd:=dp (x:=r.wide*r.deep) (by omega) (by omega);have n1: ¬s.ah[i]<0:=(by omega);have n2: ¬r.wide*r.deep≤s.ah[i]:=(by omega);have hnh:(s.ah.take i).contains s.ah[i]=false:=by
   rw [←Bool.not_eq_true,List.contains_iff_mem];intro hm;obtain⟨j,hj,e⟩:=List.mem_take_iff_getElem.1 hm;have hji:j<i:=(by omega);have:=List.pairwise_iff_getElem.1 hS.pn j i (by omega) hia hji;exact this e
  have HS:=fun c (H:aj) (hH:0<H.length)=>yQ (c:=c) (H:=H) (s.ah.take i) s.ah[i] (by simp;omega) hH;rw [hnh]at HS;have hile:i≤s.ah.length:=(by omega);have hmin:min i s.ah.length=i:=(by omega);have hrl: ∀x:Int,(aF x).length=1:=fun _=>rfl;have hcl:=fun t=>MG (s.aq.take i) t;have htl:(s.aq.take i).length≤1000000:=(by simp;omega);apply ax;conv=>arg 4;whnf
  simp only [List.map_take]at HS;simp [jN,fY,aU,hia,hile,hmin,HS,aF,n1,n2,hwd];have S1:=fun Q C v hC hf ih=>xy (H:=H) hS (by omega) hnt hn i hih 0 (.inl rfl) C v (fun t=>fN (s.aq.take i) t) hC hf Q ih;simp [jN,fY,aU]at S1;refine S1 _ C v hC (fun t=>by have:=hcl t;omega) (fun C1 v1 hC1=> ?_);clear S1;have S2:=fun Q C v hC hf ih=>xy (H:=H) hS (by omega) hnt hn i hih 1 (.inr rfl) C v (fun t=>fN (s.aq.take i) t+if aV s.aq i 0=t then 1 else 0) hC hf Q ih;simp [jN,fY,aU]at S2;refine S2 _ C1 v1 hC1 (fun t=>by have:=hcl t;split<;>omega) (fun C2 v2 hC2=> ?_)
  clear S2;have hC2':CF nt C2 v2 (fun t=>fN (s.aq.take (i+1)) t):=by
   obtain⟨a,b,d⟩:=hC2;refine⟨a,b,fun t ht=> ?_⟩;have dt:=d t ht;dsimp only at dt⊢;rw [dt,E2 hih];unfold aV;simp;omega
  have ih':=ih (i+1) C2 v2 (by omega) hC2' h1;apply ax;conv=>arg 4;whnf
  simp [jN,fY,aU]at ih';simp [hw1];exact ih'
theorem Cu {r:aA}{s:aw}(hS:fT r s)(hw0:1≤r.wide*r.deep)(hw:r.wide*r.deep≤1000000){nt:Nat}(hnt:r.aa.length=nt)(hn:nt≤1000000)(C:List Int)(v:Nat)(hC:CF nt C v (fun t=>fN s.aq t))(Q:GX→bO→Prop): ∀k i:Nat,i+k=nt→
  Q (.exit 4) ⟨[(4,aN)],jN r s C v::H,145⟩→
  iB KC au 39 (lp Tryz.f39 2) [2,3,5,9] [4] Q [(2, .ay (H.length,2) 0),(3, .ay (H.length,3) 0),(5, .bc (H.length,39) 1 nt 0 nt),(9, .pure (.int .i64 i))] (jN r s C v::H) 145:=by
 obtain⟨c1,c2,c3⟩:=hC;have et:=hS.tl;intro k
 induction k with
 |zero=>
  intro i hi h1;apply ax;conv=>arg 4;whnf
  have: ¬i<nt:=(by omega);simp [this,jN,fY,aU,qi];simpa [jN,fY,aU,qi]using h1
 |succ k ih=>
  intro i hi h1;have hia:i<nt:=(by omega);have hiC:i<C.length:=(by omega);have his:i<s.aa.length:=(by omega);have hw1:=dp (x:=(i:Int)+1) (by omega) (by omega);have hwd:=dp (x:=r.wide*r.deep) (by omega) (by omega);have hv:=c3 i hia;rw [aQ hiC]at hv;dsimp only at hv;have th:=hS.th i his;rw [aQ his]at th;have ih':=ih (i+1) (by omega) h1;simp [jN,fY,aU,qi]at ih';have ne: ¬H.length=H.length+1:=(by omega);apply ax;conv=>arg 4;whnf
  rcases th with ⟨a,b⟩|⟨a,b1,b2⟩
  ·rw [a]at hv;have n3: ¬r.wide*r.deep≤ -1:=(by omega);simp [jN,fY,aU,qi,hia,hiC,his,aF,bC.row,hv,b,c1,c2,hwd,hw1,n3,ne];exact ih'
  ·rw [a]at hv;have n1: ¬s.aa[i].cell= -1:=(by omega);have n1':(s.aa[i].cell== -1)=false:=(by simpa using n1);have n2: ¬s.aa[i].cell< -1:=(by omega);have n3: ¬r.wide*r.deep≤s.aa[i].cell:=(by omega);simp [jN,fY,aU,qi,hia,hiC,his,aF,bC.row,hv,n1,n1',n2,n3,c1,c2,hwd,hw1,ne];exact ih'
theorem E3 {r:aA}{s:aw}(hS:fT r s)(hw0:1≤r.wide*r.deep)(hw:r.wide*r.deep≤1000000)(hpl:r.ah.length≤1000000)(htl:r.aa.length≤1000000)(hH:0<H.length):
  bI KC (aE KC) 39 [.pure (.agg r.row), .pure (.agg s.row)] c H=some (.pure (.bool true),H):=by
 refine aM (aK KC au Tryz.func39 rfl rfl SM (by simp) hH ?_);have ep:=hS.pl;have eh:=hS.hl;have et:=hS.tl;have e1:((s.ah.length:Int)==r.ah.length)=true:=(by simp [ep]);have L1:=fun Q=>AH (H:=H) hS hw0 hw hpl rfl htl Q s.ah.length 0 (List.replicate r.aa.length 0) 0 (by omega) ⟨by simp,Nat.zero_le _,fun t ht=>by simp [fN,ht]⟩;simp [jN,qi,aU,fY,aF]at L1;have hb:(r.aa.length:Int)*8≤1099511627776:=(by omega);rw [eE];unfold aw.row;simp [ep,eh,et,hb];refine L1 _ (fun C' v' hC=> ?_);clear L1;simp;have L2:=fun Q=>Cu (H:=H) hS hw0 hw rfl htl C' v' hC Q r.aa.length 0 (by omega);simp [jN,aU,fY]at L2;refine L2 _ ?_;simp [ae]
theorem AI {g1 g2:GV}{r:aA}{s:aw}(hS:fT r s)(hw0:1≤r.wide*r.deep)(hw:r.wide*r.deep≤1000000)(hpl:r.ah.length≤1000000)(htl:r.aa.length≤1000000)(h1:pM H g1 (.agg r.row))(h2:pM H g2 (.agg s.row))(hH:0<H.length):
  aL KC (aE KC) 39 [g1,g2] c H=some (.pure (.bool true),H):=
 gX KC rfl rfl (MH h1 h2) rfl hH (fun H hH=>E3 (c:=c) hS hw0 hw hpl htl hH) rfl
end
section
variable {c:Nat} {H:aj}
end
theorem AJ {r:aA}{w:Nat}{all:List ak}{fin:aw→List ak→Bool}(P:aw→List ak→Prop)(hP: ∀s l a,P s l→a∈all→uj r s w a=true→P (da s w a) (l++[a])): ∀n s l m,P s l→yM r w all fin n s l=some m→
  (∃t,m=l++t)∧(∃s',P s' m∧fin s' m=true)∧ ∀j,l.length≤j→j<m.length→ ∃sj,P sj (m.take j)∧uj r sj w (m.getD j cg)=true∧P (da sj w (m.getD j cg)) (m.take (j+1))
 |0,s,l,m,hs,h=>by
  unfold yM at h;split at h
  ·rename_i hf;cases h;exact⟨⟨[],by simp⟩,⟨s,hs,hf⟩,fun j h1 h2=>by omega⟩
  ·cases h
 |n+1,s,l,m,hs,h=>by
  unfold yM at h;obtain⟨a,ha,h⟩:=List.exists_of_findSome?_eq_some h;split at h
  ·rename_i hu;have hs':=hP s l a hs ha hu;obtain⟨⟨t,e⟩,hf,hj⟩:=AJ P hP n _ _ m hs' h;have e':m=l++(a::t):=(by rw [e];simp);refine⟨⟨a::t,e'⟩,hf,fun j h1 h2=> ?_⟩;rcases Nat.lt_or_eq_of_le h1 with h3|h3
   ·exact hj j (by simp;omega) h2
   ·subst h3;have g:m.getD l.length cg=a:=(by rw [e',List.getD_eq_getElem?_getD];simp);have t1:m.take l.length=l:=(by rw [e'];simp);have t2:m.take (l.length+1)=l++[a]:=(by rw [e];exact List.take_left' (by simp));rw [g,t1,t2];exact⟨s,hs,hu,hs'⟩
  ·cases h
theorem HP {r:aA}(hr:kx r=0)(hn:r.ai.length≤40)(ha: ∀a∈r.ai,AB r a.aO.toNat a∧(0≤a.ba∧a.ba≤1000)∧(0≤a.cd∧a.cd≤15)∧0≤a.gR∧a.gR≤9)(hp:r.ai.Pairwise fun a b=>a.ba≤b.ba∧(a.ba=b.ba→a.aO≠b.aO)):cv r=0:=by
 have C:=Ej hr;have ar:=C.ru;rw [iV,hr,if_neg (by simp),if_neg (by omega)];refine iU fun j _ hj=> ?_;have hj':j<r.ai.length:=(by omega);obtain⟨h1,h2,h3,h4⟩:=ha _ (List.getElem_mem hj');have hw:=h1.wl;have hwho:=h1.aO;rw [kW,aQ hj',cS h2.1 h2.2,if_neg (by simp),if_neg,cS (by omega) (by omega),if_neg (by simp),if_neg,sH h1 ar.1 (by omega),if_neg (by simp),cS h3.1 h3.2,cS h4.1 h4.2,if_neg (by simp)]
 ·intro h;rw [List.any_eq_true]at h;obtain⟨q,hq,he⟩:=h;obtain⟨i,hi,rfl⟩:=List.mem_take_iff_getElem.1 hq;have:=(List.pairwise_iff_getElem.1 hp i j (by omega) hj' (by omega)).2;unfold ko at he;simp at he;exact this he.1 he.2
 ·rintro⟨j0,hlt⟩;rw [aQ (by omega)]at hlt;have:=(List.pairwise_iff_getElem.1 hp (j-1) j (by omega) hj' (by omega)).1;omega
theorem HQ {r:aA}(h:cv r=0): ∀a∈r.ai,(0≤a.cd∧a.cd≤15)∧0≤a.gR∧a.gR≤9:=fun a ha=>by
 obtain⟨j,hj,rfl⟩:=List.getElem_of_mem ha;rw [iV]at h;obtain⟨h1,h⟩:=ite_self h;obtain⟨h2,h⟩:=bH (by decide) h;have e:=fX h j (Nat.zero_le _) (by omega);rw [kW,aQ hj]at e;obtain⟨e1,e⟩:=bH (by decide) e;obtain⟨e2,e⟩:=bH (by decide) e;obtain⟨e3,e⟩:=bH (by decide) e;obtain⟨e4,e⟩:=bH (by decide) e;obtain⟨e5,e⟩:=ite_self e;obtain⟨e6,e⟩:=bH (by decide) e;have a1:=gb (fun x=>e6 (.inl x));have a2:=gb (fun x=>e6 (.inr x));exact⟨a1,a2⟩
def DW (a b:ak):Prop:=a.ba=b.ba→a.aO≠b.aO
theorem MJ {a b:ak}(h:DW a b):DW b a:=fun e e2=>h e.symm e2.symm
theorem uA {aO:Int}{a:ak}:(late aO a).ba=a.ba+if a.aO=aO then 1 else 0:=by
 unfold late;split
 ·rfl
 ·simp
theorem u9 {aO:Int}{a:ak}:(late aO a).aO=a.aO:=by
 unfold late;split<;>rfl
theorem MK {r:aA}{k:Nat}{kind:Int}(h:ma r k kind)(hd:r.ai.Pairwise DW):(gS r k kind).Pairwise DW:=by
 unfold gS;rw [h.get];split
 ·split
  ·rw [List.pairwise_iff_getElem]at hd⊢;intro i j hi hj hij;simp only [List.length_set]at hi hj;have:=hd i j hi hj hij;have key: ∀q (hq:q<r.ai.length),((r.ai.set k {(r.ai[k]'h.lt)with hand:=1-(r.ai[k]'h.lt).hand})[q]'(by simpa using hq)).ba=r.ai[q].ba∧((r.ai.set k {(r.ai[k]'h.lt)with hand:=1-(r.ai[k]'h.lt).hand})[q]'(by simpa using hq)).aO=r.ai[q].aO:=fun q hq=>by
    rw [List.getElem_set];split
    ·rename_i e;subst e;exact⟨rfl,rfl⟩
    ·exact⟨rfl,rfl⟩
   unfold DW at this⊢;rw [(key i hi).1,(key i hi).2,(key j hj).1,(key j hj).2];exact this
  ·exact hd.sublist (List.eraseIdx_sublist ..)
 ·split
  ·refine((kX _).pairwise_iff fun {a b}=>MJ).2 ?_;rw [List.pairwise_append];have hsplit:r.ai=r.ai.take k++r.ai.drop k:=(List.take_append_drop k r.ai).symm;have hd':=hd;have hpw:=h.pw;rw [hsplit]at hd' hpw;obtain⟨d1,d2,d3⟩:=List.pairwise_append.1 hd';obtain⟨p1,p2,p3⟩:=List.pairwise_append.1 hpw;refine⟨d1,List.pairwise_map.2 (d2.imp ?_),fun a ha b' hb'=> ?_⟩
   ·intro a b hab e1 e2;rw [uA,uA]at e1;rw [u9,u9]at e2;rw [e2]at e1;exact hab (by omega) e2
   ·obtain⟨b,hb,rfl⟩:=List.mem_map.1 hb';have q1:=d3 a ha b hb;have q2:=p3 a ha b hb;intro e1 e2;rw [uA]at e1;rw [u9]at e2;split at e1
    ·omega
    ·exact q1 (by omega) e2
  ·exact hd.sublist (List.eraseIdx_sublist ..)
theorem E4 {r:aA}{k:Nat}{kind:Int}(h:ma r k kind){M:ak→Prop}(hM: ∀a b:ak,a.cd=b.cd→a.gR=b.gR→M a→M b)(hm: ∀a∈r.ai,M a): ∀x∈gS r k kind,M x:=fun x hx=>by
 unfold gS at hx;rw [h.get]at hx;split at hx
 ·split at hx
  ·rcases List.mem_or_eq_of_mem_set hx with hx|rfl
   ·exact hm x hx
   ·exact hM (r.ai[k]'h.lt) _ rfl rfl (hm _ (List.getElem_mem h.lt))
  ·exact hm x (List.mem_of_mem_eraseIdx hx)
 ·split at hx
  ·have hx:=(kX _).mem_iff.1 hx;rcases List.mem_append.1 hx with hx|hx
   ·exact hm x (List.mem_of_mem_take hx)
   ·obtain⟨a,ha,rfl⟩:=List.mem_map.1 hx;have ha':=List.mem_of_mem_drop ha;refine hM a _ ?_ ?_ (hm a ha')
    ·unfold late;split<;>rfl
    ·unfold late;split<;>rfl
  ·exact hm x (List.mem_of_mem_eraseIdx hx)
section
noncomputable def qj (r:aA)(k:Nat)(kind:Int)(l:List ak):aA:={r with ai:=gM (fF r k kind) (gS r k kind) l}
theorem MM {r:aA}{k:Nat}{kind B:Int}(h:ma r k kind)(hB: ∀a∈r.ai,a.ba≤B): ∀x∈gS r k kind,x.ba≤B+1:=fun x hx=>by
 have hm: ∀a∈r.ai,a.ba≤B+1:=fun a ha=>(by have:=hB a ha;omega);unfold gS at hx;rw [h.get]at hx;split at hx
 ·split at hx
  ·rcases List.mem_or_eq_of_mem_set hx with hx|rfl
   ·exact hm x hx
   ·show (r.ai[k]'h.lt).ba≤B+1
    exact hm _ (List.getElem_mem h.lt)
  ·exact hm x (List.mem_of_mem_eraseIdx hx)
 ·split at hx
  ·have hx:=(kX _).mem_iff.1 hx;rcases List.mem_append.1 hx with hx|hx
   ·exact hm x (List.mem_of_mem_take hx)
   ·obtain⟨a,ha,rfl⟩:=List.mem_map.1 hx;have:=hB a (List.mem_of_mem_drop ha);rw [uA];split<;>omega
  ·exact hm x (List.mem_of_mem_eraseIdx hx)
theorem MO {r:aA}{k:Nat}{kind B:Int}(h:ma r k kind)(hB: ∀a∈r.ai,a.ba≤B):fF r k kind≤B+1:=by
 have:=hB _ (List.getElem_mem h.lt);unfold fF;rw [h.get];split<;>omega
theorem AK: ∀(l:List ak) (m:Int),(bS m l).Pairwise fun a b=>a.ba<b.ba
 | [],m=> .nil
 |a::l,m=>List.pairwise_cons.2 ⟨fun b hb=>by have:=iu hb;show m+1<b.ba;omega,AK l (m+1)⟩
theorem vc {r:aA}{x:List ak}{w:Nat}{a:ak}(h:AB r w a):AB {r with ai:=x} w a:=⟨h.aO,h.wl,h.hand,h.kind,h.take,h.pO,h.step,h.form⟩
theorem MQ {L l:List ak}{m:Int}{M:ak→Prop}(hL: ∀x∈L,M x)(hB: ∀x∈L,M {x with ba:=x.ba+l.length})(hA: ∀x∈bS m l,M x): ∀x∈gM m L l,M x:=fun x hx=>by
 unfold gM at hx;rcases List.mem_append.1 hx with hx|hx
 ·rcases List.mem_append.1 hx with hx|hx
  ·exact hL x (jM hx).2
  ·exact hA x hx
 ·obtain⟨b,hb,rfl⟩:=List.mem_map.1 hx;exact hB b ((List.dropWhile_sublist _).subset hb)
theorem TK {L l:List ak}{m:Int}(hp:L.Pairwise fun a b=>a.ba≤b.ba)(hd:L.Pairwise DW):(gM m L l).Pairwise fun a b=>a.ba≤b.ba∧(a.ba=b.ba→a.aO≠b.aO):=by
 have hR:L.Pairwise fun a b=>a.ba≤b.ba∧(a.ba=b.ba→a.aO≠b.aO):=by
  rw [List.pairwise_iff_getElem]at hp hd⊢;exact fun i j hi hj hij=>⟨hp i j hi hj hij,hd i j hi hj hij⟩
 unfold gM;rw [List.pairwise_append,List.pairwise_append];refine⟨⟨hR.sublist (List.takeWhile_sublist _),(AK l m).imp fun h=>⟨by omega,fun e=>by omega⟩,fun a ha b hb=> ?_⟩,List.pairwise_map.2 ((hR.sublist (List.dropWhile_sublist _)).imp fun {a b} h=> ?_),fun a ha b' hb'=> ?_⟩
 ·have h1:=rA ha;have h2:=iu hb;exact⟨by omega,fun e=>by omega⟩
 ·refine⟨by simp only;omega,fun e=> ?_⟩;simp only at e⊢;exact h.2 (by omega)
 ·obtain⟨b,hb,rfl⟩:=List.mem_map.1 hb';have h2:=pz hp hb;rcases List.mem_append.1 ha with ha|ha
  ·have h1:=rA ha;exact⟨by simp only;omega,fun e=>by simp only at e;omega⟩
  ·have h1:=iu ha;exact⟨by simp only;omega,fun e=>by simp only at e;omega⟩
theorem Ek {L l:List ak}{m:Int}:(gM m L l).length=L.length+l.length:=by
 have e:=congrArg List.length (jd m L);unfold gM;rw [List.length_append]at e;simp only [List.length_append,List.length_map,hJ];omega
theorem HR {r:aA}{x:List ak}:kx {r with ai:=x}=kx r:=by rw [kI,kI]
section
variable {r:aA} {k:Nat} {kind:Int} {l:List ak} (h:ma r k kind) (hc:cv r=0)
include h hc
theorem E5 (hn:r.ai.length≤30)(ht: ∀a∈r.ai,a.ba≤100)(hl:l.length≤3)(ha: ∀a∈l,a∈xz r (iT r k)):cv (qj r k kind l)=0:=by
 obtain⟨C,A⟩:=lK hc;have hroom:kx r=0:=by
  have hc2:=hc;rw [iV]at hc2;exact(ite_self hc2).1
 have hab:=fun a q=>vd (r:=r) (w:=iT r k) (a:=a) (by have:=h.ru;omega) h.wl q;have hk:=HQ hc;have hkL:=E4 h (M:=fun a=>(0≤a.cd∧a.cd≤15)∧0≤a.gR∧a.gR≤9) (fun a b e1 e2 q=>by rw [←e1,←e2];exact q) hk;have hm0:=u6 h;have hm1:=MO h ht;have hrng: ∀a∈gS r k kind,AB r a.aO.toNat a∧0≤a.ba∧a.ba≤101:=fun a q=>⟨(oy h q).1,(oy h q).2.1,MM h ht a q⟩;have hd:r.ai.Pairwise DW:=A.pw.imp fun q=>q.2;refine HP (r:=qj r k kind l) (HR.trans hroom) ?_ ?_ (TK (yR h) (MK h hd))
 ·show (gM _ _ _).length≤40
  rw [Ek];have:=rr h;omega
 ·refine MQ (fun x hx=> ?_) (fun x hx=> ?_) fun x hx=> ?_
  ·obtain⟨q1,q2,q3⟩:=hrng x hx;exact⟨vc q1,by omega,hkL x hx⟩
  ·obtain⟨q1,q2,q3⟩:=hrng x hx;exact⟨vc (oC q1),by simp only;omega,hkL x hx⟩
  ·have hr:=iu hx;obtain⟨a,q,t,rfl⟩:=xA hx;obtain⟨b1,b2,b3,b4⟩:=hab a (ha a q);have ew:a.aO.toNat=iT r k:=(by rw [b1.aO];rfl);refine⟨?_,by omega,by show (0≤a.cd∧a.cd≤15)∧0≤a.gR∧a.gR≤9;omega⟩
   show AB _ a.aO.toNat _
   rw [ew];exact vc (oC b1)
omit hc in
theorem TL (ha: ∀a∈l,a∈xz r (iT r k)):u5 r (r.ai[k]'h.lt).aO l=0:=by
 have C:=h.room;have ar:=C.ru;have hwho:(r.ai[k]'h.lt).aO=iT r k:=by
  unfold iT;rw [h.get];exact(h.run.ab _ (List.getElem_mem h.lt)).aO
 have key: ∀l:List ak,(∀a∈l,a∈xz r (iT r k))→u5 r (r.ai[k]'h.lt).aO l=0:=fun l=>by
  induction l with
  |nil=>intro _;rfl
  |cons a l ih=>
   intro ha;obtain⟨b1,b2,b3,b4⟩:=vd (r:=r) (w:=iT r k) (a:=a) (by have:=h.ru;omega) h.wl (ha a (by simp));have e:xt r (r.ai[k]'h.lt).aO a=0:=by
    rw [xu,hwho,if_neg (by rw [b1.aO];simp),if_neg (by simp [b2,b3,b4]),sH b1 ar.1 (by omega)]
   unfold u5;rw [e,if_neg (by simp)];exact ih fun b hb=>ha b (by simp [hb])
 exact key l ha
end
theorem na {r:aA}{k:Nat}{kind:Int}{l:List ak}(h:ma r k kind)(ho:jC r k kind=some l):
  l.length≤3∧(∀a∈l,a∈xz r (iT r k))∧(∃s',MS r (iT r k) (cL (fF r k kind) (gS r k kind)) (fF r k kind) s' l∧ow r (behind (fF r k kind) (gS r k kind)) s' l=true)∧
   ∀j,j<l.length→ ∃sj,MS r (iT r k) (cL (fF r k kind) (gS r k kind)) (fF r k kind) sj (l.take j)∧uj r sj (iT r k) (l.getD j cg)=true∧MS r (iT r k) (cL (fF r k kind) (gS r k kind)) (fF r k kind) (da sj (iT r k) (l.getD j cg)) (l.take (j+1)):=by
 unfold jC HG at ho;by_cases he:(HH r k kind).2.2.2≠0
 ·rw [if_pos he]at ho;cases ho
 rw [if_neg he]at ho;obtain⟨n,hn,hg⟩:=List.exists_of_findSome?_eq_some ho;have hS:=(mw (cL (fF r k kind) (gS r k kind)).length (aJ r) (cL (fF r k kind) (gS r k kind)) 0 h.run.snd fun a ha=>(oy h (jM ha).2).1).1;have hF0:Full (aJ r):=⟨by simpa [aJ]using h.run.p0,by simpa [aJ]using h.run.p0,by simp [aJ];exact h.run.w.pl,by simp [aJ];exact h.run.w.pl,by simp [aJ];exact h.run.w.tl⟩;have e:cL (fF r k kind) (gS r k kind)++bS (fF r k kind) []=cL (fF r k kind) (gS r k kind):=(by simp [bS]);have R0:MS r (iT r k) (cL (fF r k kind) (gS r k kind)) (fF r k kind) (HH r k kind).2.1 []:=⟨hS,rq h.run.snd hS hF0,by simp,by rw [e];exact Decidable.not_not.1 he,by rw [e];rfl⟩;obtain⟨gl,t,et,hall⟩:=El _ _ _ _ hg;obtain⟨_,hf,hj⟩:=AJ (fun s l=>MS r (iT r k) (cL (fF r k kind) (gS r k kind)) (fF r k kind) s l) (fun s l a hr ha hu=>by
  have hab:=(vd (by have:=h.ru;omega) h.wl ha).1;rw [uV]at hu;simp at hu;exact hr.next (fun x hx=>rA hx) hab hu.1) n _ _ l R0 hg
 simp at hn gl;refine⟨by omega,fun a ha=>hall a (by rw [et]at ha;simpa using ha),hf,fun j hjl=>hj j (by simp) hjl⟩
theorem HT {r:aA}{k:Nat}{kind:Int}{l:List ak}(h:ma r k kind)(ho:jC r k kind=some l):(dI (qj r k kind l)).2.2.2=0:=by
 obtain⟨_,_,⟨s',hR,hf⟩,_⟩:=na h ho;rw [←TM (yR h) hR]at hf;unfold TN at hf;exact of_decide_eq_true hf
end
theorem qk {α:Type}{p q:List α}{d:α}{j:Nat}(h:j<p.length):(p++q).getD j d=p.getD j d:=by simp [List.getD_eq_getElem?_getD,List.getElem?_append_left h]
theorem AL {p q:List ak}: ∀{n:Nat},n<p.length→j4 (p++q) n=j4 p n
 |0,_=>rfl
 |n+1,h=>by
  unfold j4;rw [AL (n:=n) (by omega),qk h,qk (by omega)]
theorem yS {r:aA}: ∀(k:Nat) (s:aw) (ai:List ak) (i:Nat),ai.length≤k→(bG r k s ai i).2.2.2=0→ai≠[]→(bG r k s ai i).1.length=j4 ai (ai.length-1)+1
 |_,_,[],_,_,_,h=>absurd rfl h
 |0,s,a::rest,i,h,_,_=>by simp at h
 |k+1,s,a::rest,i,hk,he,_=>by
  obtain⟨g,hg⟩: ∃g,(a::rest).takeWhile (a8 a)=g:=⟨_,rfl⟩;obtain⟨l,hl⟩: ∃l,(a::rest).drop g.length=l:=⟨_,rfl⟩;have hgn:g≠[]:=(by rw [←hg,yT];simp);have hsg: ∀b∈g,b.ba=a.ba:=fun b hb=>by
   rw [←hg]at hb;simpa [a8]using(jM hb).1
  have hsplit:a::rest=g++l:=by
   have:=List.takeWhile_append_dropWhile (p:=a8 a) (l:=a::rest);rw [←hl,←hg];have e:=ql (a8 a) (a::rest);conv=>lhs;rw [←List.take_append_drop ((a::rest).takeWhile (a8 a)).length (a::rest)]
   rw [←e]
  have hgl: ∀j,j<g.length→(g.getD j cg).ba=a.ba:=fun j hj=>(by rw [aQ hj];exact hsg _ (List.getElem_mem hj));rw [dP,hg,hl]at he⊢;by_cases h0:(cK r s g [] s 0).2.2≠0
  ·rw [if_pos h0]at he;exact absurd he h0
  rw [if_neg h0]at he⊢;simp only at he⊢;have hll:l.length≤k:=by
   have:=rB (a:=a) (rest:=rest) (k:=k) hk;rw [hg,hl]at this;exact this
  have h1:g.length+l.length=(a::rest).length:=(by rw [hsplit,List.length_append]);by_cases hn:l=[]
  ·subst hn;rw [mB,hsplit,List.append_nil,sI (g.length-1) (x:=a.ba) fun j hj=>hgl j (by have:=List.length_pos_iff.2 hgn;omega)];rfl
  ·have ih:=yS k _ l _ hll he hn;rw [List.length_cons,ih,hsplit];have hlp:=List.length_pos_iff.2 hn;have e:(g++l).length-1=g.length+(l.length-1):=(by rw [List.length_append];omega);have hlt:((a::rest).takeWhile (a8 a)).length<(a::rest).length:=(by rw [hg];omega);have ho:=pA (a8 a) (a::rest) hlt;have hd:(l.getD 0 cg).ba≠(g.getD 0 cg).ba:=by
    rw [hgl 0 (List.length_pos_iff.2 hgn)];have e2:l.getD 0 cg=(a::rest)[((a::rest).takeWhile (a8 a)).length]'hlt:=by
     rw [aQ hlp];simp only [←hl,←hg,List.getElem_drop,Nat.add_zero]
    rw [e2];simpa [a8]using ho
   rw [e,xB hgn hn (fun j hj=>by rw [hgl j hj,hgl 0 (by omega)]) hd];omega
theorem TP {r:aA}{s:aw}{P R:List ak}{a:ak}{K:Nat}(hK:(P++a::R).length≤K)(hP: ∀p∈P,p.ba<a.ba)(hR: ∀b∈R,a.ba<b.ba)(he:(bG r K s (P++a::R) 0).2.2.2=0):
  (s::(bG r K s (P++a::R) 0).1)[j4 (P++a::R) P.length]? =some (bG r P.length s P 0).2.1∧(s::(bG r K s (P++a::R) 0).1)[j4 (P++a::R) P.length+1]? =some (bG r (P++[a]).length s (P++[a]) 0).2.1:=by
 have hPR: ∀x∈P,∀y∈a::R,x.ba≠y.ba:=fun x hx y hy=>by
  have h1:=hP x hx;rcases List.mem_cons.1 hy with rfl|hy
  ·omega
  ·have:=hR y hy;omega
 have A:=je (r:=r) P.length K (a::R).length s P (a::R) 0 (Nat.le_refl _) hK (Nat.le_refl _) hPR;have heP:(bG r P.length s P 0).2.2.2=0:=by
  rcases Decidable.em ((bG r P.length s P 0).2.2.2=0)with e|e
  ·exact e
  ·rw [A,if_pos e]at he;exact he
 rw [if_neg (by simpa using heP)]at A;rw [A]at he⊢;simp only at he⊢;obtain⟨sP,hsP⟩: ∃sP,(bG r P.length s P 0).2.1=sP:=⟨_,rfl⟩;rw [hsP]at he⊢;have hlast:=sJ (r:=r) P.length s P 0;rw [hsP]at hlast;have hl1:(bG r P.length s P 0).1.length=j4 (P++a::R) P.length:=by
  by_cases hn:P=[]
  ·subst hn;simp [mB,j4]
  ·have hc:=yS P.length s P 0 (Nat.le_refl _) heP hn;obtain⟨q,hq⟩: ∃q,P.length=q+1:=⟨P.length-1,by have:=List.length_pos_iff.2 hn;omega⟩;rw [hc];rw [hq,Nat.add_sub_cancel];conv=>rhs;unfold j4
   rw [AL (by omega),qk (p:=P) (j:=q) (by omega)];have e1:(P++a::R).getD (q+1) cg=a:=(by rw [List.getD_eq_getElem?_getD,List.getElem?_append_right (by omega),hq];simp);have e2:=hP _ (List.getElem_mem (show q<P.length by omega))
   rw [e1,aQ (show q<P.length by omega),if_pos (by omega)]
 have B:=je (r:=r) 1 (a::R).length R.length sP [a] R (0+P.length) (by simp) (by simp) (Nat.le_refl _) (fun x hx y hy=>by
  rw [List.mem_singleton.1 hx];have:=hR y hy;omega)
 rw [List.singleton_append]at B;have hea:(bG r 1 sP [a] (0+P.length)).2.2.2=0:=by
  rcases Decidable.em ((bG r 1 sP [a] (0+P.length)).2.2.2=0)with e|e
  ·exact e
  ·rw [B,if_pos e]at he;exact he
 rw [if_neg (by simpa using hea)]at B;rw [B];simp only;have ha1:(bG r 1 sP [a] (0+P.length)).1=[(bG r 1 sP [a] (0+P.length)).2.1]:=by
  have hc:=yS 1 sP [a] (0+P.length) (by simp) hea (by simp);have hl:=sJ (r:=r) 1 sP [a] (0+P.length);have hc':(bG r 1 sP [a] (0+P.length)).1.length=1:=hc;rw [hc']at hl
  match hm:(bG r 1 sP [a] (0+P.length)).1,hc' with
  | [x],_=>
   rw [hm]at hl;rw [←hl];rfl
 have C:=je (r:=r) P.length (P++[a]).length 1 s P [a] 0 (Nat.le_refl _) (Nat.le_refl _) (by simp) (fun x hx y hy=>by
  rw [List.mem_singleton.1 hy];have:=hP x hx;omega)
 rw [if_neg (by simpa using heP),hsP]at C;rw [C,ha1,←hl1];constructor
 ·have e:(s::((bG r P.length s P 0).1++([(bG r 1 sP [a] (0+P.length)).2.1]++(bG r R.length (bG r 1 sP [a] (0+P.length)).2.1 R (0+P.length+[a].length)).1)))=(s::(bG r P.length s P 0).1)++([(bG r 1 sP [a] (0+P.length)).2.1]++(bG r R.length (bG r 1 sP [a] (0+P.length)).2.1 R (0+P.length+[a].length)).1):=rfl;rw [e,List.getElem?_append_left (by simp),←hlast,List.getD_eq_getElem?_getD,List.getElem?_eq_getElem (by simp)];rfl
 ·rw [List.getElem?_cons_succ,List.getElem?_append_right (Nat.le_refl _),Nat.sub_self];rfl
theorem xC: ∀(p q:List ak) (m:Int),bS m (p++q)=bS m p++bS (m+p.length) q
 | [],q,m=>by simp [bS]
 |a::p,q,m=>by
  simp only [List.cons_append,bS,xC p q (m+1),List.length_cons];rw [show m+1+(p.length:Int)=m+((p.length+1:Nat):Int)by omega]
theorem HU {r:aA}{s:aw}{w:Nat}{a:ak}(hw:w<s.ah.length)(h:uj r s w a=true):s.ah.getD w 0∉r.seen∧(da s w a).ah.getD w 0∉r.seen:=by
 rw [uV]at h;simp only [Bool.and_eq_true,Bool.not_eq_true']at h;obtain⟨_,h⟩:=h;rw [lI,List.any_eq_false]at h;have key: ∀x,x∈[s.ah.getD w 0,if a.kind=1 then a.cell else s.ah.getD w 0]→x∉r.seen:=fun x hx hx2=>h x hx2 (by rw [List.contains_iff_mem];exact hx);refine⟨key _ (by simp), ?_⟩;have e:(da s w a).ah.getD w 0=if a.kind=1 then a.cell else s.ah.getD w 0:=by
  rw [iv];by_cases k:a.kind=1
  ·rw [if_pos k,if_pos k];simp [List.getD_eq_getElem?_getD,hw]
  ·rw [if_neg k,if_neg k]
   repeat' split
   all_goals rfl
 rw [e];exact key _ (by simp)
theorem HV {r:aA}{k:Nat}{kind:Int}{l:List ak}(h:ma r k kind)(ho:jC r k kind=some l){i:Nat}(hi:i<(qj r k kind l).ai.length)(h1:fF r k kind<((qj r k kind l).ai[i]'hi).ba)(h2:((qj r k kind l).ai[i]'hi).ba≤fF r k kind+l.length):
  ∃s s',(dI (qj r k kind l)).1[j4 (qj r k kind l).ai i]? =some s∧(dI (qj r k kind l)).1[j4 (qj r k kind l).ai i+1]? =some s'∧fT r s∧fT r s'∧s.ah.getD (iT r k) 0∉r.seen∧s'.ah.getD (iT r k) 0∉r.seen:=by
 obtain⟨l3,hall,_,hpath⟩:=na h ho;have hok:=HT h ho;have hrun:(bG r (qj r k kind l).ai.length (aJ r) (qj r k kind l).ai 0).2.2.2=0:=by
  unfold dI at hok;simp only at hok;unfold qj at hok⊢;simp only [pB,xD]at hok;have ef:aJ {r with ai:=gM (fF r k kind) (gS r k kind) l}=aJ r:=rfl;rw [ef]at hok;split at hok
  ·rename_i q;exact q.1
  ·exact hok
 have hacc:(dI (qj r k kind l)).1=aJ r::(bG r (qj r k kind l).ai.length (aJ r) (qj r k kind l).ai 0).1:=by
  unfold dI qj;simp only [pB];rfl
 rw [hacc];obtain⟨m,hm⟩: ∃m,fF r k kind=m:=⟨_,rfl⟩;obtain⟨U,hU⟩: ∃U,cL m (gS r k kind)=U:=⟨_,rfl⟩;obtain⟨B,hB⟩: ∃B,(behind m (gS r k kind)).map (fun a:ak=>{a with ba:=a.ba+l.length})=B:=⟨_,rfl⟩;have eX:(qj r k kind l).ai=U++bS m l++B:=by
  unfold qj gM;simp only [hm,hU,hB]
 have hUm: ∀x∈U,x.ba≤m:=fun x hx=>rA (by rw [hU];exact hx);have hBm: ∀x∈B,m+l.length<x.ba:=fun x hx=>by
  rw [←hB]at hx;obtain⟨b,hb,rfl⟩:=List.mem_map.1 hx;have:=pz (yR h) hb;simp only;omega
 rw [hm,hU]at hpath;rw [hm]at h1 h2;obtain⟨X,hX⟩: ∃X,(qj r k kind l).ai=X:=⟨_,rfl⟩;simp only [hX]at hi h1 h2 hrun⊢;rw [hX]at eX;have c1:U.length≤i:=by
  rcases Nat.lt_or_ge i U.length with q|q
  ·exfalso;have e:X[i]=U[i]:=(by simp only [eX];rw [List.getElem_append_left (by simp;omega),List.getElem_append_left q]);have:=hUm _ (List.getElem_mem q);rw [e]at h1;omega
  ·exact q
 have c2:i<U.length+l.length:=by
  rcases Nat.lt_or_ge i (U.length+l.length)with q|q
  ·exact q
  ·exfalso;have hi2:i<(U++bS m l++B).length:=(by rw [←eX];exact hi);have q2:(U++bS m l).length≤i:=(by rw [List.length_append,hJ];exact q);have e:X[i]=B[i-(U++bS m l).length]'(by rw [List.length_append]at hi2;omega):=(by simp only [eX];rw [List.getElem_append_right q2]);have:=hBm _ (List.getElem_mem (l:=B) (n:=i-(U++bS m l).length) (by rw [List.length_append]at hi2;omega));rw [e]at h2;omega
 obtain⟨j,rfl⟩: ∃j,i=U.length+j:=⟨i-U.length,by omega⟩;have hj:j<l.length:=(by omega);obtain⟨sj,R1,hu,R2⟩:=hpath j hj;rw [aQ hj]at hu R2;obtain⟨a,ha⟩: ∃a,setAt l[j] (m+1+j)=a:=⟨_,rfl⟩;have haa:a.ba=m+1+j:=(by rw [←ha];rfl);have htl:(l.take j).length=j:=(by rw [List.length_take];omega);have eM:bS m l=bS m (l.take j)++a::bS (m+1+j) (l.drop (j+1)):=by
  conv=>lhs;rw [←List.take_append_drop j l,xC,htl,List.drop_eq_getElem_cons hj]
  simp only [bS];rw [←ha,show m+(j:Int)+1=m+1+j by omega]
  rfl
 have eX2:X=(U++bS m (l.take j))++a::(bS (m+1+j) (l.drop (j+1))++B):=by
  rw [eX,eM];simp
 have lP:(U++bS m (l.take j)).length=U.length+j:=(by rw [List.length_append,hJ,htl]);have ePa:(U++bS m (l.take j))++[a]=U++bS m (l.take (j+1)):=by
  rw [List.take_succ_eq_append_getElem hj,lL,htl,ha,List.append_assoc]
 obtain⟨g1,g2⟩:=TP (r:=r) (s:=aJ r) (P:=U++bS m (l.take j)) (a:=a) (R:=bS (m+1+j) (l.drop (j+1))++B) (K:=X.length) (by rw [←eX2];exact Nat.le_refl _) (fun p hp=>by
  rcases List.mem_append.1 hp with hp|hp
  ·have:=hUm p hp;omega
  ·have:=iu hp;rw [htl]at this;omega) (fun b hb=>by
  rcases List.mem_append.1 hb with hb|hb
  ·have:=iu hb;omega
  ·have:=hBm b hb;omega) (by rw [←eX2];exact hrun)
 rw [←eX2,lP]at g1 g2;rw [ePa]at g2;have f1:=R1.fin;rw [lP]at f1;have f2:=R2.fin;rw [f1]at g1;rw [f2]at g2;have hw:iT r k<sj.ah.length:=(by rw [R1.snd.pl];exact h.wl);obtain⟨n1,n2⟩:=HU hw hu;exact⟨sj,_,g1,g2,R1.snd,R2.snd,n1,n2⟩
section
variable {c:Nat} {H:aj}
theorem Cv {r x:aA} {l:List ak} {m:Int} {w:Nat} {sc:List aw} (sh:gL r) (hw0:1≤r.wide*r.deep) (hwd:r.wide*r.deep≤1000) (hl:l.length≤1000) (hm:0≤m∧m≤10000) (ht: ∀a∈x.ai,0≤a.ba∧a.ba≤10000) (hx:x.ai.length≤1000) (hw:w<r.ah.length)
  (hsc: ∀i (hi:i<x.ai.length),m<(x.ai[i]'hi).ba→(x.ai[i]'hi).ba≤m+l.length→ ∃s s',sc[j4 x.ai i]? =some s∧sc[j4 x.ai i+1]? =some s'∧fT r s∧fT r s'∧s.ah.getD w 0∉r.seen∧s'.ah.getD w 0∉r.seen) (Q:GX→bO→Prop): ∀(k i:Nat) (n:Int),i+k=x.ai.length→n=(if i=0 then 0 else (j4 x.ai (i-1):Int)+1)→(i=0∨j4 x.ai (i-1)≤i)→
  Q (.exit 0) ⟨[(8,aN)],[(4,aU r),(9,aU x)]::H,148⟩→
  iB KC au 41 (lp Tryz.f41 0) [3,4,9,11,13,14,15,16] [8] Q
   [(3, .pure (.slice (l.map ak.row))),(4, .ay (H.length,4) 0),(9, .ay (H.length,9) 0),(11, .pure (.slice (sc.map aw.row))),(13, .pure (.int .i64 m)),(14, .pure (.int .i64 n)),(15, .pure (.int .i64 w)),(16, .pure (.int .i64 i))] ([(4,aU r),(9,aU x)]::H) 148:=by
 intro k
 induction k with
 |zero=>
  intro i n hi hn hb h1;have hnl: ¬i<x.ai.length:=(by omega);apply ax;conv=>arg 4;whnf
  simp [aU,hnl];simpa [aU]using h1
 |succ k ih=>
  intro i n hi hn hb h1;have hia:i<x.ai.length:=(by omega);have hw1:=dp (x:=(i:Int)+1) (by omega) (by omega);obtain⟨N,hN⟩: ∃N,j4 x.ai i=N:=⟨_,rfl⟩;obtain⟨t,htt⟩: ∃t,x.ai[i].ba=t:=⟨_,rfl⟩;have htr:=ht _ (List.getElem_mem hia);rw [htt]at htr;have hwm:=dp (x:=m+(l.length:Int)) (by omega) (by omega);obtain⟨NN,hNN⟩: ∃NN,NN=N+1:=⟨_,rfl⟩;have hNb:N≤i:=by
   have key: ∀j,j4 x.ai j≤j:=fun j=>by
    induction j with
    |zero=>exact Nat.le_refl _
    |succ j ih=>
     unfold j4;split<;>omega
   rw [←hN];exact key i
  have hstep:(i=0∧IntKind.i64.wrap (n+1)=NN)∨(∃q,i=q+1∧ ∃u,(∀h:q<x.ai.length,(x.ai[q]'h).ba=u)∧((¬t=u∧IntKind.i64.wrap (n+1)=NN)∨(t=u∧n=NN))):=by
   rcases Nat.eq_zero_or_pos i with rfl|hpos
   ·refine .inl ⟨rfl, ?_⟩;rw [hn,if_pos rfl,hNN,←hN];rfl
   ·obtain⟨q,rfl⟩: ∃q,i=q+1:=⟨i-1,by omega⟩;have hq:q<x.ai.length:=(by omega);refine .inr ⟨q,rfl,(x.ai[q]'hq).ba,fun _=>rfl, ?_⟩;rw [if_neg (by omega),Nat.add_sub_cancel]at hn;unfold j4 at hN;rw [aQ hia,aQ hq,htt]at hN;by_cases e:t=(x.ai[q]'hq).ba
    ·rw [if_neg (by simpa using e)]at hN;exact .inr ⟨e,by omega⟩
    ·rw [if_pos e]at hN;exact .inl ⟨e,by rw [dp (by omega) (by omega)];omega⟩
  have ih':=ih (i+1) (NN:Int) (by omega) (by rw [if_neg (by omega),Nat.add_sub_cancel,hN,hNN];rfl) (.inr (by rw [Nat.add_sub_cancel,hN];omega)) h1;have hwN:IntKind.i64.wrap ((NN:Int)-1)=N:=(by rw [dp (by omega) (by omega)];omega);by_cases hr:m<t∧t≤m+l.length
  ·obtain⟨s,s',q1,q2,q3,q4,q5,q6⟩:=hsc i hia (by rw [htt];exact hr.1) (by rw [htt];exact hr.2);rw [hN]at q1 q2;rw [←hNN]at q2;obtain⟨b1,e1⟩:=List.getElem?_eq_some_iff.1 q1;obtain⟨b2,e2⟩:=List.getElem?_eq_some_iff.1 q2;have S1:=fun(c:Nat) (H:aj) (hH:0<H.length)=>AI (c:=c) (H:=H) (g1:= .pure (.agg r.row)) (g2:= .pure (.agg s.row)) q3 hw0 (by omega) sh.p sh.t rfl rfl hH;have S2:=fun(c:Nat) (H:aj) (hH:0<H.length)=>AI (c:=c) (H:=H) (g1:= .pure (.agg r.row)) (g2:= .pure (.agg s'.row)) q4 hw0 (by omega) sh.p sh.t rfl rfl hH;have p1:w<s.ah.length:=(by rw [q3.pl];exact hw);have p2:w<s'.ah.length:=(by rw [q4.pl];exact hw);rw [aQ p1]at q5;rw [aQ p2]at q6;have H1:=fun(c:Nat) (H:aj) (hH:0<H.length)=>yQ (c:=c) (H:=H) r.seen s.ah[w] sh.s hH;have H2:=fun(c:Nat) (H:aj) (hH:0<H.length)=>yQ (c:=c) (H:=H) r.seen s'.ah[w] sh.s hH;have g5:r.seen.contains s.ah[w]=false:=(by simpa using q5);have g6:r.seen.contains s'.ah[w]=false:=(by simpa using q6);rw [g5]at H1;rw [g6]at H2;have c1: ¬t≤m:=(by omega);have c2: ¬m+(l.length:Int)<t:=(by omega);have c3: ¬sc.length≤NN:=(by omega);have c3': ¬(sc.length:Int)≤(NN:Int):=(by omega);rw [eE]at S1 S2;unfold aw.row at S1 S2;simp only [aU]at ih'⊢;rcases hstep with ⟨rfl,hn1⟩|⟨q,hiq,u,hu,(⟨hne,hn1⟩|⟨heq,hn1⟩)⟩
   ·apply ax;conv=>arg 4;whnf
    rw [wp_seq];generalize hq:iW _ _=Q2;simp [hia];subst hq;simp only [bV];rw [wp_seq,wp_block,wp_seq];generalize hq:iW _ _=Q2;simp [hia,htt,hn1];subst hq;simp only [bV];rw [wp_seq];generalize hq:iW _ _=Q2;simp [hia,htt,hwm,ak.row,c1,c2];subst hq;simp only [bV];simp [hwN,c3,c3',e1,e2,b1,b2,S1,S2,H1,H2,p1,p2,aF,aw.row,hw1];simpa using ih'
   ·have hq0:q<x.ai.length:=(by omega);have he0:((i:Int)==0)=false:=(by simp;omega);have hi0: ¬i=0:=(by omega);have hwq:IntKind.i64.wrap ((i:Int)-1)=q:=(by rw [dp (by omega) (by omega)];omega);have hu':=hu hq0;apply ax;conv=>arg 4;whnf
    rw [wp_seq];generalize hq:iW _ _=Q2;simp [hia];subst hq;simp only [bV];rw [wp_seq,wp_block,wp_seq];generalize hq:iW _ _=Q2;simp [hia,htt,hn1,hi0,he0,hwq,hu',hne,hq0,ak.row];subst hq;simp only [bV];rw [wp_seq];generalize hq:iW _ _=Q2;simp [hia,htt,hwm,ak.row,c1,c2];subst hq;simp only [bV];simp [hwN,c3,c3',e1,e2,b1,b2,S1,S2,H1,H2,p1,p2,aF,aw.row,hw1];simpa using ih'
   ·have hq0:q<x.ai.length:=(by omega);have he0:((i:Int)==0)=false:=(by simp;omega);have hi0: ¬i=0:=(by omega);have hwq:IntKind.i64.wrap ((i:Int)-1)=q:=(by rw [dp (by omega) (by omega)];omega);have hu':=hu hq0;apply ax;conv=>arg 4;whnf
    rw [wp_seq];generalize hq:iW _ _=Q2;simp [hia];subst hq;simp only [bV];rw [wp_seq,wp_block,wp_seq];generalize hq:iW _ _=Q2;simp [hia,htt,hn1,hi0,he0,hwq,hu',heq,hq0,ak.row];subst hq;simp only [bV];rw [wp_seq];generalize hq:iW _ _=Q2;simp [hia,htt,hwm,ak.row,c1,c2];subst hq;simp only [bV];simp [hwN,c3,c3',e1,e2,b1,b2,S1,S2,H1,H2,p1,p2,aF,aw.row,hw1];simpa using ih'
  ·simp only [aU]at ih'⊢;by_cases c1:t≤m
   ·rcases hstep with ⟨rfl,hn1⟩|⟨q,hiq,u,hu,(⟨hne,hn1⟩|⟨heq,hn1⟩)⟩
    ·apply ax;conv=>arg 4;whnf
     rw [wp_seq];generalize hq:iW _ _=Q2;simp [hia];subst hq;simp only [bV];rw [wp_seq,wp_block,wp_seq];generalize hq:iW _ _=Q2;simp [hia,htt,hn1];subst hq;simp only [bV];rw [wp_seq];generalize hq:iW _ _=Q2;simp [hia,htt,hwm,ak.row,c1];subst hq;simp [hw1];simpa using ih'
    ·have hq0:q<x.ai.length:=(by omega);have he0:((i:Int)==0)=false:=(by simp;omega);have hi0: ¬i=0:=(by omega);have hwq:IntKind.i64.wrap ((i:Int)-1)=q:=(by rw [dp (by omega) (by omega)];omega);have hu':=hu hq0;apply ax;conv=>arg 4;whnf
     rw [wp_seq];generalize hq:iW _ _=Q2;simp [hia];subst hq;simp only [bV];rw [wp_seq,wp_block,wp_seq];generalize hq:iW _ _=Q2;simp [hia,htt,hn1,hi0,he0,hwq,hu',hne,hq0,ak.row];subst hq;simp only [bV];rw [wp_seq];generalize hq:iW _ _=Q2;simp [hia,htt,hwm,ak.row,c1];subst hq;simp [hw1];simpa using ih'
    ·have hq0:q<x.ai.length:=(by omega);have he0:((i:Int)==0)=false:=(by simp;omega);have hi0: ¬i=0:=(by omega);have hwq:IntKind.i64.wrap ((i:Int)-1)=q:=(by rw [dp (by omega) (by omega)];omega);have hu':=hu hq0;apply ax;conv=>arg 4;whnf
     rw [wp_seq];generalize hq:iW _ _=Q2;simp [hia];subst hq;simp only [bV];rw [wp_seq,wp_block,wp_seq];generalize hq:iW _ _=Q2;simp [hia,htt,hn1,hi0,he0,hwq,hu',heq,hq0,ak.row];subst hq;simp only [bV];rw [wp_seq];generalize hq:iW _ _=Q2;simp [hia,htt,hwm,ak.row,c1];subst hq;simp [hw1];simpa using ih'
   ·have c2:m+(l.length:Int)<t:=(by omega);rcases hstep with ⟨rfl,hn1⟩|⟨q,hiq,u,hu,(⟨hne,hn1⟩|⟨heq,hn1⟩)⟩
    ·apply ax;conv=>arg 4;whnf
     rw [wp_seq];generalize hq:iW _ _=Q2;simp [hia];subst hq;simp only [bV];rw [wp_seq,wp_block,wp_seq];generalize hq:iW _ _=Q2;simp [hia,htt,hn1];subst hq;simp only [bV];rw [wp_seq];generalize hq:iW _ _=Q2;simp [hia,htt,hwm,ak.row,c1,c2];subst hq;simp [hw1];simpa using ih'
    ·have hq0:q<x.ai.length:=(by omega);have he0:((i:Int)==0)=false:=(by simp;omega);have hi0: ¬i=0:=(by omega);have hwq:IntKind.i64.wrap ((i:Int)-1)=q:=(by rw [dp (by omega) (by omega)];omega);have hu':=hu hq0;apply ax;conv=>arg 4;whnf
     rw [wp_seq];generalize hq:iW _ _=Q2;simp [hia];subst hq;simp only [bV];rw [wp_seq,wp_block,wp_seq];generalize hq:iW _ _=Q2;simp [hia,htt,hn1,hi0,he0,hwq,hu',hne,hq0,ak.row];subst hq;simp only [bV];rw [wp_seq];generalize hq:iW _ _=Q2;simp [hia,htt,hwm,ak.row,c1,c2];subst hq;simp [hw1];simpa using ih'
    ·have hq0:q<x.ai.length:=(by omega);have he0:((i:Int)==0)=false:=(by simp;omega);have hi0: ¬i=0:=(by omega);have hwq:IntKind.i64.wrap ((i:Int)-1)=q:=(by rw [dp (by omega) (by omega)];omega);have hu':=hu hq0;apply ax;conv=>arg 4;whnf
     rw [wp_seq];generalize hq:iW _ _=Q2;simp [hia];subst hq;simp only [bV];rw [wp_seq,wp_block,wp_seq];generalize hq:iW _ _=Q2;simp [hia,htt,hn1,hi0,he0,hwq,hu',heq,hq0,ak.row];subst hq;simp only [bV];rw [wp_seq];generalize hq:iW _ _=Q2;simp [hia,htt,hwm,ak.row,c1,c2];subst hq;simp [hw1];simpa using ih'
end
end Go.Gh
