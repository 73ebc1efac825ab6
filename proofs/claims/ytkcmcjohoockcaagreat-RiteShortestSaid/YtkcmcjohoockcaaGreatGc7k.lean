/- Texts joined: the evaluator over ghost values, its soundness, the walks. Spaces struck and names made short by a program, for the size. -/
import Derived.Test.YtkcmcjohoockcaaGreatGc7j
import Derived.Test.YtkcmcjohoockcaaGreatGc7f
import Derived.Test.YtkcmcjohoockcaaGreatGc7i
namespace Go.Gh
open Go.Proofs
set_option linter.unusedVariables false
set_option linter.unusedSimpArgs false
set_option linter.unnecessarySimpa false
set_option maxRecDepth 100000
set_option maxHeartbeats 8000000
section
variable {c:Nat} {H:aj}
theorem rG {G:aj}{nm:Nm}{b:dH}(h:nm.1<G.length): ∀pre:aj,aj.set (pre++G) nm b=pre++aj.set G nm b
 | []=>rfl
 |X::pre=>by
  show aj.set (X::(pre++G)) nm b=_
  rw [aj.jJ,if_neg (by simp;omega),rG h pre];rfl
structure ZC (r:aA)(w:Nat)(ai:List ak)(nU:Nat)(n3 n8 n9 n11 n15 n16 n17:Nm)(n0:Nat)(C:GV→aj):Prop where
 pos:0<n0
 len: ∀g,(C g).length=n0
 l3:n3.1<n0
 l8:n8.1<n0
 l9:n9.1<n0
 l11:n11.1<n0
 ZD:n15.1<n0
 l16:n16.1<n0
 l17:n17.1<n0
 g3: ∀g,(C g).get n3=some (aR r)
 g8: ∀g,(C g).get n8=some (.box [.pure (.slice (ai.map ak.row))])
 g9: ∀g,(C g).get n9=some (.box [.pure (.int .i64 w)])
 Xm: ∀g,(C g).get n11=some (.box [.pure (.int .i64 nU)])
 Qe: ∀g,(C g).get n15=some (.box [.func 114 [] [.ay n3 0, .ay n9 0]])
 g16: ∀g,(C g).get n16=some (.box [g])
 s16: ∀g g',(C g).set n16 (.box [g'])=C g'
 Xn: ∀g,(C g).get n17=some (.box [.func 116 [] [.ay n8 0, .ay n11 0, .ay n16 0, .ay n15 0, .ay n9 0, .ay n17 0]])
structure xD (r:aA)(w:Nat)(ai:List ak)(nU:Nat):Prop where
 hr:Qf r
 wl:w<r.ah.length
 ab: ∀a∈ai,AB r a.aN.toNat a
 len:ai.length≤1000000
 u:nU≤ai.length
section
variable {r:aA} {w:Nat} {ai:List ak} {nU:Nat} {n3 n8 n9 n11 n15 n16 n17:Nm} {n0:Nat} {C:GV→aj} (M:ZC r w ai nU n3 n8 n9 n11 n15 n16 n17 n0 C) (P:xD r w ai nU)
include M P
theorem ZE {s:aw}(hS:fR r s)(hF:Full s)(l:List ak)(g:GV)(pre:aj):
  bK KC (aE KC) 116 [.pure (.agg (aQ r s)), .pure (.slice (l.map ak.row)), .pure (.int .i64 0), .ay n8 0, .ay n11 0, .ay n16 0, .ay n15 0, .ay n9 0, .ay n17 0] c (pre++C g)=
   some (.pure (.bool (lE r (ai.drop nU) s l)),pre++C (.pure (.slice (l.map ak.row)))):=by
 refine aO (aK KC au Tryz.func116 rfl rfl D6 (by simp) (by simp [M.len];have:=M.pos;omega) ?_);have hlen:=M.len;have G:=fun(g:GV) (nm:Nm) (h:nm.1<n0)=>mZ (G:=C g) (nm:=nm) (by rw [hlen];exact h) pre;have G8:=fun g=>(G g n8 M.l8).trans (M.g8 g);have G11:=fun g=>(G g n11 M.l11).trans (M.Xm g);have G16:=fun g=>(G g n16 M.l16).trans (M.g16 g);have S16:=fun g g'=>(rG (G:=C g) (nm:=n16) (b:= .box [g']) (by rw [hlen];exact M.l16) pre).trans (by rw [M.s16 g g']);have ne8: ¬n8.1=pre.length+n0:=(by have:=M.l8;omega);have ne11: ¬n11.1=pre.length+n0:=(by have:=M.l11;omega);have ne16: ¬n16.1=pre.length+n0:=(by have:=M.l16;omega);have R:=fun(c:Nat) (H:aj) (hH:0<H.length)=>D9 (c:=c) (H:=H) P.hr.w (ai.drop nU) (by have:=P.len;simp;omega) (fun a ha=>P.ab a (List.mem_of_mem_drop ha)) hS hF hH;have hsn:=(mA (ai.drop nU).length s (ai.drop nU) 0 hS (fun a ha=>P.ab a (List.mem_of_mem_drop ha))).1;unfold lE;obtain⟨q,hq⟩: ∃q,bw r (ai.drop nU).length s (ai.drop nU) 0=q:=⟨_,rfl⟩;rw [hq]at R hsn⊢;have O:=fun(c:Nat) (H:aj) (hH:0<H.length)=>uZ (c:=c) (H:=H) r q.2.1 P.hr.w.tl (by rw [hsn.hl];exact P.hr.w.pl) hsn.tl hH;rw [aQ]at R O;rw [aQ]at R;rw [aQ];have hu:=P.u;have hdm:List.drop nU (ai.map ak.row)=(ai.drop nU).map ak.row:=(by rw [List.map_drop]);have hall: ∀x:ak,x.row.length=9:=fun _=>rfl;have tl:List.take ai.length (ai.map ak.row)=ai.map ak.row:=List.take_of_length_le (by simp);by_cases he:q.2.2.2=0
 ·rw [he]at R⊢;simp [hlen,G8,G11,G16,S16,ne8,ne11,ne16,hu,hdm,hall,tl,R,O,-List.map_drop,ae]
 ·have he':(q.2.2.2==0)=false:=(by simpa using he);simp [hlen,G8,G11,G16,S16,ne8,ne11,ne16,hu,hdm,hall,tl,R,O,he,he',-List.map_drop,ae]
end
end
section
variable {c:Nat} {H:aj}
end
section
variable {c:Nat} {H:aj}
def HK (l:Nat)(g:GV):Prop:= ∀nm es top lo len,g= .a8 nm es top lo len→nm.1=l
theorem iY {l:Nat}{p:PV}:HK l (.pure p):=fun _ _ _ _ _ h=>by cases h
theorem Ea {F:Fr}{nm:Nm}{b:dH}(h:nm.1=H.length): ∀pre:aj,aj.set (pre++F::H) nm b=pre++F.ins nm.2 b::H
 | []=>by
  show aj.set (F::H) nm b=_
  rw [aj.jJ,if_pos h];rfl
 |X::pre=>by
  show aj.set (X::(pre++F::H)) nm b=_
  rw [aj.jJ,if_neg (by simp;omega),Ea h pre];rfl
theorem tC {F:Fr}{g:GV}(h:HK H.length g)(pre:aj): ∃F',(dW (pre++F::H) g).2=pre++F'::H:=by
 cases g with
 |a8 nm es top lo len=>
  have hn:=h _ _ _ _ _ rfl;simp only [dW,dC];split
  ·split
   ·exact⟨_,Ea hn pre⟩
   ·exact⟨F,rfl⟩
  ·exact⟨F,rfl⟩
 |_=>exact⟨F,rfl⟩
theorem rH (pre:aj): ∀{l:List GV} {F:Fr},(∀g∈l,HK H.length g)→ ∃F',(gB (pre++F::H) l).2=pre++F'::H
 | [],F,_=>⟨F,rfl⟩
 |g::l,F,h=>by
  obtain⟨F1,e1⟩:=tC (F:=F) (h g (List.mem_cons_self ..)) pre;obtain⟨F2,e2⟩:=rH pre (l:=l) (F:=F1) fun x hx=>h x (List.mem_cons_of_mem _ hx);exact⟨F2,by simp only [gB,e1,e2]⟩
def HL (L:Nat):GV→Prop
 | .agg l=> ∀x∈l,HK L x
 |g=>HK L g
theorem vr {F:Fr}{g:GV}(h:HL H.length g)(pre:aj): ∃F',(dn (pre++F::H) g).2=pre++F'::H:=by
 cases g with
 |agg l=>
  obtain⟨F',e⟩:=rH pre (F:=F) (l:=l) h;exact⟨F',by simp only [dn,e]⟩
 |_=>exact tC h pre
theorem E6 {H:aj}{g:GV}{q:PV}(hg:Cr H g q):canon (dn H g).1= .pure q:=by
 have h3:=(qk hg).1
 cases g with
 |a8 nm es top lo len=>
  show canon (dW H (.a8 nm es top lo len)).1=_
  have e: ∃p,(dW H (.a8 nm es top lo len)).1= .pure p:=⟨_,rfl⟩;obtain⟨p,hp⟩:=e;rw [hp]at h3⊢;have:p=q:=by
   have h4:cj (.pure p)=GV.pure p:=rfl;rw [h4]at h3;cases h3;rfl
  rw [this];obtain⟨rows,v,ro,a1,a2,a3,a4,a5,a6⟩:=hg;rw [a6];rfl
 |pure p=>cases hg;rfl
 |aV=>cases hg;rfl
 |_=>exact hg.elim
inductive nN (H:aj) (F:Fr) (pre:aj):List GV→List GV→Prop
 |nil:nN H F pre [] []
 |ptr {nm:Nm} {o:Nat} {l m:List GV} (h:nN H F pre l m):nN H F pre (.ay nm o::l) (.ay nm o::m)
 |rd {g:GV} {q:PV} {l m:List GV} (hg:pK (pre++F::H) g q) (ht:HL H.length g) (h:nN H F pre l m):nN H F pre (g::l) (.pure q::m)
 |Tx {g:GV} {q:PV} {l m:List GV} (hg:Cr (pre++F::H) g q) (hq:canon (.pure q)= .pure q) (ht:HL H.length g) (h:nN H F pre l m):nN H F pre (g::l) (.pure q::m)
theorem nO.pre {F F':Fr}(h:ql F F'): ∀pre:aj,nO (pre++F::H) (pre++F'::H)
 | []=> .cons h (nO.refl H)
 |X::pre=> .cons (ql.refl X) (nO.pre h pre)
theorem ql.Cs {F F':Fr}: ∀{pre:aj},nO (pre++F::H) (pre++F'::H)→ql F F'
 | [],h=>by cases h with|cons a _=>exact a
 |X::pre,h=>by cases h with|cons _ b=>exact ql.Cs b
theorem nN.ro {F F':Fr}{pre:aj}(hr:ql F F'){l m:List GV}(h:nN H F pre l m):nN H F' pre l m:=by
 induction h with
 |nil=>exact .nil
 |ptr _ ih=>exact .ptr ih
 |rd hg ht _ ih=>exact .rd (rI (nO.sim (nO.pre hr pre)) hg) ht ih
 |Tx hg hq ht _ ih=>exact .Tx (Eb (nO.sim (nO.pre hr pre)) hg) hq ht ih
theorem uB {pre:aj}: ∀{l m:List GV} {F:Fr},nN H F pre l m→ ∃F',ql F F'∧(bs (pre++F::H) l).2=pre++F'::H∧(bs (pre++F::H) l).1.map canon=m.map canon
 |_,_,F, .nil=>⟨F,ql.refl F,rfl,rfl⟩
 |_,_,F, .ptr h=>by
  obtain⟨F',r,e1,e2⟩:=uB h;refine⟨F',r, ?_, ?_⟩
  ·simp only [bs,dn,dW,e1]
  ·simp only [bs,dn,dW,List.map_cons,e2]
 |g::l,_,F, .rd hg ht h=>by
  obtain⟨F1,e1⟩:=vr (F:=F) ht pre;have r1:ql F F1:=by
   have:=xE (pre++F::H) g;rw [e1]at this;exact ql.Cs this
  obtain⟨F',r,e2,e3⟩:=uB (h.ro r1);have hc:=(m0 hg).1;refine⟨F',r1.trans r, ?_, ?_⟩
  ·simp only [bs,e1,e2]
  ·simp only [bs,e1,List.map_cons,e3,hc];congr 1
 |g::l,_,F, .Tx hg hq ht h=>by
  obtain⟨F1,e1⟩:=vr (F:=F) ht pre;have r1:ql F F1:=by
   have:=xE (pre++F::H) g;rw [e1]at this;exact ql.Cs this
  obtain⟨F',r,e2,e3⟩:=uB (h.ro r1);have hc:=E6 hg;refine⟨F',r1.trans r, ?_, ?_⟩
  ·simp only [bs,e1,e2]
  ·simp only [bs,e1,List.map_cons,e3,hc,hq]
theorem rJ {f:FuncId}(h1:KC.wT f=false)(h2:KC.Aa f=false)(h3:KC.EP f=true)(pre:aj){l m:List GV}{F:Fr}(h:nN H F pre l m):
  ∃F',ql F F'∧ ∀c,aL KC (aE KC) f l c (pre++F::H)=bK KC (aE KC) f m c (pre++F'::H):=by
 obtain⟨F',r,e1,e2⟩:=uB h;refine⟨F',r,fun c=> ?_⟩;rw [jG h1 h2 h3,e1];exact wX e2
theorem As.rd {F:Fr}{g:GV}{A:List ak}(h:As H F g A):Cr (F::H) g (.slice (A.map ak.row)):=by
 rcases h with ⟨rfl,rfl⟩|⟨hne,key,v,rfl,hg,hv⟩
 ·rfl
 ·exact⟨A.map ak.row,v,false,by simpa using hg,by simpa using hv,by simp,rfl,rfl,rfl⟩
theorem As.top {F:Fr}{g:GV}{A:List ak}(h:As H F g A):HL H.length g:=by
 rcases h with ⟨rfl,rfl⟩|⟨hne,key,v,rfl,hg,hv⟩
 ·intro nm es top lo len e;cases e
 ·intro nm es top lo len e;cases e;rfl
end
section
variable {c:Nat} {H:aj}
noncomputable def wR (S:aZ)(st:LoopState)(p:Option GX):fK:={ez:=S,nt:=69,params:=[44],assign:=rgA Tryz.f116,body:=rgB Tryz.f116,fn:=116,state:=st,pending:=p}
def Ct (r:aA)(s:aw)(l:List ak)(n:Int)(b:Bool)(lb:fK):Fr:=
 [(9,bM r s),(10, .box [.pure (.slice (l.map ak.row))]),(11, .box [.pure (.int .i64 n)]),(12, .box [.pure (.bool b)]),(10000010, .loop lb)]
def CT (r:aA)(s:aw)(l:List ak)(n:Int)(b:Bool)(lb:fK)(G:aj):aj:=Ct r s l n b lb::G
section
variable {r:aA} {s:aw} {l:List ak} {n:Int} {b:Bool} {lb:fK} {G:aj} {L:Nat} (hL:G.length=L) (pre:aj)
include hL
theorem Ty:(pre++CT r s l n b lb G).length=pre.length+(L+1):=by simp [CT,hL]
theorem sI (k:Nat):aj.get (pre++CT r s l n b lb G) (L,k)=(Ct r s l n b lb).get k:=by
 rw [mZ (by simp [CT,hL])];unfold CT;rw [aj.e9,if_pos hL.symm]
theorem Tz {nm:Nm}(h:nm.1<L):aj.get (pre++CT r s l n b lb G) nm=aj.get G nm:=by
 rw [mZ (by simp [CT,hL];omega)];unfold CT;rw [aj.e9,if_neg (by omega)]
theorem Ec (lb':fK):aj.set (pre++CT r s l n b lb G) (L,10000010) (.loop lb')=pre++CT r s l n b lb' G:=by
 rw [rG (by simp [CT,hL])];unfold CT;rw [aj.jJ,if_pos hL.symm];rfl
theorem MB (b':Bool):aj.set (pre++CT r s l n b lb G) (L,12) (.box [.pure (.bool b')])=pre++CT r s l n b' lb G:=by
 rw [rG (by simp [CT,hL])];unfold CT;rw [aj.jJ,if_pos hL.symm];rfl
end
theorem Au (l:List ak)(hn:l.length≤1000000){F:Fr}(hf:F.get (aq c 7)=none): ∃g F',As H F' g l∧(∀q top,g= .a8 (H.length,q) 9 top 0 top→q=aq c 7)∧(∀k,k≠aq c 7→F'.get k=F.get k)∧
  aL KC (aE KC) 75 [.pure (.slice (l.map ak.row))] c (F::H)=some (g,F'::H):=by
 refine⟨_,_, ?_, ?_, ?_,Av l hn hf⟩
 ·unfold dG;by_cases h:l=[]
  ·subst h;exact Or.inl ⟨rfl,rfl⟩
  ·refine Or.inr ⟨h,aq c 7,0,by rw [if_neg (by simpa using h)];simp, ?_,Nat.zero_le _⟩;exact dB (by simpa using h)
 ·intro q top e;unfold dG at e;split at e
  ·cases e
  ·cases e;rfl
 ·intro k hk;exact cr hk
noncomputable def Xo (r:aA)(s:aw)(l:List ak)(n:Nat)(S:aZ)(up:aj→aj)(C:GV→aj)(a:GV×Bool):aj:=
 CT r s l ((n:Int)+1) a.2 (wR S (if a.2=true then .done else .ready) (if a.2=true then some .ret else none)) (up (C a.1))
section
variable {r:aA} {w:Nat} {ai:List ak} {nU:Nat} {n3 n8 n9 n11 n15 n16 n17:Nm} {n0:Nat} {C:GV→aj} (M:ZC r w ai nU n3 n8 n9 n11 n15 n16 n17 n0 C) (P:xD r w ai nU)
include M P
theorem TA {fin:aw→List ak→Bool} {all:List ak} {s:aw} (hS:fR r s) (hF:Full s) (l:List ak) (hl:l.length≤100000) {n:Nat} (hn:n≤1000)
  (ih: ∀(c:Nat) (s:aw) (l:List ak) (g:GV) (pre:aj),fR r s→Full s→l.length+n≤100001→
   bK KC (aE KC) 116 [.pure (.agg (aQ r s)), .pure (.slice (l.map ak.row)), .pure (.int .i64 n), .ay n8 0, .ay n11 0, .ay n16 0, .ay n15 0, .ay n9 0, .ay n17 0] c (pre++C g)=
    some (.pure (.bool (gX r w all fin n s l g).2),pre++C (gX r w all fin n s l g).1))
  (hln:l.length+1+n≤100001) {x:ak} (hx:AB r w x) (hp:bV r s w x=true) (S:aZ) {L:Nat} (pre0:aj) (hL:pre0.length+n0=L) (h9:look S 9= .ay (L,9) 0) (h10:look S 10= .ay (L,10) 0) (h11:look S 11= .ay (L,11) 0) (h12:look S 12= .ay (L,12) 0) (h6:look S 6= .ay n15 0) (h8:look S 8= .ay n17 0) (g:GV) (pre:aj):
  ground (aE KC) (L,10000010) [.pure (.agg x.row)] (pre++CT r s l ((n:Int)+1) false (wR S .ready none) (pre0++C g))=
   some (.pure (.bool (if gM r w (cR s w x)=true then true else !(gX r w all fin n (cR s w x) (l++[x]) g).2)),pre++Xo r s l n S (pre0++ ·) C (if gM r w (cR s w x)=true then (g,false)else gX r w all fin n (cR s w x) (l++[x]) g)):=by
 have hG: ∀g,(pre0++C g).length=L:=fun g=>(by rw [List.length_append,M.len,hL]);have gl:=fun(lb:fK) (g:GV) (b:Bool) (pre:aj)=>sI (r:=r) (s:=s) (l:=l) (n:=(n:Int)+1) (b:=b) (lb:=lb) (hG g) pre 10000010;refine aO (E1 KC au (l:=wR S .ready none) (s:=(44, .pure (.agg x.row))::S) ?_ rfl ?_ ?_ ?_ ?_)
 ·rw [gl];rfl
 ·simp [wR,il]
 ·kernel_rfl
 ·kernel_rfl
 ·show wp KC au 116 (rgA Tryz.f116) _ _
  conv=>arg 4;whnf
  have ln:=fun lb g b pre=>Ty (r:=r) (s:=s) (l:=l) (n:=(n:Int)+1) (b:=b) (lb:=lb) (hG g) pre;have gl2:=fun(lb:fK) (g:GV) (b:Bool) (pre:aj)=>(gl lb g b pre).trans (show _=some (.loop lb)from rfl)
  have sl:=fun(lb lb':fK) (g:GV) (b:Bool) (pre:aj)=>Ec (r:=r) (s:=s) (l:=l) (n:=(n:Int)+1) (b:=b) (lb:=lb) (hG g) pre lb';have g9:=fun(lb:fK) (g:GV) (b:Bool) (pre:aj)=>(sI (r:=r) (s:=s) (l:=l) (n:=(n:Int)+1) (b:=b) (lb:=lb) (hG g) pre 9).trans (show _=some (bM r s)from rfl)
  have g10:=fun(lb:fK) (g:GV) (b:Bool) (pre:aj)=>(sI (r:=r) (s:=s) (l:=l) (n:=(n:Int)+1) (b:=b) (lb:=lb) (hG g) pre 10).trans (show _=some (.box [.pure (.slice (l.map ak.row))])from rfl)
  have Xm:=fun(lb:fK) (g:GV) (b:Bool) (pre:aj)=>(sI (r:=r) (s:=s) (l:=l) (n:=(n:Int)+1) (b:=b) (lb:=lb) (hG g) pre 11).trans (show _=some (.box [.pure (.int .i64 ((n:Int)+1))])from rfl)
  have low:=fun(lb:fK) (g:GV) (b:Bool) (pre:aj) (nm:Nm) (h:nm.1<n0)=>(Tz (r:=r) (s:=s) (l:=l) (n:=(n:Int)+1) (b:=b) (lb:=lb) (hG g) pre (nm:=nm) (by omega)).trans (mZ (G:=C g) (by rw [M.len];exact h) pre0);have g3:=fun(lb:fK) (g:GV) (b:Bool) (pre:aj)=>(low lb g b pre n3 M.l3).trans (M.g3 g);have g9':=fun(lb:fK) (g:GV) (b:Bool) (pre:aj)=>(low lb g b pre n9 M.l9).trans (M.g9 g);have Qe:=fun(lb:fK) (g:GV) (b:Bool) (pre:aj)=>(low lb g b pre n15 M.ZD).trans (M.Qe g);have Xn:=fun(lb:fK) (g:GV) (b:Bool) (pre:aj)=>(low lb g b pre n17 M.l17).trans (M.Xn g);have m15:=M.ZD;have m17:=M.l17;have e0: ¬L=pre.length+(L+1):=(by omega);have e1: ¬L=pre.length+(L+1)+1:=(by omega);have e15: ¬n15.1=pre.length+(L+1):=(by omega);have e15': ¬n15.1=pre.length+(L+1)+1:=(by omega);have e17: ¬n17.1=pre.length+(L+1):=(by omega);have e17': ¬n17.1=pre.length+(L+1)+1:=(by omega);have hS2:=hS.Q1 hx hp;have hF2:=ry hS hS2 hF;have hxw:x.aN.toNat=w:=(by rw [hx.aN];rfl);have MN:=fun(c:Nat) (H:aj) (hH:0<H.length)=>xy (c:=c) (H:=H) hS P.hr.w hF [x] (by simp) (fun a ha=>by rw [List.mem_singleton.1 ha,hxw];exact hx) hH;rw [vu (by rw [hxw];exact hp),hxw]at MN;simp only [List.map_cons,List.map_nil]at MN;have SN:=fun(c:Nat) (lb:fK) (g:GV) (b:Bool) (pre:aj)=>Ed (c:=c) (H:=pre++CT r s l ((n:Int)+1) b lb (pre0++C g)) P.hr.sh (s:=cR s w x) (w:=w) (by rw [hS2.pl];exact P.wl) (g3 lb g b pre) (g9' lb g b pre) (by rw [ln];omega);have SN2:=fun c lb g b X=>SN c lb g b (X::pre);simp only [List.cons_append]at SN2;rw [bF]at MN;rw [aQ,aQ]at MN;rw [aQ]at SN2;simp [Al,bF,ln,gl2,sl];refine⟨by show 16<69;omega,rfl, ?_⟩
  show wp KC au 116 (rgB Tryz.f116) ⟨_,_::(pre++CT r s l ((n:Int)+1) false (wR S .busy none) (pre0++C g)),69⟩ _
  conv=>arg 4;whnf
  cases hs2:gM r w (cR s w x)with
  |true=>
   rw [hs2]at SN2;simp [h9,h10,h11,h12,h6,h8,ln,g9,bM,e0,MN,SN2,e15,e17,Qe,ot,gl2,sl];rfl
  |false=>
   rw [hs2]at SN2;obtain⟨gc,F1,L1,k1,f1,CE⟩:=Au (c:=61) (H:=pre++CT r s l ((n:Int)+1) false (wR S .busy none) (pre0++C g)) l (by omega) (F:=[(16, .box [.pure (.int .i64 x.a7), .pure (.int .i64 x.aN), .pure (.int .i64 x.kind), .pure (.int .i64 x.hand), .pure (.int .i64 x.bd), .pure (.int .i64 x.cell), .pure (.int .i64 x.other), .pure (.int .i64 x.bZ), .pure (.int .i64 x.gz)]),(17, .box [.pure (.int .i64 r.wide), .pure (.int .i64 r.deep), .pure (.slice (r.ah.map aW.row)), .pure (.slice (r.aa.map bc.row)), .pure (.slice (r.seen.map aG)), .pure (.slice (r.br.map aG)), .pure (.slice (r.ai.map ak.row)), .pure (.slice ((cR s w x).ah.map aG)), .pure (.slice ((cR s w x).ao.map aH.row)), .pure (.slice ((cR s w x).aa.map bB.row))])]) (by simp [aq]);have d16:(16:Nat)≠aq 61 7:=(by decide);have d64:(64:Nat)≠aq 61 7:=(by decide);have f16:=f1 16 d16;have f64:=f1 64 d64;have f17:=f1 17 (by decide);simp at f16 f64 f17;simp [h9,h10,h11,h12,h6,h8,ln,g9,g10,Xm,bM,e0,MN,SN2,e15,e17,Qe,Xn,CE,f16,f17,-vg];rw [←ln (wR S .busy none) g false pre];refine HM (key:=64) (H:=pre++CT r s l ((n:Int)+1) false (wR S .busy none) (pre0++C g)) x L1 f64 (by omega) _ fun g2 F2 L2 k2 f2=> ?_;have nk: ∀q,q≠aq 61 7→ ∀top,gc≠ .a8 ((pre++CT r s l ((n:Int)+1) false (wR S .busy none) (pre0++C g)).length,q) 9 top 0 top:=fun q hq top e=>hq (k1 q top e);have f16':=(f2 16 (by decide) (nk 16 d16)).trans f16;have f17':=(f2 17 (by decide) (nk 17 (by decide))).trans f17;obtain⟨F3,r3,e3⟩:=rJ (f:=116) rfl rfl rfl [] (F:=F2) (H:=pre++CT r s l ((n:Int)+1) false (wR S .busy none) (pre0++C g)) (.rd (g:= .pure (.agg (aQ r (cR s w x)))) rfl iY (.Tx L2.rd rfl L2.top (.rd (g:= .pure (.int .i64 n)) rfl iY (.ptr (nm:=n8) (o:=0) (.ptr (nm:=n11) (o:=0) (.ptr (nm:=n16) (o:=0) (.ptr (nm:=n15) (o:=0) (.ptr (nm:=n9) (o:=0) (.ptr (nm:=n17) (o:=0) .nil)))))))));have I0:=ih 67 (cR s w x) (l++[x]) g ((F3::pre)++[Ct r s l ((n:Int)+1) false (wR S .busy none)]++pre0) hS2 hF2 (by simp;omega);have hsh: ∀g,((F3::pre)++[Ct r s l ((n:Int)+1) false (wR S .busy none)]++pre0)++C g=F3::(pre++CT r s l ((n:Int)+1) false (wR S .busy none) (pre0++C g)):=fun g=>(by simp [CT]);rw [hsh,hsh]at I0;have I:=(e3 67).trans I0;have fl:=fun(lb:fK) (g:GV) (b b':Bool) (pre:aj)=>MB (r:=r) (s:=s) (l:=l) (n:=(n:Int)+1) (b:=b) (lb:=lb) (hG g) pre b';have g12:=fun(lb:fK) (g:GV) (b:Bool) (pre:aj)=>(sI (r:=r) (s:=s) (l:=l) (n:=(n:Int)+1) (b:=b) (lb:=lb) (hG g) pre 12).trans (show _=some (.box [.pure (.bool b)])from rfl)
   have hwn:=dh (x:=(n:Int)) (by omega) (by omega);rw [aQ]at I;simp only [List.nil_append]at I;generalize hT:gX r w all fin n (cR s w x) (l++[x]) g=T at I⊢;obtain⟨Tg,Tb⟩:=T
   cases Tb with
   |true=>
    simp only at I;simp [h9,h10,h11,h12,h6,h8,ln,g9,g10,Xm,bM,e0,e15,e17,Qe,Xn,f16',f17',hwn,I,fl,g12,ot,gl2,sl];rfl
   |false=>
    simp only at I;simp [h9,h10,h11,h12,h6,h8,ln,g9,g10,Xm,bM,e0,e15,e17,Qe,Xn,f16',f17',hwn,I,fl,g12,ot,gl2,sl];rfl
end
end
section
variable {c:Nat} {H:aj}
section
variable {r:aA} {w:Nat} {ai:List ak} {nU:Nat} {n3 n8 n9 n11 n15 n16 n17:Nm} {n0:Nat} {C:GV→aj} (M:ZC r w ai nU n3 n8 n9 n11 n15 n16 n17 n0 C) (P:xD r w ai nU)
include M P
theorem ZF {fin:aw→List ak→Bool} {all:List ak} {s:aw} (hS:fR r s) (hF:Full s) (l:List ak) (hl:l.length≤100000) {n:Nat} (hn:n≤1000)
  (ih: ∀(c:Nat) (s:aw) (l:List ak) (g:GV) (pre:aj),fR r s→Full s→l.length+n≤100001→
   bK KC (aE KC) 116 [.pure (.agg (aQ r s)), .pure (.slice (l.map ak.row)), .pure (.int .i64 n), .ay n8 0, .ay n11 0, .ay n16 0, .ay n15 0, .ay n9 0, .ay n17 0] c (pre++C g)=
    some (.pure (.bool (gX r w all fin n s l g).2),pre++C (gX r w all fin n s l g).1))
  (hln:l.length+1+n≤100001) (S:aZ) {L:Nat} (pre0:aj) (hL:pre0.length+n0=L) (h9:look S 9= .ay (L,9) 0) (h10:look S 10= .ay (L,10) 0) (h11:look S 11= .ay (L,11) 0) (h12:look S 12= .ay (L,12) 0) (h6:look S 6= .ay n15 0) (h8:look S 8= .ay n17 0):
  Aw (L,10000010) (L+1) (GV×Bool) (Xo r s l n S (pre0++ ·) C) (bV r s w) (fun x (a:GV×Bool)=>if gM r w (cR s w x)=true then true else !(gX r w all fin n (cR s w x) (l++[x]) a.1).2)
   (fun x (a:GV×Bool)=>if gM r w (cR s w x)=true then a else gX r w all fin n (cR s w x) (l++[x]) a.1) (fun a=>a.2=false) (AB r w) where
 pos:=by omega
 lp:=by simp
 len:=fun a=>by simp [Xo,CT,M.len,hL]
 gr:=fun x a pre hx hp ha=>by
  obtain⟨g,b⟩:=a;simp only at ha;subst ha;exact TA M P hS hF l hl hn ih hln hx hp S pre0 hL h9 h10 h11 h12 h6 h8 g pre
 ZG:=fun x a hx ha hc=>by
  split at hc
  ·rename_i hs;rw [if_pos hs];exact ha
  ·rename_i hs;rw [if_neg hs];simpa using hc
theorem E7 {fin:aw→List ak→Bool} {s:aw} (hS:fR r s) (hF:Full s) (l:List ak) (hl:l.length≤100000) {n nc:Nat} (hn:n≤1000) (hnc:IntKind.i64.wrap (r.wide*r.deep)=nc) (hnc2:(nc:Int)=r.wide*r.deep) (hnc0:nc≤1000000)
  (ih: ∀(c:Nat) (s:aw) (l:List ak) (g:GV) (pre:aj),fR r s→Full s→l.length+n≤100001→
   bK KC (aE KC) 116 [.pure (.agg (aQ r s)), .pure (.slice (l.map ak.row)), .pure (.int .i64 n), .ay n8 0, .ay n11 0, .ay n16 0, .ay n15 0, .ay n9 0, .ay n17 0] c (pre++C g)=
    some (.pure (.bool (gX r w (bJ nc r.aa.length r.ah.length w) fin n s l g).2),pre++C (gX r w (bJ nc r.aa.length r.ah.length w) fin n s l g).1))
  (hln:l.length+1+n≤100001) {L:Nat} (pre0:aj) (hL:pre0.length+n0=L) (g:GV) (hs:gM r w s=false) (st:bN) (Q:GX→bN→Prop)
  (hh:st.h=[(9,bM r s),(10, .box [.pure (.slice (l.map ak.row))]),(11, .box [.pure (.int .i64 ((n:Int)+1))]),(12, .box [.pure (.bool false)])]::(pre0++C g))
  (hnt:st.nt=69) (h9:look st.s 9= .ay (L,9) 0) (h10:look st.s 10= .ay (L,10) 0) (h11:look st.s 11= .ay (L,11) 0) (h12:look st.s 12= .ay (L,12) 0) (h6:look st.s 6= .ay n15 0) (h8:look st.s 8= .ay n17 0)
  (h43:look st.s 43= .func 132 [] [.b7 (aQ r s), .b7 [.int .i64 w]])
  (hq: ∀lb,Q (if (gX r w (bJ nc r.aa.length r.ah.length w) fin (n+1) s l g).2=true then .ret else .normal)
   {st with h:=CT r s l ((n:Int)+1) (gX r w (bJ nc r.aa.length r.ah.length w) fin (n+1) s l g).2 lb (pre0++C (gX r w (bJ nc r.aa.length r.ah.length w) fin (n+1) s l g).1)}):
  WP KC au 116 (.rangeFunc (.tmp 43) #[44] (rgA Tryz.f116) (rgB Tryz.f116)) st Q:=by
 have hC:=ZF M P hS hF l hl hn ih hln st.s pre0 hL h9 h10 h11 h12 h6 h8;have hR:=fun c=>yT (c:=c) hC hS P.hr.w (fun x hx=>hx) hnc hnc0 (fun x hx=>(mj (n:=nc) hnc2.symm P.wl hx).1) (a:=(g,false)) rfl;have hfr:aX (rgB Tryz.f116)=10:=by kernel_rfl
 have et:gX r w (bJ nc r.aa.length r.ah.length w) fin (n+1) s l g=(fk (bV r s w) (fun x (a:GV×Bool)=>if gM r w (cR s w x)=true then true else !(gX r w (bJ nc r.aa.length r.ah.length w) fin n (cR s w x) (l++[x]) a.1).2)
   (fun x (a:GV×Bool)=>if gM r w (cR s w x)=true then a else gX r w (bJ nc r.aa.length r.ah.length w) fin n (cR s w x) (l++[x]) a.1) (bJ nc r.aa.length r.ah.length w) (g,false)).1:=by
  conv=>lhs;unfold gX
  rw [if_neg (by simp [hs])]
 rw [et]at hq
 generalize (fk (bV r s w) (fun x (a:GV×Bool)=>if gM r w (cR s w x)=true then true else !(gX r w (bJ nc r.aa.length r.ah.length w) fin n (cR s w x) (l++[x]) a.1).2)
   (fun x (a:GV×Bool)=>if gM r w (cR s w x)=true then a else gX r w (bJ nc r.aa.length r.ah.length w) fin n (cR s w x) (l++[x]) a.1) (bJ nc r.aa.length r.ah.length w) (g,false)).1=T at hR hq
 have hG: ∀g,(pre0++C g).length=L:=fun g=>(by rw [List.length_append,M.len,hL]);refine HC KC au (nm:=(L,10000010)) (H1:=Xo r s l n st.s (pre0++ ·) C (g,false)) (H2:=Xo r s l n st.s (pre0++ ·) C T) (v:= .pure (.tuple [])) ?_ ?_ ?_
 ·rw [hh,hfr,hnt];simp [iz,km,Xo,CT,Ct,wR,hL,M.len]
 ·simp only [ev,h43];exact hR 0
 ·have gl:=sI (r:=r) (s:=s) (l:=l) (n:=(n:Int)+1) (b:=T.2) (lb:=wR st.s (if T.2=true then .done else .ready) (if T.2=true then some .ret else none)) (hG T.1) [] 10000010;have hlp:=gl.trans (show _=some (dH.loop (wR st.s (if T.2=true then .done else .ready) (if T.2=true then some .ret else none)))from rfl)
  have sl:=Ec (r:=r) (s:=s) (l:=l) (n:=(n:Int)+1) (b:=T.2) (lb:=wR st.s (if T.2=true then .done else .ready) (if T.2=true then some .ret else none)) (hG T.1) [];unfold vn;show Qd (aj.get (CT r s l ((n:Int)+1) T.2 (wR st.s _ _) (pre0++C T.1)) (L,10000010)) _
  rw [show aj.get (CT r s l ((n:Int)+1) T.2 (wR st.s (if T.2=true then .done else .ready) (if T.2=true then some .ret else none)) (pre0++C T.1)) (L,10000010)=_ from hlp,HB]
  refine⟨?_, ?_⟩
  ·show (if T.2=true then LoopState.done else .ready)≠ .busy
   split<;>simp
  ·have q:=hq {wR st.s (if T.2=true then .done else .ready) (if T.2=true then some .ret else none)with state:= .exhausted};have s2:=sl {wR st.s (if T.2=true then .done else .ready) (if T.2=true then some .ret else none)with state:= .exhausted};simp only [List.nil_append]at s2;show Q _ {st with h:=aj.set (CT r s l ((n:Int)+1) T.2 (wR st.s (if T.2=true then .done else .ready) (if T.2=true then some .ret else none)) (pre0++C T.1)) (L,10000010) _}
   rw [s2]
   cases hb:T.2 with
   |true=>rw [hb]at q;exact q
   |false=>rw [hb]at q;exact q
end
end
section
variable {c:Nat} {H:aj}
section
variable {r:aA} {w:Nat} {ai:List ak} {nU:Nat} {n3 n8 n9 n11 n15 n16 n17:Nm} {n0:Nat} {C:GV→aj} (M:ZC r w ai nU n3 n8 n9 n11 n15 n16 n17 n0 C) (P:xD r w ai nU)
include M P
theorem HN {nc:Nat}(hnc:IntKind.i64.wrap (r.wide*r.deep)=nc)(hnc2:(nc:Int)=r.wide*r.deep)(hnc0:nc≤1000000): ∀(n:Nat),n≤1000→ ∀(c:Nat) (s:aw) (l:List ak) (g:GV) (pre:aj),fR r s→Full s→l.length+n≤100001→
      bK KC (aE KC) 116 [.pure (.agg (aQ r s)), .pure (.slice (l.map ak.row)), .pure (.int .i64 n), .ay n8 0, .ay n11 0, .ay n16 0, .ay n15 0, .ay n9 0, .ay n17 0] c (pre++C g)=
        some (.pure (.bool (gX r w (bJ nc r.aa.length r.ah.length w) (lE r (ai.drop nU)) n s l g).2),pre++C (gX r w (bJ nc r.aa.length r.ah.length w) (lE r (ai.drop nU)) n s l g).1)
  |0,_,c,s,l,g,pre,hS,hF,hl=>ZE M P hS hF l g pre
  |n+1,hn,c,s,l,g,pre,hS,hF,hl=>by
    refine aO (aK KC au Tryz.func116 rfl rfl D6 (by simp) (by simp [M.len];have:=M.pos;omega) ?_);have hlen:=M.len;have G:=fun(g:GV) (nm:Nm) (h:nm.1<n0)=>mZ (G:=C g) (nm:=nm) (by rw [hlen];exact h) pre;have G3:=fun g=>(G g n3 M.l3).trans (M.g3 g);have G9:=fun g=>(G g n9 M.l9).trans (M.g9 g);have G15:=fun g=>(G g n15 M.ZD).trans (M.Qe g);have ne3: ¬n3.1=pre.length+n0:=(by have:=M.l3;omega);have ne9: ¬n9.1=pre.length+n0:=(by have:=M.l9;omega);have ne15: ¬n15.1=pre.length+n0:=(by have:=M.ZD;omega);have h0:(((n:Int)+1)==0)=false:=(by simp;omega);have SN:=fun(c:Nat) (F:Fr)=>Ed (c:=c) (H:=F::(pre++C g)) P.hr.sh (s:=s) (w:=w) (by rw [hS.pl];exact P.wl) (n3:=n3) (n9:=n9) (by rw [aj.e9,if_neg (by simp [hlen,ne3])];exact G3 g) (by rw [aj.e9,if_neg (by simp [hlen,ne9])];exact G9 g) (by simp)
    cases hs:gM r w s with
    |true=>
      have et:gX r w (bJ nc r.aa.length r.ah.length w) (lE r (ai.drop nU)) (n+1) s l g=(g,false):=by
        unfold gX;rw [if_pos hs]
      rw [et];rw [hs,aQ]at SN;rw [aQ];simp [hlen,h0,ne3,ne9,ne15,G15,G9,SN,ae]
    |false=>
      have R:=fun st Q=>E7 M P hS hF l (by omega) (n:=n) (fin:=lE r (ai.drop nU)) (by omega) hnc hnc2 hnc0 (fun c s l g pre hS hF hl=>HN hnc hnc2 hnc0 n (by omega) c s l g pre hS hF hl) (by omega) pre rfl g hs st Q;have PG:=fun(c:Nat) (H:aj) (hH:0<H.length)=>HP (c:=c) (H:=H) (r:=r) (s:=s) (w:=w) hH;rw [hs]at SN;simp only [aQ]at SN PG R⊢;simp [hlen,h0,ne3,ne9,ne15,G15,G9,SN,PG];generalize gX r w (bJ nc r.aa.length r.ah.length w) (lE r (ai.drop nU)) (n+1) s l g=T at R⊢;obtain⟨Tg,Tb⟩:=T;refine R _ _ (by simp [bM]) rfl (by simp [look]) (by simp [look]) (by simp [look]) (by simp [look]) (by simp [look]) (by simp [look]) (by simp [look]) fun lb=> ?_
      cases Tb with
      |true=>
        simp [CT,Ct,hlen,ae]
      |false=>
        simp [CT,Ct,hlen,ae]
end
end
section
variable {c:Nat} {H:aj}
def B7 (r:aA)(w:Nat)(ai:List ak)(nU:Nat)(s:aw)(L:Nat)(g:GV):Fr:=
 [(3,aR r),(8, .box [.pure (.slice (ai.map ak.row))]),(9, .box [.pure (.int .i64 w)]),(11, .box [.pure (.int .i64 nU)]),(12,bM r s),(15, .box [.func 114 [] [.ay (L,3) 0, .ay (L,9) 0]]),(16, .box [g]),(17, .box [.func 116 [] [.ay (L,8) 0, .ay (L,11) 0, .ay (L,16) 0, .ay (L,15) 0, .ay (L,9) 0, .ay (L,17) 0]])]
theorem ZH (r:aA)(w:Nat)(ai:List ak)(nU:Nat)(s:aw)(H:aj):ZC r w ai nU (H.length,3) (H.length,8) (H.length,9) (H.length,11) (H.length,15) (H.length,16) (H.length,17) (H.length+1) (fun g=>B7 r w ai nU s H.length g::H) where
 pos:=by omega
 len:=fun g=>by simp
 l3:=by simp
 l8:=by simp
 l9:=by simp
 l11:=by simp
 ZD:=by simp
 l16:=by simp
 l17:=by simp
 g3:=fun g=>by simp [B7]
 g8:=fun g=>by simp [B7]
 g9:=fun g=>by simp [B7]
 Xm:=fun g=>by simp [B7]
 Qe:=fun g=>by simp [B7]
 g16:=fun g=>by simp [B7]
 s16:=fun g g'=>by simp [B7]
 Xn:=fun g=>by simp [B7]
section
variable {r:aA} {w:Nat} {ai:List ak} {nU:Nat} (P:xD r w ai nU)
include P
theorem Ax {nc:Nat}(hnc:IntKind.i64.wrap (r.wide*r.deep)=nc)(hnc2:(nc:Int)=r.wide*r.deep)(hnc0:nc≤1000000){s:aw}(hS:fR r s)(hF:Full s)(Q:GX→bN→Prop): ∀(k n:Nat) (g:GV),n+k=4→
  (((List.range' n k).findSome? fun n=>uC r w (bJ nc r.aa.length r.ah.length w) (lE r (ai.drop nU)) n s [])=none→ ∀g',Q (.exit 0) ⟨[(6,aP),(7,aP)],B7 r w ai nU s H.length g'::H,60⟩)→
  (∀x,((List.range' n k).findSome? fun n=>uC r w (bJ nc r.aa.length r.ah.length w) (lE r (ai.drop nU)) n s [])=some x→ ∀g',Q .ret ⟨[(6, .pure (.slice (x.map ak.row))),(7, .pure (.bool true))],B7 r w ai nU s H.length g'::H,60⟩)→
  gS KC au 79 (lp Tryz.f79 0) [12,16,17,51] [6,7] Q [(12, .ay (H.length,12) 0),(16, .ay (H.length,16) 0),(17, .ay (H.length,17) 0),(51, .pure (.int .i64 n))] (B7 r w ai nU s H.length g::H) 60:=by
 have M:=ZH r w ai nU s H;have ne1: ¬H.length=H.length+1:=(by omega);intro k
 induction k with
 |zero=>
  intro n g hk h1 _;have hn:n=4:=(by omega);subst hn;have h1':=h1 rfl g;apply ax;conv=>arg 4;whnf
  simp;simpa using h1'
 |succ k ih=>
  intro n g hk h1 h2;have hn:(n:Int)<4:=(by omega);have hw:=dh (x:=(n:Int)+1) (by omega) (by omega);have T:=HN M P hnc hnc2 hnc0 n (by omega) 57 s [] g [[]] hS hF (by simp;omega);obtain⟨t1,t2⟩:=Ee (r:=r) (w:=w) (all:=bJ nc r.aa.length r.ah.length w) (fin:=lE r (ai.drop nU)) (fun x hx=>(mj (n:=nc) hnc2.symm P.wl hx).1) n s [] g hS;obtain⟨F',r3,e3⟩:=rJ (f:=116) rfl rfl rfl [] (F:=[]) (H:=B7 r w ai nU s H.length g::H) (.rd (g:= .pure (.agg (aQ r s))) rfl iY (.Tx (g:= .aV) (q:= .slice []) rfl rfl (fun _ _ _ _ _ e=>by cases e) (.rd (g:= .pure (.int .i64 n)) rfl iY (.ptr (nm:=(H.length,8)) (o:=0) (.ptr (nm:=(H.length,11)) (o:=0) (.ptr (nm:=(H.length,16)) (o:=0) (.ptr (nm:=(H.length,15)) (o:=0) (.ptr (nm:=(H.length,9)) (o:=0) (.ptr (nm:=(H.length,17)) (o:=0) .nil)))))))));have hF':=r3.empty;subst hF';have I:=(e3 57).trans T;simp only [aQ,List.nil_append,List.cons_append]at I;rw [List.range'_succ,List.findSome?_cons]at h1 h2;generalize gX r w (bJ nc r.aa.length r.ah.length w) (lE r (ai.drop nU)) n s [] g=X at I t1 t2;obtain⟨Xg,Xb⟩:=X;obtain⟨o,ho⟩: ∃o,uC r w (bJ nc r.aa.length r.ah.length w) (lE r (ai.drop nU)) n s []=o:=⟨_,rfl⟩;rw [ho]at t1 t2 h1 h2
  cases o with
  |some x=>
   have h2':=h2 x rfl Xg;have e1:Xb=true:=t1;have e2:Xg= .pure (.slice (x.map ak.row)):=t2 x rfl;subst e1 e2;simp only [B7,bM]at I h2'⊢;apply ax;conv=>arg 4;whnf
   simp [hn,ne1,I];simpa using h2'
  |none=>
   have e1:Xb=false:=t1;subst e1;have ih':=ih (n+1) Xg (by omega) h1 h2;simp only [B7,bM]at I ih'⊢;apply ax;conv=>arg 4;whnf
   simp [hn,ne1,I,hw];simpa using ih'
end
end
section
variable {c:Nat} {H:aj}
def TC (o:Option (List ak)):PV:= .tuple (match o with|some l=> [.slice (l.map ak.row), .bool true]|none=> [.slice [], .bool false])
theorem Cu {r:aA}{k:Nat}{kind:Int}(h:jq r k kind)(h20:r.ai.length≤20)(hH:0<H.length):
  bK KC (aE KC) 79 [.pure (.agg r.row), .pure (.int .i64 k), .pure (.int .i64 kind)] c H=some (.pure (TC (iE r k kind)),H):=by
 refine aO (aK KC au Tryz.func79 rfl rfl Tm (by simp) hH ?_);have sh:=h.run.sh;have tm: ∀a∈r.ai,0≤a.a7∧a.a7≤1000000:=fun a ha=>(by have:=h.tm a ha;omega);have hlt:=h.lt;have hg:=h.get;have hw0:(r.ai[k]'hlt).aN=(bS r k:Int):=by
  have:=(h.run.ab _ (List.getElem_mem hlt)).aN;unfold bS;rw [hg];exact this
 obtain⟨A,hA⟩: ∃A,dp r k kind=A:=⟨_,rfl⟩;have hAl:A.length≤40:=(by rw [←hA];have:=oy h;have:=h.n40;omega);have hAb: ∀a∈A,AB r a.aN.toNat a:=fun a ha=>(oz h (hA▸ha)).1;have LP:=fun(c:Nat) (H:aj) (hH:0<H.length)=>xF (c:=c) (H:=H) h.run hlt h.pw tm h20 h.hand hH;have AF:=fun(c:Nat) (H:aj) (hH:0<H.length)=>Ay (c:=c) (H:=H) hlt h.run.al (tm _ (List.getElem_mem hlt)) kind A (by omega) (g:= .pure (.slice (A.map ak.row))) rfl hH;rw [hA]at LP;obtain⟨m,hm⟩: ∃m,eG r k kind=m:=⟨_,rfl⟩;rw [hm]at AF;have FP:=fun(c:Nat) (H:aj) (hH:0<H.length)=>sC (c:=c) (H:=H) r h.run.w.pl h.run.w.tl hH;have hF:Full (aF r):=⟨by simpa [aF]using h.run.p0,by simpa [aF]using h.run.p0,by simp [aF];exact h.run.w.pl,by simp [aF];exact h.run.w.pl,by simp [aF];exact h.run.w.tl⟩;have hUb: ∀a∈cA m A,AB r a.aN.toNat a:=fun a ha=>hAb a (jK ha).2;have hUl:(cA m A).length≤A.length:=(List.takeWhile_sublist _).length_le;have RB:=fun(c:Nat) (H:aj) (hH:0<H.length)=>D9 (c:=c) (H:=H) h.run.w (cA m A) (by omega) hUb h.run.snd hF hH;have hsn:=(mA (cA m A).length (aF r) (cA m A) 0 h.run.snd hUb).1;have eU:cA m A=A.take (cA m A).length:=by
  have e:=iX m A;obtain⟨U,hU⟩: ∃U,cA m A=U:=⟨_,rfl⟩;rw [hU]at e⊢;rw [←e];exact List.take_left.symm
 have eB:A.drop (cA m A).length=behind m A:=by
  have e:=iX m A;obtain⟨V,hV⟩: ∃V,behind m A=V:=⟨_,rfl⟩;obtain⟨U,hU⟩: ∃U,cA m A=U:=⟨_,rfl⟩;rw [hU,hV]at e;rw [hU,hV,←e];exact List.drop_left
 have hlen': ∀x:ak,x.row.length=9:=fun _=>rfl;have hO:iE r k kind=if (bw r (cA m A).length (aF r) (cA m A) 0).2.2.2≠0 then none else (List.range' 0 4).findSome? fun n=>uC r (bS r k) (bJ (r.wide*r.deep).toNat r.aa.length r.ah.length (bS r k)) (lE r (A.drop (cA m A).length)) n (bw r (cA m A).length (aF r) (cA m A) 0).2.1 []:=by
  unfold iE Az yU;rw [hm,hA,List.range_eq_range',eB];rfl
 rw [hO];have P:xD r (bS r k) A (cA m A).length:=⟨h.run.toQf,h.wl,hAb,by omega,hUl⟩;obtain⟨a1,a2,a3⟩:=h.qm;have rowU:List.take (cA m A).length (A.map ak.row)=(cA m A).map ak.row:=(by rw [←List.map_take,←eU]);obtain⟨q,hq⟩: ∃q,bw r (cA m A).length (aF r) (cA m A) 0=q:=⟨_,rfl⟩;rw [hq]at RB hsn⊢;have hF2:=ry h.run.snd hsn hF;have ML:=fun Q h1 h2=>Ax (H:=H) P (nc:=(r.wide*r.deep).toNat) (by rw [a1];exact dh (by omega) (by omega)) a1 (by omega) hsn hF2 Q 4 0 .aV rfl h1 h2;obtain⟨u,hu⟩: ∃u,(cA m A).length=u:=⟨_,rfl⟩;rw [hu]at AF rowU hUl ML P⊢;simp only [aQ]at FP RB;simp only [eE]at LP AF FP⊢;have unl: ¬(u:Int)<0:=(by omega);by_cases he:q.2.2.2=0
 ·rw [if_neg (by simpa using he)];rw [he]at RB;simp [LP,AF,FP,RB,hlt,ak.row,hw0,rowU,hUl,unl,hlen',-List.map_take];simp only [B7,bM,aR]at ML;refine ML _ (fun ho g'=> ?_) (fun x ho g'=> ?_)
  ·rw [ho];simp [ae,TC]
  ·rw [ho];simp [ae,TC]
 ·have he':(q.2.2.2==0)=false:=(by simpa using he);rw [if_pos he];simp [LP,AF,FP,RB,hlt,ak.row,hw0,rowU,hUl,unl,hlen',he,he',ae,TC,-List.map_take]
end
section
variable {c:Nat} {H:aj}
theorem Cv {r:aA}{k:Nat}{kind:Int}(h:jq r k kind)(h20:r.ai.length≤20)(hH:0<H.length):
  aL KC (aE KC) 79 [.pure (.agg r.row), .pure (.int .i64 k), .pure (.int .i64 kind)] c H=some (.pure (TC (iE r k kind)),H):=
 (lf (f:=79) (c:=c) (H:=H) rfl rfl rfl [.agg r.row, .int .i64 k, .int .i64 kind]).trans (Cu (c:=c) h h20 hH)
theorem oA {r:aA}(sh:iG r)(act kind:Int)(hH:0<H.length):
  aL KC (aE KC) 69 [.pure (.agg r.row), .pure (.int .i64 act), .pure (.int .i64 kind)] c H=some (.pure (.int .i64 (AA r act kind)),H):=eF rfl rfl rfl rfl rfl hH fun H hH=>vw sh act kind hH
theorem HQ {r:aA}(sh:iG r)(h20:cB r=0→r.ai.length≤20)(act kind:Int)(hH:0<H.length):
  bK KC (aE KC) 34 [.pure (.agg r.row), .pure (.int .i64 act), .pure (.int .i64 kind)] c H=some (.pure (AD r act kind),H):=by
 refine aO (aK KC au Tryz.func34 rfl rfl SQ (by simp) hH ?_);have K:=fun(c:Nat) (H:aj) (hH:0<H.length)=>oA (c:=c) (H:=H) sh act kind hH;unfold AD;by_cases he:AA r act kind=0
 ·obtain⟨k,rfl,hL⟩:=vy sh he;have MP:=fun(c:Nat) (H:aj) (hH:0<H.length)=>Cv (c:=c) (H:=H) hL (h20 hL.run.ck) hH;rw [if_neg (by simpa using he)];rw [he]at K;show mh _ _
  rw [show iE r (k:Int).toNat kind=iE r k kind from rfl]
  cases ho:iE r k kind with
  |some l=>
   rw [ho]at MP;simp only [TC]at MP;rw [eE]at K MP⊢;simp [K,MP,ae]
  |none=>
   rw [ho]at MP;simp only [TC]at MP;rw [eE]at K MP⊢;simp [K,MP,ae]
 ·have he':(AA r act kind==0)=false:=(by simpa using he);rw [if_pos he];rw [eE]at K⊢;simp [K,he,he',ae]
end
section
variable {c:Nat} {H:aj}
end
section
variable {c:Nat} {H:aj}
noncomputable def xG:aA→Int→ak→Int:=nL fun r aN a=>if a.aN≠aN then 7 else if a.a7≠0∨a.bZ≠0∨a.gz≠0 then 3 else dV (cU r.wide r.deep) r.aa.length r.ah.length a
theorem xH (r:aA)(aN:Int)(a:ak):xG r aN a=if a.aN≠aN then 7 else if a.a7≠0∨a.bZ≠0∨a.gz≠0 then 3 else dV (cU r.wide r.deep) r.aa.length r.ah.length a:=by rw [xG,cN]
noncomputable def vz (r:aA)(aN:Int):List ak→Int
 | []=>0
 |a::l=>if xG r aN a≠0 then xG r aN a else vz r aN l
noncomputable def TD (r:aA)(act kind:Int)(mend:List ak):Int:=if AA r act kind≠0 then AA r act kind else if 3<mend.length then 8 else vz r (r.ai.getD act.toNat bH).aN mend
section
variable {r:aA} {k:Nat} {kind:Int} (hk:k<r.ai.length) {mend:List ak} (hm:mend.length≤1000000) (sh:iG r)
include hk hm sh
theorem TE (Q:GX→bN→Prop): ∀j i:Nat,i+j=mend.length→
  (vz r (r.ai[k]'hk).aN (mend.drop i)=0→Q (.exit 0) ⟨[(1, .pure (.int .i64 k)),(2, .pure (.int .i64 kind)),(3, .pure (.slice (mend.map ak.row))),(4, .ay (H.length,4) 0),(8, .ay (H.length,8) 0),(9,aP)],[(4,aR r),(8,jz)]::H,129⟩)→
  (vz r (r.ai[k]'hk).aN (mend.drop i)≠0→Q .ret ⟨[(1, .pure (.int .i64 k)),(2, .pure (.int .i64 kind)),(3, .pure (.slice (mend.map ak.row))),(4, .ay (H.length,4) 0),(8, .ay (H.length,8) 0),(9, .pure (.int .i64 (vz r (r.ai[k]'hk).aN (mend.drop i))))],[(4,aR r),(8,jz)]::H,129⟩)→
  gS KC au 29 (lp Tryz.f29 0) [1,2,3,4,8,34,35,36] [1,2,3,4,8,9] Q
   [(1, .pure (.int .i64 k)),(2, .pure (.int .i64 kind)),(3, .pure (.slice (mend.map ak.row))),(4, .ay (H.length,4) 0),(8, .ay (H.length,8) 0),(34, .pure (.slice (mend.map ak.row))),(35, .pure (.int .i64 mend.length)),(36, .pure (.int .i64 i))] ([(4,aR r),(8,jz)]::H) 129:=by
 have ne1: ¬H.length=H.length+1:=(by omega);intro j
 induction j with
 |zero=>
  intro i hi h1 _;have e:mend.drop i=[]:=List.drop_of_length_le (by omega);rw [e]at h1;have hnl: ¬i<mend.length:=(by omega);apply ax;conv=>arg 4;whnf
  simp [hnl];simpa using h1 rfl
 |succ j ih=>
  intro i hi h1 h2;have hil:i<mend.length:=(by omega);have hw:=dh (x:=(i:Int)+1) (by omega) (by omega);have ed:mend.drop i=mend[i]::mend.drop (i+1):=List.drop_eq_getElem_cons hil;obtain⟨a,ha⟩: ∃a,mend[i]=a:=⟨_,rfl⟩;rw [ha]at ed;rw [ed]at h1 h2;simp only [vz]at h1 h2;have FD: ∀(c:Nat) (H:aj),0<H.length→aL KC (aE KC) 73 [.pure (.agg r.row), .pure (.agg a.row)] c H=some (.pure (.int .i64 (dV (cU r.wide r.deep) r.aa.length r.ah.length a)),H):=fun c H hH=>ow (c:=c) (H:=H) (r:=r) (q1:=a.a7) (q2:=a.aN) (kind:=a.kind) (hand:=a.hand) (bd:=a.bd) (cell:=a.cell) (other:=a.other) (q3:=a.bZ) (q4:=a.gz) sh.p sh.t hH;rw [eE,bF]at FD;simp only [aR,jz]at h1 h2 ih⊢;have ih':=ih (i+1) (by omega);obtain⟨aN,hwho⟩: ∃aN,(r.ai[k]'hk).aN=aN:=⟨_,rfl⟩;rw [hwho]at h1 h2 ih';have hd:=xH r aN a;have err3:(a.a7≠0∨a.bZ≠0∨a.gz≠0)→a.aN=aN→xG r aN a=3:=fun h w=>(by rw [hd,if_neg (by simpa using w),if_pos h]);by_cases w:a.aN=aN
  ·by_cases z1:a.a7=0
   ·by_cases z2:a.bZ=0
    ·by_cases z3:a.gz=0
     ·rw [if_neg (by simpa using w),if_neg (by simp [z1,z2,z3])]at hd;rw [hd]at h1 h2;generalize dV (cU r.wide r.deep) r.aa.length r.ah.length a=e at FD h1 h2;by_cases fz:e=0
      ·rw [fz]at FD;rw [if_neg (by simpa using fz)]at h1 h2;have ih2:=ih' h1 h2;rw [z1,z2,z3,w]at FD;apply ax;conv=>arg 4;whnf
       simp [hil,ha,hk,ak.row,hwho,w,ne1,z1,z2,z3,FD,hw];simpa using ih2
      ·have fz':(e==0)=false:=(by simpa using fz);rw [if_pos fz]at h2;have h2':=h2 fz;rw [z1,z2,z3,w]at FD;apply ax;conv=>arg 4;whnf
       simp [hil,ha,hk,ak.row,hwho,w,ne1,z1,z2,z3,FD,fz,fz',hw,aD];simpa using h2'
     ·have e3:=err3 (Or.inr (Or.inr z3)) w;have z3':(a.gz==0)=false:=(by simpa using z3);rw [e3]at h2;have h2':=h2 (by simp);simp at h2';apply ax;conv=>arg 4;whnf
      simp [hil,ha,hk,ak.row,hwho,w,ne1,z1,z2,z3,z3',aD];exact h2'
    ·have e3:=err3 (Or.inr (Or.inl z2)) w;have z2':(a.bZ==0)=false:=(by simpa using z2);rw [e3]at h2;have h2':=h2 (by simp);simp at h2';apply ax;conv=>arg 4;whnf
     simp [hil,ha,hk,ak.row,hwho,w,ne1,z1,z2,z2',aD];exact h2'
   ·have e3:=err3 (Or.inl z1) w;have z1':(a.a7==0)=false:=(by simpa using z1);rw [e3]at h2;have h2':=h2 (by simp);simp at h2';apply ax;conv=>arg 4;whnf
    simp [hil,ha,hk,ak.row,hwho,w,ne1,z1,z1',aD];exact h2'
  ·rw [if_pos w]at hd;have w':(a.aN==aN)=false:=(by simpa using w);rw [hd]at h2;have h2':=h2 (by simp);simp at h2';apply ax;conv=>arg 4;whnf
   simp [hil,ha,hk,ak.row,hwho,w,w',ne1,aD];exact h2'
end
end
section
variable {c:Nat} {H:aj}
def ZI:Nat:=aq 89 7
structure Qg (r:aA)(fr:Fr):Prop where
 f4:fr.get 4=some (aR r)
 f8:fr.get 8=some jz
theorem Qg.move {r:aA}{fr fr':Fr}{g:GV}(h:Qg r fr){ks:List Nat}(hK:TF H ks g)(hk: ∀q∈ks,q≠4∧q≠8){key:Nat}(h4:key≠4)(h8:key≠8)(f': ∀k,k≠key→(∀top,g≠ .a8 (H.length,k) 9 top 0 top)→fr'.get k=fr.get k):Qg r fr':=
 ⟨(f' 4 h4.symm fun top e=>(hk 4 (hK 4 top e)).1 rfl).trans h.f4,(f' 8 h8.symm fun top e=>(hk 8 (hK 8 top e)).2 rfl).trans h.f8⟩
theorem AE {g g':GV}{ks:List Nat}{key:Nat}(hK:TF H ks g)(k': ∀q top,g'= .a8 (H.length,q) 9 top 0 top→q=key∨ ∃top,g= .a8 (H.length,q) 9 top 0 top)(hk:key∈ks):TF H ks g':=fun q top e=>by
 rcases k' q top e with e|⟨t,e⟩
 ·rw [e];exact hk
 ·exact hK q t e
theorem TG {r:aA} {ai mend A:List ak} {m:Int} {n:Nat} (hm:mend.length≤400000) (hA:A.length≤400000) (hmm: -1000000≤m∧m≤1000000000) (Q:GX→bN→Prop)
  (h1: ∀g fr,As H fr g (A++bI m mend)→TF H [ZI,105,124] g→Qg r fr→(g= .aV→fr.get 124=none)→Q (.exit 3) ⟨[(3, .pure (.slice (mend.map ak.row))),(4, .ay (H.length,4) 0),(8, .ay (H.length,8) 0),(14, .pure (.slice (ai.map ak.row))),(16, .pure (.int .i64 n)),(17,g)],fr::H,129⟩): ∀(k i:Nat) (g:GV) (fr:Fr),i+k=mend.length→As H fr g (A++bI m (mend.take i))→TF H [ZI,105,124] g→Qg r fr→(g= .aV→fr.get 105=none∧fr.get 124=none)→
  gS KC au 29 (lp Tryz.f29 1) [3,4,8,14,15,16,17,90,91,92] [3,4,8,14,16,17] Q [(3, .pure (.slice (mend.map ak.row))),(4, .ay (H.length,4) 0),(8, .ay (H.length,8) 0),(14, .pure (.slice (ai.map ak.row))),(15, .pure (.int .i64 m)),(16, .pure (.int .i64 n)),(17,g),(90, .pure (.slice (mend.map ak.row))),(91, .pure (.int .i64 mend.length)),(92, .pure (.int .i64 i))] (fr::H) 129:=by
 intro k
 induction k with
 |zero=>
  intro i g fr hk L hK mf fn;have e:i=mend.length:=(by omega);rw [List.take_of_length_le (by omega)]at L;have h1':=h1 g fr L hK mf fun e=>(fn e).2;have cl:=L.cl;subst e;apply ax;conv=>arg 4;whnf
  simp [cl];simpa using h1'
 |succ k ih=>
  intro i g fr hk L hK mf fn;have hl:i<mend.length:=(by omega);have hw:=dh (x:=(i:Int)+1) (by omega) (by omega);have hw1:=dh (x:=m+1) (by omega) (by omega);have hw2:=dh (x:=m+1+i) (by omega) (by omega);have et:bI m (mend.take (i+1))=bI m (mend.take i)++[{(mend[i]'hl)with a7:=m+1+i}]:=by
   rw [List.take_add_one,List.getElem?_eq_getElem hl];have:=lK mend[i] (mend.take i) m;rw [List.length_take,Nat.min_eq_left (by omega)]at this;exact this
  have cl:=L.cl;apply ax;conv=>arg 4;whnf
  simp [hl,ak.row,hw,hw1,hw2,-vg];have hml:(bI m (mend.take i)).length=i:=(by rw [gY,List.length_take];omega);refine Ef (key:=105) {(mend[i]'hl)with a7:=m+1+i} L (fun e=>(fn e).1) (by rw [List.length_append,hml];omega) _ fun g' fr' L' k' f'=> ?_;rw [List.append_assoc,←et]at L';have hK':=AE hK k' (by simp);have mf':=mf.move hK (by decide) (by decide) (by decide) f';have ih':=ih (i+1) g' fr' (by omega) L' hK' mf' (fun e=>by
   rcases L' with ⟨_,h0⟩|⟨_,key,v,h0,_⟩
   ·have hz:(A++bI m (mend.take (i+1))).length=0:=(by rw [h0];rfl);rw [List.length_append,gY,List.length_take]at hz;omega
   ·rw [h0]at e;cases e)
  have cl':=L'.cl;simp [cl'];simpa using ih'
theorem TH {r:aA} {mend A B:List ak} (hm:mend.length≤400000) (hA:A.length≤500000) (hn:B.length≤400000) (tm: ∀a∈B,0≤a.a7∧a.a7≤1000000000) (Q:GX→bN→Prop)
  (h1: ∀g fr,As H fr g (A++B.map fun a=>{a with a7:=a.a7+mend.length})→Qg r fr→Q (.exit 5) ⟨[(4, .ay (H.length,4) 0),(8, .ay (H.length,8) 0),(17,g)],fr::H,129⟩): ∀(k i:Nat) (g:GV) (fr:Fr),i+k=B.length→As H fr g (A++(B.take i).map fun a=>{a with a7:=a.a7+mend.length})→TF H [ZI,105,124] g→Qg r fr→(g= .aV→fr.get 124=none)→
  gS KC au 29 (lp Tryz.f29 2) [3,4,8,17,109,110,111] [4,8,17] Q [(3, .pure (.slice (mend.map ak.row))),(4, .ay (H.length,4) 0),(8, .ay (H.length,8) 0),(17,g),(109, .pure (.slice (B.map ak.row))),(110, .pure (.int .i64 B.length)),(111, .pure (.int .i64 i))] (fr::H) 129:=by
 intro k
 induction k with
 |zero=>
  intro i g fr hk L hK mf fn;have e:i=B.length:=(by omega);rw [List.take_of_length_le (by omega)]at L;have h1':=h1 g fr L mf;have cl:=L.cl;subst e;apply ax;conv=>arg 4;whnf
  simp [cl];simpa using h1'
 |succ k ih=>
  intro i g fr hk L hK mf fn;have hl:i<B.length:=(by omega);have tmi:=tm _ (List.getElem_mem hl);have hw:=dh (x:=(i:Int)+1) (by omega) (by omega);have hw1:=dh (x:=(B[i]'hl).a7+mend.length) (by omega) (by omega);have et:B.take (i+1)=B.take i++[B[i]]:=by
   rw [List.take_add_one,List.getElem?_eq_getElem hl];rfl
  have cl:=L.cl;apply ax;conv=>arg 4;whnf
  simp [hl,ak.row,hw,hw1,-vg];refine Ef (key:=124) {(B[i]'hl)with a7:=(B[i]'hl).a7+mend.length} L fn (by rw [List.length_append,List.length_map,List.length_take];omega) _ fun g' fr' L' k' f'=> ?_;have L2:As H fr' g' (A++(B.take (i+1)).map fun a=>{a with a7:=a.a7+mend.length}):=by
   rw [et,List.map_append,←List.append_assoc];exact L'
  have hK':=AE hK k' (by simp);have mf':=mf.move hK (by decide) (by decide) (by decide) f';have ih':=ih (i+1) g' fr' (by omega) L2 hK' mf' (fun e=>by
   rcases L' with ⟨_,h0⟩|⟨_,key,v,h0,_⟩
   ·simp at h0
   ·rw [h0]at e;cases e)
  have cl':=L'.cl;simp [cl'];simpa using ih'
end
section
variable {c:Nat} {H:aj}
def MC:List PV:=[.int .i64 0, .int .i64 0, .slice [], .slice [], .slice [], .slice [], .slice []]
noncomputable def E8 (r:aA)(act kind:Int)(mend:List ak):PV:= .tuple (if TD r act kind mend≠0 then [.agg MC, .int .i64 (TD r act kind mend)]else [.agg ({r with ai:=fg (eG r act.toNat kind) (dp r act.toNat kind) mend}:aA).row, .int .i64 0])
theorem vA {r:aA}(sh:iG r)(h20:cB r=0→r.ai.length≤20)(act kind:Int){mend:List ak}(hm:mend.length≤1000000)(hH:0<H.length):
  bK KC (aE KC) 29 [.pure (.agg r.row), .pure (.int .i64 act), .pure (.int .i64 kind), .pure (.slice (mend.map ak.row))] c H=some (.pure (E8 r act kind mend),H):=by
 refine aO (aK KC au Tryz.func29 rfl rfl SP (by simp) hH ?_);have K:=fun(c:Nat) (H:aj) (hH:0<H.length)=>oA (c:=c) (H:=H) sh act kind hH;unfold E8;have hd:TD r act kind mend=if AA r act kind≠0 then AA r act kind else if 3<mend.length then 8 else vz r (r.ai.getD act.toNat bH).aN mend:=rfl;by_cases he:AA r act kind=0
 ·obtain⟨k,rfl,hL⟩:=vy sh he;rw [he]at K;rw [if_neg (by simpa using he)]at hd;have hlt:=hL.lt;have hg:=hL.get;by_cases h3:3<mend.length
  ·have h3':(3:Int)<mend.length:=(by omega);rw [if_pos h3]at hd;rw [hd,if_pos (by simp)];rw [eE]at K⊢;simp [K,h3,h3',ae,aD,MC]
  ·have h3': ¬(3:Int)<mend.length:=(by omega);rw [if_neg h3]at hd;have hgk:r.ai.getD (k:Int).toNat bH=r.ai[k]:=hg;rw [hgk]at hd;rw [hd];have C:=fun Q h1 h2=>TE (H:=H) (k:=k) (kind:=kind) hlt hm sh Q mend.length 0 (by omega) h1 h2;simp only [List.drop_zero]at C;by_cases hz:vz r (r.ai[k]'hlt).aN mend=0
   ·rw [if_neg (by simpa using hz)];have tm: ∀a∈r.ai,0≤a.a7∧a.a7≤1000000:=fun a ha=>(by have:=hL.tm a ha;omega);obtain⟨A,hA⟩: ∃A,dp r k kind=A:=⟨_,rfl⟩;obtain⟨m,hm'⟩: ∃m,eG r k kind=m:=⟨_,rfl⟩;have hAl:A.length≤40:=(by rw [←hA];have:=oy hL;have:=hL.n40;omega);have hmr:0≤m∧m≤1001:=hm'▸vB hL;have LP:=fun(c:Nat) (H:aj) (hH:0<H.length)=>xF (c:=c) (H:=H) hL.run hlt hL.pw tm (h20 hL.run.ck) hL.hand hH;have AF:=fun(c:Nat) (H:aj) (hH:0<H.length)=>Ay (c:=c) (H:=H) hlt hL.run.al (tm _ (List.getElem_mem hlt)) kind A (by omega) (g:= .pure (.slice (A.map ak.row))) rfl hH;rw [hA]at LP;rw [hm']at AF;have hUl:(cA m A).length≤A.length:=(List.takeWhile_sublist _).length_le;have hLA:dp r (k:Int).toNat kind=A:=hA;have hMA:eG r (k:Int).toNat kind=m:=hm';rw [hLA,hMA];have eU:cA m A=A.take (cA m A).length:=by
     have e:=iX m A;obtain⟨U,hU⟩: ∃U,cA m A=U:=⟨_,rfl⟩;rw [hU]at e⊢;rw [←e];exact List.take_left.symm
    have eB:A.drop (cA m A).length=behind m A:=by
     have e:=iX m A;obtain⟨V,hV⟩: ∃V,behind m A=V:=⟨_,rfl⟩;obtain⟨U,hU⟩: ∃U,cA m A=U:=⟨_,rfl⟩;rw [hU,hV]at e;rw [hU,hV,←e];exact List.drop_left
    have hBl:(behind m A).length+(cA m A).length=A.length:=by
     have e:=congrArg List.length (iX m A);rw [List.length_append]at e;omega
    have hml:mend.length≤3:=(by omega);have rowU:List.take (cA m A).length (A.map ak.row)=(cA m A).map ak.row:=(by rw [←List.map_take,←eU]);have rowB:List.drop (cA m A).length (A.map ak.row)=(behind m A).map ak.row:=(by rw [←List.map_drop,eB]);have tmB: ∀a∈behind m A,0≤a.a7∧a.a7≤1000000000:=fun a ha=>by
     have ha':a∈A:=(List.dropWhile_sublist _).subset ha;rw [←hA]at ha';have:=(oz hL ha').2;omega
    obtain⟨gc,F1,L1,k1,f1,CE⟩:=Au (c:=89) (H:=H) (cA m A) (by omega) (F:=[(4,aR r),(8,jz)]) (by simp [aq]);have MI:=fun Q h1=>TG (r:=r) (H:=H) (ai:=A) (mend:=mend) (A:=cA m A) (m:=m) (n:=(cA m A).length) (by omega) (by omega) (by omega) Q h1 mend.length 0 gc F1 (by omega) (by simpa [bI]using L1) (fun q top e=>by rw [k1 q top e];simp [ZI]) ⟨by rw [f1 4 (by decide)];rfl,by rw [f1 8 (by decide)];rfl⟩ (fun _=>⟨by rw [f1 105 (by decide)];rfl,by rw [f1 124 (by decide)];rfl⟩);have ME:=fun(g:GV) (fr:Fr) (L:As H fr g (cA m A++bI m mend)) (hK:TF H [ZI,105,124] g) (mf:Qg r fr) (fn:g= .aV→fr.get 124=none) Q h1=>TH (r:=r) (H:=H) (mend:=mend) (A:=cA m A++bI m mend) (B:=behind m A) (by omega) (by rw [List.length_append,gY];omega) (by omega) tmB Q h1 (behind m A).length 0 g fr (by omega) (by rw [List.take_zero,List.map_nil,List.append_nil];exact L) hK mf fn;obtain⟨u,hu⟩: ∃u,(cA m A).length=u:=⟨_,rfl⟩;rw [hu]at AF rowU rowB hUl MI eB;have tl:List.take A.length (A.map ak.row)=A.map ak.row:=List.take_of_length_le (by simp);have hlen': ∀x:ak,x.row.length=9:=fun _=>rfl;have unl: ¬(u:Int)<0:=(by omega);have hbl2:A.length-u=(behind m A).length:=(by omega);simp only [eE]at K LP AF⊢;simp only [aR,jz]at C CE;have h3i: ¬3<mend.length:=h3;simp [K,h3,h3'];refine C _ (fun _=> ?_) (fun h=>absurd hz h);simp [LP,AF,CE,rowU,rowB,hUl,unl,hlen',tl,hbl2,-List.map_take,-List.map_drop];refine MI _ fun g2 F2 L2 hK2 mf2 fn2=> ?_;have ME2:=ME g2 F2 L2 hK2 mf2 fn2;simp [L2.cl,hUl,unl,rowB,hlen',hbl2,tl,-List.map_take,-List.map_drop];refine ME2 _ fun g3 F3 L3 mf3=> ?_;have hL':fg m A mend=(cA m A++bI m mend)++(behind m A).map fun a=>{a with a7:=a.a7+mend.length}:=rfl;rw [←hL']at L3;obtain⟨F4,r4,e4⟩:=rJ (f:=65) rfl rfl rfl [] (F:=F3) (H:=H) (.rd (g:= .pure (.agg r.row)) rfl iY (.Tx L3.rd rfl L3.top .nil));have OW:=MD (c:=128) (H:=F4::H) r sh (fg m A mend) (by rw [hL',List.length_append,List.length_append,List.length_map,gY];omega) (by simp);have OW2:=(e4 128).trans ((lf (f:=65) (c:=128) (H:=F4::H) rfl rfl rfl [.agg r.row, .slice ((fg m A mend).map ak.row)]).symm.trans OW);simp only [List.nil_append,eE]at OW2;have q4:=mf3.f4;have q8:=r4.box mf3.f8;simp [q4,OW2,q8,aD,ae,aR,jz,Fr.bQ]
   ·rw [if_pos hz];rw [eE]at K⊢;simp only [aR,jz]at C;simp [K,h3,h3'];refine C _ (fun h=>absurd h hz) (fun _=> ?_);simp [ae,MC]
 ·have he':(AA r act kind==0)=false:=(by simpa using he);rw [if_pos he]at hd;rw [hd,if_pos he];rw [eE]at K⊢;simp [K,he,he',ae,aD,MC]
end
section
variable {c:Nat} {H:aj}
end
section
variable {c:Nat} {H:aj}
end
section
variable {c:Nat} {H:aj}
end
section
variable {c:Nat} {H:aj}
end
section
variable {c:Nat} {H:aj}
end
section
variable {c:Nat} {H:aj}
end
section
theorem gm {α β:Type}{f:α→β}{l:List α}{i:Nat}{d:α}{d':β}(h:i<l.length):(l.map f).getD i d'=f (l.getD i d):=by
 rw [aM (by simpa using h),aM h,List.getElem_map]
section
variable {r:aA} {n:Int} {s:aw} {w:Nat} {a:ak}
def tt (n:Int)(x:Int×Int):Int×Int:=if x.1=2 then (2,n-x.2)else x
end
end
section
variable {c:Nat} {H:aj}
end
section
variable {c:Nat} {H:aj}
end
section
variable {c:Nat} {H:aj}
end
section
variable {H:aj}
end
section
variable {c:Nat} {H:aj}
end
section
variable {c:Nat} {H:aj}
theorem HR (l:List Int)(x:Int)(hn:l.length≤1000000)(Q:GX→bN→Prop)(hH:0<H.length): ∀k i:Nat,i+k=l.length→
  ((l.drop i).contains x=false→Q (.exit 0) ⟨[(4,aP)],H,18⟩)→((l.drop i).contains x=true→Q .ret ⟨[(4, .pure (.bool true))],H,18⟩)→
  gS KC au 44 (lp Tryz.f44 0) [0,1,5] [4] Q [(0, .pure (.slice (l.map aG))),(1, .pure (.int .i64 x)),(5, .pure (.int .i64 i))] H 18:=by
 intro k
 induction k with
 |zero=>
  intro i hi h1 h2;have e:l.drop i=[]:=List.drop_of_length_le (by omega);rw [e]at h1;apply ax;conv=>arg 4;whnf
  have: ¬i<l.length:=(by omega);simp [this,hH];exact h1 rfl
 |succ k ih=>
  intro i hi h1 h2;have hia:i<l.length:=(by omega);have hw:=dh (x:=(i:Int)+1) (by omega) (by omega);have ed:l.drop i=l[i]::l.drop (i+1):=List.drop_eq_getElem_cons hia;rw [ed,List.contains_cons]at h1 h2;apply ax;conv=>arg 4;whnf
  by_cases he:l[i]=x
  ·have e2:(x==l[i])=true:=(by simp [he]);rw [e2,Bool.true_or]at h2;simp [hia,hH,aG,he];exact h2 rfl
  ·have e1:(l[i]==x)=false:=(by simpa using he);have e2:(x==l[i])=false:=(by simpa using fun e=>he e.symm);rw [e2,Bool.false_or]at h1 h2;have ih':=ih (i+1) (by omega) h1 h2;simp [hia,hH,aG,e1,hw];simpa [aG]using ih'
theorem Cw (l:List Int)(x:Int)(hn:l.length≤1000000)(hH:0<H.length):aL KC (aE KC) 44 [.pure (.slice (l.map aG)), .pure (.int .i64 x)] c H=some (.pure (.bool (l.contains x)),H):=by
 refine eF rfl rfl rfl rfl rfl hH fun H hH=> ?_;refine aO (aK KC au Tryz.func44 rfl rfl SW (by simp) hH ?_);have L:=fun Q=>HR (H:=[]::H) l x hn Q (by simp) l.length 0 (by omega);simp only [List.drop_zero]at L;simp;refine L _ (fun h=> ?_) (fun h=> ?_)
 ·simp only [List.contains_eq_mem]at h;simp [ae];simpa using h
 ·simp only [List.contains_eq_mem]at h;simp [ae];simpa using h
def qn (C:List Int)(v:Nat):dH:= .arr 1 (C.map aG) v false
def jL (r:aA)(s:aw)(C:List Int)(v:Nat):Fr:=[(2,aR r),(3,gg s),(39,qn C v)]
def CF (nt:Nat)(C:List Int)(v:Nat)(f:Nat→Nat):Prop:=C.length=nt∧v≤nt∧ ∀t,t<nt→C.getD t 0=(f t:Int)
theorem xI {r:aA} {s:aw} (hS:fR r s) (hh1:s.ao.length≤1000000) {nt:Nat} (hnt:r.aa.length=nt) (hn:nt≤1000000) (i:Nat) (hi:i<s.ao.length) (hd:Int) (hh:hd=0∨hd=1) (C:List Int) (v:Nat) (f:Nat→Nat) (hC:CF nt C v f) (hf: ∀t,f t≤1000000000) (Q:GX→bN→Prop)
  (ih: ∀C' v',CF nt C' v' (fun t=>f t+if aU s.ao i hd=t then 1 else 0)→
   gS KC au 39 (lp Tryz.f39 1) [2,3,5,6,7] [2,3,4,5,6] Q [(2, .ay (H.length,2) 0),(3, .ay (H.length,3) 0),(5, .a8 (H.length,39) 1 nt 0 nt),(6, .pure (.int .i64 i)),(7, .pure (.int .i64 (hd+1)))] ([]::jL r s C' v'::H) 145):
  gS KC au 39 (lp Tryz.f39 1) [2,3,5,6,7] [2,3,4,5,6] Q [(2, .ay (H.length,2) 0),(3, .ay (H.length,3) 0),(5, .a8 (H.length,39) 1 nt 0 nt),(6, .pure (.int .i64 i)),(7, .pure (.int .i64 hd))] ([]::jL r s C v::H) 145:=by
 obtain⟨c1,c2,c3⟩:=hC;have hiw:i<r.ah.length:=(by rw [←hS.hl];exact hi);have R:=fW hS.toFN (w:=i) (hand:=hd) hiw;have et:=hS.tl;obtain⟨x,hx⟩: ∃x,aU s.ao i hd=x:=⟨_,rfl⟩;rw [hx]at R ih;have hx':(if hd=0 then s.ao[i].l else s.ao[i].r)=x:=(by rw [←hx];unfold aU;rw [aM hi]);have hw1:=dh (x:=hd+1) (by omega) (by omega);have n1: ¬x< -1:=(by omega);have n2: ¬(nt:Int)≤x:=(by omega);have ne: ¬H.length=H.length+1:=(by omega);by_cases h0:0≤x
 ·obtain⟨t,rfl⟩:=Int.eq_ofNat_of_zero_le h0;have ht:t<nt:=(by omega);have htC:t<C.length:=(by omega);have hv:=c3 t ht;rw [aM htC]at hv;have hft:=hf t;have hw2:=dh (x:=(f t:Int)+1) (by omega) (by omega);have I:=ih (C.set t ((f t:Int)+1)) nt ⟨by simpa using c1,Nat.le_refl _,fun u hu=>by
   rw [tD (by omega)];by_cases e:t=u
   ·subst e;simp
   ·have: ¬(t:Int)=u:=(by omega);simp [e,this];exact c3 u hu⟩
  apply ax;conv=>arg 4;whnf
  rcases hh with rfl|rfl
  ·rw [if_pos rfl]at hx';simp [jL,qn,aR,gg,aG]at I;simp [jL,qn,aR,gg,hi,aH.row,hx',n1,n2,h0,ht,htC,c1,c2,hv,hw2,ne,aG,aD];exact I
  ·rw [if_neg (by decide)]at hx';have w11:IntKind.i64.wrap (1+1)=2:=rfl;simp [jL,qn,aR,gg,aG]at I;simp [jL,qn,aR,gg,hi,aH.row,hx',n1,n2,h0,ht,htC,c1,c2,hv,hw2,w11,ne,aG,aD];exact I
 ·have I:=ih C v ⟨c1,c2,fun t ht=>by
   have: ¬x=t:=(by omega);simp [this];exact c3 t ht⟩
  apply ax;conv=>arg 4;whnf
  rcases hh with rfl|rfl
  ·rw [if_pos rfl]at hx';simp [jL,qn,aR,gg,aG]at I;simp [jL,qn,aR,gg,hi,aH.row,hx',n1,n2,h0,ne,aG];exact I
  ·rw [if_neg (by decide)]at hx';have w11:IntKind.i64.wrap (1+1)=2:=rfl;simp [jL,qn,aR,gg,aG]at I;simp [jL,qn,aR,gg,hi,aH.row,hx',n1,n2,h0,w11,ne,aG];exact I
end
section
variable {c:Nat} {H:aj}
theorem E9 {l:List aH}{i:Nat}(h:i<l.length)(t:Int):fM (l.take (i+1)) t=fM (l.take i) t+((if (l.getD i bA).l=t then 1 else 0)+(if (l.getD i bA).r=t then 1 else 0)):=by
 induction l generalizing i with
 |nil=>simp at h
 |cons x l ih=>
  cases i with
  |zero=>simp [fM,uo]
  |succ i=>
   have:=ih (i:=i) (by simpa using h);simp only [List.take_succ_cons,fM,List.getD_cons_succ];omega
theorem MG (l:List aH)(t:Int):fM l t≤2*l.length:=by
 induction l with
 |nil=>simp [fM]
 |cons x l ih=>
  simp only [fM,uo,List.length_cons];split<;>split<;>omega
theorem AG {r:aA}{s:aw}(hS:fR r s)(hw0:1≤r.wide*r.deep)(hw:r.wide*r.deep≤1000000)(hpl:r.ah.length≤1000000){nt:Nat}(hnt:r.aa.length=nt)(hn:nt≤1000000)(Q:GX→bN→Prop): ∀(k i:Nat) (C:List Int) (v:Nat),i+k=s.ah.length→CF nt C v (fun t=>fM (s.ao.take i) t)→
  (∀C' v',CF nt C' v' (fun t=>fM s.ao t)→Q (.exit 0) ⟨[(2, .ay (H.length,2) 0),(3, .ay (H.length,3) 0),(4,aP),(5, .a8 (H.length,39) 1 nt 0 nt)],jL r s C' v'::H,145⟩)→
  gS KC au 39 (lp Tryz.f39 0) [2,3,5,6] [2,3,4,5] Q [(2, .ay (H.length,2) 0),(3, .ay (H.length,3) 0),(5, .a8 (H.length,39) 1 nt 0 nt),(6, .pure (.int .i64 i))] (jL r s C v::H) 145:=by
 have ep:=hS.pl;have eh:=hS.hl;intro k
 induction k with
 |zero=>
  intro i C v hi hC h1;have e:s.ao.take i=s.ao:=List.take_of_length_le (by omega);rw [e]at hC;apply ax;conv=>arg 4;whnf
  have: ¬i<s.ah.length:=(by omega);simp [this,jL,gg,aR];simpa [jL,gg,aR]using h1 C v hC
 |succ k ih=>
  intro i C v hi hC h1;have hia:i<s.ah.length:=(by omega);have hih:i<s.ao.length:=(by omega);have hw1:=dh (x:=(i:Int)+1) (by omega) (by omega);have pr:=hS.pr _ (List.getElem_mem hia);have hwd:=dh (x:=r.wide*r.deep) (by omega) (by omega);have n1: ¬s.ah[i]<0:=(by omega);have n2: ¬r.wide*r.deep≤s.ah[i]:=(by omega);have hnh:(s.ah.take i).contains s.ah[i]=false:=by
   rw [←Bool.not_eq_true,List.contains_iff_mem];intro hm;obtain⟨j,hj,e⟩:=List.mem_take_iff_getElem.1 hm;have hji:j<i:=(by omega);have:=List.pairwise_iff_getElem.1 hS.pn j i (by omega) hia hji;exact this e
  have HS:=fun c (H:aj) (hH:0<H.length)=>Cw (c:=c) (H:=H) (s.ah.take i) s.ah[i] (by simp;omega) hH;rw [hnh]at HS;have hile:i≤s.ah.length:=(by omega);have hmin:min i s.ah.length=i:=(by omega);have hrl: ∀x:Int,(aG x).length=1:=fun _=>rfl;have hcl:=fun t=>MG (s.ao.take i) t;have htl:(s.ao.take i).length≤1000000:=(by simp;omega);apply ax;conv=>arg 4;whnf
  simp only [List.map_take]at HS;simp [jL,gg,aR,hia,hile,hmin,HS,aG,n1,n2,hwd];have S1:=fun Q C v hC hf ih=>xI (H:=H) hS (by omega) hnt hn i hih 0 (.inl rfl) C v (fun t=>fM (s.ao.take i) t) hC hf Q ih;simp [jL,gg,aR]at S1;refine S1 _ C v hC (fun t=>by have:=hcl t;omega) (fun C1 v1 hC1=> ?_);clear S1;have S2:=fun Q C v hC hf ih=>xI (H:=H) hS (by omega) hnt hn i hih 1 (.inr rfl) C v (fun t=>fM (s.ao.take i) t+if aU s.ao i 0=t then 1 else 0) hC hf Q ih;simp [jL,gg,aR]at S2;refine S2 _ C1 v1 hC1 (fun t=>by have:=hcl t;split<;>omega) (fun C2 v2 hC2=> ?_)
  clear S2;have hC2':CF nt C2 v2 (fun t=>fM (s.ao.take (i+1)) t):=by
   obtain⟨a,b,d⟩:=hC2;refine⟨a,b,fun t ht=> ?_⟩;have dt:=d t ht;dsimp only at dt⊢;rw [dt,E9 hih];unfold aU;simp;omega
  have ih':=ih (i+1) C2 v2 (by omega) hC2' h1;apply ax;conv=>arg 4;whnf
  simp [jL,gg,aR]at ih';simp [hw1];exact ih'
theorem Cx {r:aA}{s:aw}(hS:fR r s)(hw0:1≤r.wide*r.deep)(hw:r.wide*r.deep≤1000000){nt:Nat}(hnt:r.aa.length=nt)(hn:nt≤1000000)(C:List Int)(v:Nat)(hC:CF nt C v (fun t=>fM s.ao t))(Q:GX→bN→Prop): ∀k i:Nat,i+k=nt→
  Q (.exit 4) ⟨[(4,aP)],jL r s C v::H,145⟩→
  gS KC au 39 (lp Tryz.f39 2) [2,3,5,9] [4] Q [(2, .ay (H.length,2) 0),(3, .ay (H.length,3) 0),(5, .a8 (H.length,39) 1 nt 0 nt),(9, .pure (.int .i64 i))] (jL r s C v::H) 145:=by
 obtain⟨c1,c2,c3⟩:=hC;have et:=hS.tl;intro k
 induction k with
 |zero=>
  intro i hi h1;apply ax;conv=>arg 4;whnf
  have: ¬i<nt:=(by omega);simp [this,jL,gg,aR,qn];simpa [jL,gg,aR,qn]using h1
 |succ k ih=>
  intro i hi h1;have hia:i<nt:=(by omega);have hiC:i<C.length:=(by omega);have his:i<s.aa.length:=(by omega);have hw1:=dh (x:=(i:Int)+1) (by omega) (by omega);have hwd:=dh (x:=r.wide*r.deep) (by omega) (by omega);have hv:=c3 i hia;rw [aM hiC]at hv;dsimp only at hv;have th:=hS.th i his;rw [aM his]at th;have ih':=ih (i+1) (by omega) h1;simp [jL,gg,aR,qn]at ih';have ne: ¬H.length=H.length+1:=(by omega);apply ax;conv=>arg 4;whnf
  rcases th with ⟨a,b⟩|⟨a,b1,b2⟩
  ·rw [a]at hv;have n3: ¬r.wide*r.deep≤ -1:=(by omega);simp [jL,gg,aR,qn,hia,hiC,his,aG,bB.row,hv,b,c1,c2,hwd,hw1,n3,ne];exact ih'
  ·rw [a]at hv;have n1: ¬s.aa[i].cell= -1:=(by omega);have n1':(s.aa[i].cell== -1)=false:=(by simpa using n1);have n2: ¬s.aa[i].cell< -1:=(by omega);have n3: ¬r.wide*r.deep≤s.aa[i].cell:=(by omega);simp [jL,gg,aR,qn,hia,hiC,his,aG,bB.row,hv,n1,n1',n2,n3,c1,c2,hwd,hw1,ne];exact ih'
theorem Fa {r:aA}{s:aw}(hS:fR r s)(hw0:1≤r.wide*r.deep)(hw:r.wide*r.deep≤1000000)(hpl:r.ah.length≤1000000)(htl:r.aa.length≤1000000)(hH:0<H.length):
  bK KC (aE KC) 39 [.pure (.agg r.row), .pure (.agg s.row)] c H=some (.pure (.bool true),H):=by
 refine aO (aK KC au Tryz.func39 rfl rfl SR (by simp) hH ?_);have ep:=hS.pl;have eh:=hS.hl;have et:=hS.tl;have e1:((s.ah.length:Int)==r.ah.length)=true:=(by simp [ep]);have L1:=fun Q=>AG (H:=H) hS hw0 hw hpl rfl htl Q s.ah.length 0 (List.replicate r.aa.length 0) 0 (by omega) ⟨by simp,Nat.zero_le _,fun t ht=>by simp [fM,ht]⟩;simp [jL,qn,aR,gg,aG]at L1;have hb:(r.aa.length:Int)*8≤1099511627776:=(by omega);rw [eE];unfold aw.row;simp [ep,eh,et,hb];refine L1 _ (fun C' v' hC=> ?_);clear L1;simp;have L2:=fun Q=>Cx (H:=H) hS hw0 hw rfl htl C' v' hC Q r.aa.length 0 (by omega);simp [jL,aR,gg]at L2;refine L2 _ ?_;simp [ae]
theorem AH {g1 g2:GV}{r:aA}{s:aw}(hS:fR r s)(hw0:1≤r.wide*r.deep)(hw:r.wide*r.deep≤1000000)(hpl:r.ah.length≤1000000)(htl:r.aa.length≤1000000)(h1:pK H g1 (.agg r.row))(h2:pK H g2 (.agg s.row))(hH:0<H.length):
  aL KC (aE KC) 39 [g1,g2] c H=some (.pure (.bool true),H):=
 iD KC rfl rfl (MH h1 h2) rfl hH (fun H hH=>Fa (c:=c) hS hw0 hw hpl htl hH) rfl
end
section
variable {c:Nat} {H:aj}
end
theorem AI {r:aA}{w:Nat}{all:List ak}{fin:aw→List ak→Bool}(P:aw→List ak→Prop)(hP: ∀s l a,P s l→a∈all→m6 r s w a=true→P (cR s w a) (l++[a])): ∀n s l m,P s l→uC r w all fin n s l=some m→
  (∃t,m=l++t)∧(∃s',P s' m∧fin s' m=true)∧ ∀j,l.length≤j→j<m.length→ ∃sj,P sj (m.take j)∧m6 r sj w (m.getD j bH)=true∧P (cR sj w (m.getD j bH)) (m.take (j+1))
 |0,s,l,m,hs,h=>by
  unfold uC at h;split at h
  ·rename_i hf;cases h;exact⟨⟨[],by simp⟩,⟨s,hs,hf⟩,fun j h1 h2=>by omega⟩
  ·cases h
 |n+1,s,l,m,hs,h=>by
  unfold uC at h;obtain⟨a,ha,h⟩:=List.exists_of_findSome?_eq_some h;split at h
  ·rename_i hu;have hs':=hP s l a hs ha hu;obtain⟨⟨t,e⟩,hf,hj⟩:=AI P hP n _ _ m hs' h;have e':m=l++(a::t):=(by rw [e];simp);refine⟨⟨a::t,e'⟩,hf,fun j h1 h2=> ?_⟩;rcases Nat.lt_or_eq_of_le h1 with h3|h3
   ·exact hj j (by simp;omega) h2
   ·subst h3;have g:m.getD l.length bH=a:=(by rw [e',List.getD_eq_getElem?_getD];simp);have t1:m.take l.length=l:=(by rw [e'];simp);have t2:m.take (l.length+1)=l++[a]:=(by rw [e];exact List.take_left' (by simp));rw [g,t1,t2];exact⟨s,hs,hu,hs'⟩
  ·cases h
theorem HT {r:aA}(hr:ld r=0)(hn:r.ai.length≤40)(ha: ∀a∈r.ai,AB r a.aN.toNat a∧(0≤a.a7∧a.a7≤1000)∧(0≤a.bZ∧a.bZ≤15)∧0≤a.gz∧a.gz≤9)(hp:r.ai.Pairwise fun a b=>a.a7≤b.a7∧(a.a7=b.a7→a.aN≠b.aN)):cB r=0:=by
 have C:=Eg hr;have ar:=C.qm;rw [jM,hr,if_neg (by simp),if_neg (by omega)];refine jN fun j _ hj=> ?_;have hj':j<r.ai.length:=(by omega);obtain⟨h1,h2,h3,h4⟩:=ha _ (List.getElem_mem hj');have hw:=h1.wl;have hwho:=h1.aN;rw [oB,aM hj',cV h2.1 h2.2,if_neg (by simp),if_neg,cV (by omega) (by omega),if_neg (by simp),if_neg,sJ h1 ar.1 (by omega),if_neg (by simp),cV h3.1 h3.2,cV h4.1 h4.2,if_neg (by simp)]
 ·intro h;rw [List.any_eq_true]at h;obtain⟨q,hq,he⟩:=h;obtain⟨i,hi,rfl⟩:=List.mem_take_iff_getElem.1 hq;have:=(List.pairwise_iff_getElem.1 hp i j (by omega) hj' (by omega)).2;unfold kq at he;simp at he;exact this he.1 he.2
 ·rintro⟨j0,hlt⟩;rw [aM (by omega)]at hlt;have:=(List.pairwise_iff_getElem.1 hp (j-1) j (by omega) hj' (by omega)).1;omega
theorem HU {r:aA}(h:cB r=0): ∀a∈r.ai,(0≤a.bZ∧a.bZ≤15)∧0≤a.gz∧a.gz≤9:=fun a ha=>by
 obtain⟨j,hj,rfl⟩:=List.getElem_of_mem ha;rw [jM]at h;obtain⟨h1,h⟩:=ite_self h;obtain⟨h2,h⟩:=b9 (by decide) h;have e:=im h j (Nat.zero_le _) (by omega);rw [oB,aM hj]at e;obtain⟨e1,e⟩:=b9 (by decide) e;obtain⟨e2,e⟩:=b9 (by decide) e;obtain⟨e3,e⟩:=b9 (by decide) e;obtain⟨e4,e⟩:=b9 (by decide) e;obtain⟨e5,e⟩:=ite_self e;obtain⟨e6,e⟩:=b9 (by decide) e;have a1:=gj (fun x=>e6 (.inl x));have a2:=gj (fun x=>e6 (.inr x));exact⟨a1,a2⟩
def DW (a b:ak):Prop:=a.a7=b.a7→a.aN≠b.aN
theorem MJ {a b:ak}(h:DW a b):DW b a:=fun e e2=>h e.symm e2.symm
theorem uD {aN:Int}{a:ak}:(late aN a).a7=a.a7+if a.aN=aN then 1 else 0:=by
 unfold late;split
 ·rfl
 ·simp
theorem vC {aN:Int}{a:ak}:(late aN a).aN=a.aN:=by
 unfold late;split<;>rfl
theorem MK {r:aA}{k:Nat}{kind:Int}(h:jq r k kind)(hd:r.ai.Pairwise DW):(dp r k kind).Pairwise DW:=by
 unfold dp;rw [h.get];split
 ·split
  ·rw [List.pairwise_iff_getElem]at hd⊢;intro i j hi hj hij;simp only [List.length_set]at hi hj;have:=hd i j hi hj hij;have key: ∀q (hq:q<r.ai.length),((r.ai.set k {(r.ai[k]'h.lt)with hand:=1-(r.ai[k]'h.lt).hand})[q]'(by simpa using hq)).a7=r.ai[q].a7∧((r.ai.set k {(r.ai[k]'h.lt)with hand:=1-(r.ai[k]'h.lt).hand})[q]'(by simpa using hq)).aN=r.ai[q].aN:=fun q hq=>by
    rw [List.getElem_set];split
    ·rename_i e;subst e;exact⟨rfl,rfl⟩
    ·exact⟨rfl,rfl⟩
   unfold DW at this⊢;rw [(key i hi).1,(key i hi).2,(key j hj).1,(key j hj).2];exact this
  ·exact hd.sublist (List.eraseIdx_sublist ..)
 ·split
  ·refine((kX _).pairwise_iff fun {a b}=>MJ).2 ?_;rw [List.pairwise_append];have hsplit:r.ai=r.ai.take k++r.ai.drop k:=(List.take_append_drop k r.ai).symm;have hd':=hd;have hpw:=h.pw;rw [hsplit]at hd' hpw;obtain⟨d1,d2,d3⟩:=List.pairwise_append.1 hd';obtain⟨p1,p2,p3⟩:=List.pairwise_append.1 hpw;refine⟨d1,List.pairwise_map.2 (d2.imp ?_),fun a ha b' hb'=> ?_⟩
   ·intro a b hab e1 e2;rw [uD,uD]at e1;rw [vC,vC]at e2;rw [e2]at e1;exact hab (by omega) e2
   ·obtain⟨b,hb,rfl⟩:=List.mem_map.1 hb';have q1:=d3 a ha b hb;have q2:=p3 a ha b hb;intro e1 e2;rw [uD]at e1;rw [vC]at e2;split at e1
    ·omega
    ·exact q1 (by omega) e2
  ·exact hd.sublist (List.eraseIdx_sublist ..)
theorem Fb {r:aA}{k:Nat}{kind:Int}(h:jq r k kind){M:ak→Prop}(hM: ∀a b:ak,a.bZ=b.bZ→a.gz=b.gz→M a→M b)(hm: ∀a∈r.ai,M a): ∀x∈dp r k kind,M x:=fun x hx=>by
 unfold dp at hx;rw [h.get]at hx;split at hx
 ·split at hx
  ·rcases List.mem_or_eq_of_mem_set hx with hx|rfl
   ·exact hm x hx
   ·exact hM (r.ai[k]'h.lt) _ rfl rfl (hm _ (List.getElem_mem h.lt))
  ·exact hm x (List.mem_of_mem_eraseIdx hx)
 ·split at hx
  ·have hx:=(kX _).mem_iff.1 hx;rcases List.mem_append.1 hx with hx|hx
   ·exact hm x (List.mem_of_mem_take hx)
   ·obtain⟨a,ha,rfl⟩:=List.mem_map.1 hx;have ha':=List.mem_of_mem_drop ha;refine hM a _ ?_ ?_ (hm a ha')
    ·unfold late;split<;>rfl
    ·unfold late;split<;>rfl
  ·exact hm x (List.mem_of_mem_eraseIdx hx)
section
noncomputable def kE (r:aA)(k:Nat)(kind:Int)(l:List ak):aA:={r with ai:=fg (eG r k kind) (dp r k kind) l}
theorem MM {r:aA}{k:Nat}{kind B:Int}(h:jq r k kind)(hB: ∀a∈r.ai,a.a7≤B): ∀x∈dp r k kind,x.a7≤B+1:=fun x hx=>by
 have hm: ∀a∈r.ai,a.a7≤B+1:=fun a ha=>(by have:=hB a ha;omega);unfold dp at hx;rw [h.get]at hx;split at hx
 ·split at hx
  ·rcases List.mem_or_eq_of_mem_set hx with hx|rfl
   ·exact hm x hx
   ·show (r.ai[k]'h.lt).a7≤B+1
    exact hm _ (List.getElem_mem h.lt)
  ·exact hm x (List.mem_of_mem_eraseIdx hx)
 ·split at hx
  ·have hx:=(kX _).mem_iff.1 hx;rcases List.mem_append.1 hx with hx|hx
   ·exact hm x (List.mem_of_mem_take hx)
   ·obtain⟨a,ha,rfl⟩:=List.mem_map.1 hx;have:=hB a (List.mem_of_mem_drop ha);rw [uD];split<;>omega
  ·exact hm x (List.mem_of_mem_eraseIdx hx)
theorem MO {r:aA}{k:Nat}{kind B:Int}(h:jq r k kind)(hB: ∀a∈r.ai,a.a7≤B):eG r k kind≤B+1:=by
 have:=hB _ (List.getElem_mem h.lt);unfold eG;rw [h.get];split<;>omega
theorem AJ: ∀(l:List ak) (m:Int),(bI m l).Pairwise fun a b=>a.a7<b.a7
 | [],m=> .nil
 |a::l,m=>List.pairwise_cons.2 ⟨fun b hb=>by have:=fN hb;show m+1<b.a7;omega,AJ l (m+1)⟩
theorem vD {r:aA}{x:List ak}{w:Nat}{a:ak}(h:AB r w a):AB {r with ai:=x} w a:=⟨h.aN,h.wl,h.hand,h.kind,h.take,h.pL,h.step,h.form⟩
theorem MQ {L l:List ak}{m:Int}{M:ak→Prop}(hL: ∀x∈L,M x)(hB: ∀x∈L,M {x with a7:=x.a7+l.length})(hA: ∀x∈bI m l,M x): ∀x∈fg m L l,M x:=fun x hx=>by
 unfold fg at hx;rcases List.mem_append.1 hx with hx|hx
 ·rcases List.mem_append.1 hx with hx|hx
  ·exact hL x (jK hx).2
  ·exact hA x hx
 ·obtain⟨b,hb,rfl⟩:=List.mem_map.1 hx;exact hB b ((List.dropWhile_sublist _).subset hb)
theorem TJ {L l:List ak}{m:Int}(hp:L.Pairwise fun a b=>a.a7≤b.a7)(hd:L.Pairwise DW):(fg m L l).Pairwise fun a b=>a.a7≤b.a7∧(a.a7=b.a7→a.aN≠b.aN):=by
 have hR:L.Pairwise fun a b=>a.a7≤b.a7∧(a.a7=b.a7→a.aN≠b.aN):=by
  rw [List.pairwise_iff_getElem]at hp hd⊢;exact fun i j hi hj hij=>⟨hp i j hi hj hij,hd i j hi hj hij⟩
 unfold fg;rw [List.pairwise_append,List.pairwise_append];refine⟨⟨hR.sublist (List.takeWhile_sublist _),(AJ l m).imp fun h=>⟨by omega,fun e=>by omega⟩,fun a ha b hb=> ?_⟩,List.pairwise_map.2 ((hR.sublist (List.dropWhile_sublist _)).imp fun {a b} h=> ?_),fun a ha b' hb'=> ?_⟩
 ·have h1:=pC ha;have h2:=fN hb;exact⟨by omega,fun e=>by omega⟩
 ·refine⟨by simp only;omega,fun e=> ?_⟩;simp only at e⊢;exact h.2 (by omega)
 ·obtain⟨b,hb,rfl⟩:=List.mem_map.1 hb';have h2:=mE hp hb;rcases List.mem_append.1 ha with ha|ha
  ·have h1:=pC ha;exact⟨by simp only;omega,fun e=>by simp only at e;omega⟩
  ·have h1:=fN ha;exact⟨by simp only;omega,fun e=>by simp only at e;omega⟩
theorem yV {L l:List ak}{m:Int}:(fg m L l).length=L.length+l.length:=by
 have e:=congrArg List.length (iX m L);unfold fg;rw [List.length_append]at e;simp only [List.length_append,List.length_map,gY];omega
theorem HV {r:aA}{x:List ak}:ld {r with ai:=x}=ld r:=by rw [mD,mD]
section
variable {r:aA} {k:Nat} {kind:Int} {l:List ak} (h:jq r k kind) (hc:cB r=0)
include h hc
theorem xJ (hn:r.ai.length≤30)(ht: ∀a∈r.ai,a.a7≤100)(hl:l.length≤3)(ha: ∀a∈l,a∈bP r (bS r k)):cB (kE r k kind l)=0:=by
 obtain⟨C,A⟩:=uE hc;have hroom:ld r=0:=by
  have hc2:=hc;rw [jM]at hc2;exact(ite_self hc2).1
 have hab:=fun a q=>oC (r:=r) (w:=bS r k) (a:=a) (by have:=h.qm;omega) h.wl q;have hk:=HU hc;have hkL:=Fb h (M:=fun a=>(0≤a.bZ∧a.bZ≤15)∧0≤a.gz∧a.gz≤9) (fun a b e1 e2 q=>by rw [←e1,←e2];exact q) hk;have hm0:=vB h;have hm1:=MO h ht;have hrng: ∀a∈dp r k kind,AB r a.aN.toNat a∧0≤a.a7∧a.a7≤101:=fun a q=>⟨(oz h q).1,(oz h q).2.1,MM h ht a q⟩;have hd:r.ai.Pairwise DW:=A.pw.imp fun q=>q.2;refine HT (r:=kE r k kind l) (HV.trans hroom) ?_ ?_ (TJ (uF h) (MK h hd))
 ·show (fg _ _ _).length≤40
  rw [yV];have:=oy h;omega
 ·refine MQ (fun x hx=> ?_) (fun x hx=> ?_) fun x hx=> ?_
  ·obtain⟨q1,q2,q3⟩:=hrng x hx;exact⟨vD q1,by omega,hkL x hx⟩
  ·obtain⟨q1,q2,q3⟩:=hrng x hx;exact⟨vD (ob q1),by simp only;omega,hkL x hx⟩
  ·have hr:=fN hx;obtain⟨a,q,t,rfl⟩:=xK hx;obtain⟨b1,b2,b3,b4⟩:=hab a (ha a q);have ew:a.aN.toNat=bS r k:=(by rw [b1.aN];rfl);refine⟨?_,by omega,by show (0≤a.bZ∧a.bZ≤15)∧0≤a.gz∧a.gz≤9;omega⟩
   show AB _ a.aN.toNat _
   rw [ew];exact vD (ob b1)
omit hc in
theorem HW (ha: ∀a∈l,a∈bP r (bS r k)):vz r (r.ai[k]'h.lt).aN l=0:=by
 have C:=h.room;have ar:=C.qm;have hwho:(r.ai[k]'h.lt).aN=bS r k:=by
  unfold bS;rw [h.get];exact(h.run.ab _ (List.getElem_mem h.lt)).aN
 have key: ∀l:List ak,(∀a∈l,a∈bP r (bS r k))→vz r (r.ai[k]'h.lt).aN l=0:=fun l=>by
  induction l with
  |nil=>intro _;rfl
  |cons a l ih=>
   intro ha;obtain⟨b1,b2,b3,b4⟩:=oC (r:=r) (w:=bS r k) (a:=a) (by have:=h.qm;omega) h.wl (ha a (by simp));have e:xG r (r.ai[k]'h.lt).aN a=0:=by
    rw [xH,hwho,if_neg (by rw [b1.aN];simp),if_neg (by simp [b2,b3,b4]),sJ b1 ar.1 (by omega)]
   unfold vz;rw [e,if_neg (by simp)];exact ih fun b hb=>ha b (by simp [hb])
 exact key l ha
end
theorem lg {r:aA}{k:Nat}{kind:Int}{l:List ak}(h:jq r k kind)(ho:iE r k kind=some l):
  l.length≤3∧(∀a∈l,a∈bP r (bS r k))∧(∃s',MS r (bS r k) (cA (eG r k kind) (dp r k kind)) (eG r k kind) s' l∧lE r (behind (eG r k kind) (dp r k kind)) s' l=true)∧
   ∀j,j<l.length→ ∃sj,MS r (bS r k) (cA (eG r k kind) (dp r k kind)) (eG r k kind) sj (l.take j)∧m6 r sj (bS r k) (l.getD j bH)=true∧MS r (bS r k) (cA (eG r k kind) (dp r k kind)) (eG r k kind) (cR sj (bS r k) (l.getD j bH)) (l.take (j+1)):=by
 unfold iE Az at ho;by_cases he:(yU r k kind).2.2.2≠0
 ·rw [if_pos he]at ho;cases ho
 rw [if_neg he]at ho;obtain⟨n,hn,hg⟩:=List.exists_of_findSome?_eq_some ho;have hS:=(mA (cA (eG r k kind) (dp r k kind)).length (aF r) (cA (eG r k kind) (dp r k kind)) 0 h.run.snd fun a ha=>(oz h (jK ha).2).1).1;have hF0:Full (aF r):=⟨by simpa [aF]using h.run.p0,by simpa [aF]using h.run.p0,by simp [aF];exact h.run.w.pl,by simp [aF];exact h.run.w.pl,by simp [aF];exact h.run.w.tl⟩;have e:cA (eG r k kind) (dp r k kind)++bI (eG r k kind) []=cA (eG r k kind) (dp r k kind):=(by simp [bI]);have R0:MS r (bS r k) (cA (eG r k kind) (dp r k kind)) (eG r k kind) (yU r k kind).2.1 []:=⟨hS,ry h.run.snd hS hF0,by simp,by rw [e];exact Decidable.not_not.1 he,by rw [e];rfl⟩;obtain⟨gl,t,et,hall⟩:=uG _ _ _ _ hg;obtain⟨_,hf,hj⟩:=AI (fun s l=>MS r (bS r k) (cA (eG r k kind) (dp r k kind)) (eG r k kind) s l) (fun s l a hr ha hu=>by
  have hab:=(oC (by have:=h.qm;omega) h.wl ha).1;rw [rK]at hu;simp at hu;exact hr.next (fun x hx=>pC hx) hab hu.1) n _ _ l R0 hg
 simp at hn gl;refine⟨by omega,fun a ha=>hall a (by rw [et]at ha;simpa using ha),hf,fun j hjl=>hj j (by simp) hjl⟩
theorem HX {r:aA}{k:Nat}{kind:Int}{l:List ak}(h:jq r k kind)(ho:iE r k kind=some l):(dw (kE r k kind l)).2.2.2=0:=by
 obtain⟨_,_,⟨s',hR,hf⟩,_⟩:=lg h ho;rw [←TK (uF h) hR]at hf;unfold TL at hf;exact of_decide_eq_true hf
end
theorem qo {α:Type}{p q:List α}{d:α}{j:Nat}(h:j<p.length):(p++q).getD j d=p.getD j d:=by simp [List.getD_eq_getElem?_getD,List.getElem?_append_left h]
theorem AK {p q:List ak}: ∀{n:Nat},n<p.length→j3 (p++q) n=j3 p n
 |0,_=>rfl
 |n+1,h=>by
  unfold j3;rw [AK (n:=n) (by omega),qo h,qo (by omega)]
theorem yW {r:aA}: ∀(k:Nat) (s:aw) (ai:List ak) (i:Nat),ai.length≤k→(bw r k s ai i).2.2.2=0→ai≠[]→(bw r k s ai i).1.length=j3 ai (ai.length-1)+1
 |_,_,[],_,_,_,h=>absurd rfl h
 |0,s,a::rest,i,h,_,_=>by simp at h
 |k+1,s,a::rest,i,hk,he,_=>by
  obtain⟨g,hg⟩: ∃g,(a::rest).takeWhile (aY a)=g:=⟨_,rfl⟩;obtain⟨l,hl⟩: ∃l,(a::rest).drop g.length=l:=⟨_,rfl⟩;have hgn:g≠[]:=(by rw [←hg,yQ];simp);have hsg: ∀b∈g,b.a7=a.a7:=fun b hb=>by
   rw [←hg]at hb;simpa [aY]using(jK hb).1
  have hsplit:a::rest=g++l:=by
   have:=List.takeWhile_append_dropWhile (p:=aY a) (l:=a::rest);rw [←hl,←hg];have e:=qi (aY a) (a::rest);conv=>lhs;rw [←List.take_append_drop ((a::rest).takeWhile (aY a)).length (a::rest)]
   rw [←e]
  have hgl: ∀j,j<g.length→(g.getD j bH).a7=a.a7:=fun j hj=>(by rw [aM hj];exact hsg _ (List.getElem_mem hj));rw [eA,hg,hl]at he⊢;by_cases h0:(cJ r s g [] s 0).2.2≠0
  ·rw [if_pos h0]at he;exact absurd he h0
  rw [if_neg h0]at he⊢;simp only at he⊢;have hll:l.length≤k:=by
   have:=rB (a:=a) (rest:=rest) (k:=k) hk;rw [hg,hl]at this;exact this
  have h1:g.length+l.length=(a::rest).length:=(by rw [hsplit,List.length_append]);by_cases hn:l=[]
  ·subst hn;rw [mB,hsplit,List.append_nil,sE (g.length-1) (x:=a.a7) fun j hj=>hgl j (by have:=List.length_pos_iff.2 hgn;omega)];rfl
  ·have ih:=yW k _ l _ hll he hn;rw [List.length_cons,ih,hsplit];have hlp:=List.length_pos_iff.2 hn;have e:(g++l).length-1=g.length+(l.length-1):=(by rw [List.length_append];omega);have hlt:((a::rest).takeWhile (aY a)).length<(a::rest).length:=(by rw [hg];omega);have ho:=pz (aY a) (a::rest) hlt;have hd:(l.getD 0 bH).a7≠(g.getD 0 bH).a7:=by
    rw [hgl 0 (List.length_pos_iff.2 hgn)];have e2:l.getD 0 bH=(a::rest)[((a::rest).takeWhile (aY a)).length]'hlt:=by
     rw [aM hlp];simp only [←hl,←hg,List.getElem_drop,Nat.add_zero]
    rw [e2];simpa [aY]using ho
   rw [e,xA hgn hn (fun j hj=>by rw [hgl j hj,hgl 0 (by omega)]) hd];omega
theorem TM {r:aA}{s:aw}{P R:List ak}{a:ak}{K:Nat}(hK:(P++a::R).length≤K)(hP: ∀p∈P,p.a7<a.a7)(hR: ∀b∈R,a.a7<b.a7)(he:(bw r K s (P++a::R) 0).2.2.2=0):
  (s::(bw r K s (P++a::R) 0).1)[j3 (P++a::R) P.length]? =some (bw r P.length s P 0).2.1∧(s::(bw r K s (P++a::R) 0).1)[j3 (P++a::R) P.length+1]? =some (bw r (P++[a]).length s (P++[a]) 0).2.1:=by
 have hPR: ∀x∈P,∀y∈a::R,x.a7≠y.a7:=fun x hx y hy=>by
  have h1:=hP x hx;rcases List.mem_cons.1 hy with rfl|hy
  ·omega
  ·have:=hR y hy;omega
 have A:=fU (r:=r) P.length K (a::R).length s P (a::R) 0 (Nat.le_refl _) hK (Nat.le_refl _) hPR;have heP:(bw r P.length s P 0).2.2.2=0:=by
  rcases Decidable.em ((bw r P.length s P 0).2.2.2=0)with e|e
  ·exact e
  ·rw [A,if_pos e]at he;exact he
 rw [if_neg (by simpa using heP)]at A;rw [A]at he⊢;simp only at he⊢;obtain⟨sP,hsP⟩: ∃sP,(bw r P.length s P 0).2.1=sP:=⟨_,rfl⟩;rw [hsP]at he⊢;have hlast:=sK (r:=r) P.length s P 0;rw [hsP]at hlast;have hl1:(bw r P.length s P 0).1.length=j3 (P++a::R) P.length:=by
  by_cases hn:P=[]
  ·subst hn;simp [mB,j3]
  ·have hc:=yW P.length s P 0 (Nat.le_refl _) heP hn;obtain⟨q,hq⟩: ∃q,P.length=q+1:=⟨P.length-1,by have:=List.length_pos_iff.2 hn;omega⟩;rw [hc];rw [hq,Nat.add_sub_cancel];conv=>rhs;unfold j3
   rw [AK (by omega),qo (p:=P) (j:=q) (by omega)];have e1:(P++a::R).getD (q+1) bH=a:=(by rw [List.getD_eq_getElem?_getD,List.getElem?_append_right (by omega),hq];simp);have e2:=hP _ (List.getElem_mem (show q<P.length by omega))
   rw [e1,aM (show q<P.length by omega),if_pos (by omega)]
 have B:=fU (r:=r) 1 (a::R).length R.length sP [a] R (0+P.length) (by simp) (by simp) (Nat.le_refl _) (fun x hx y hy=>by
  rw [List.mem_singleton.1 hx];have:=hR y hy;omega)
 rw [List.singleton_append]at B;have hea:(bw r 1 sP [a] (0+P.length)).2.2.2=0:=by
  rcases Decidable.em ((bw r 1 sP [a] (0+P.length)).2.2.2=0)with e|e
  ·exact e
  ·rw [B,if_pos e]at he;exact he
 rw [if_neg (by simpa using hea)]at B;rw [B];simp only;have ha1:(bw r 1 sP [a] (0+P.length)).1=[(bw r 1 sP [a] (0+P.length)).2.1]:=by
  have hc:=yW 1 sP [a] (0+P.length) (by simp) hea (by simp);have hl:=sK (r:=r) 1 sP [a] (0+P.length);have hc':(bw r 1 sP [a] (0+P.length)).1.length=1:=hc;rw [hc']at hl
  match hm:(bw r 1 sP [a] (0+P.length)).1,hc' with
  | [x],_=>
   rw [hm]at hl;rw [←hl];rfl
 have C:=fU (r:=r) P.length (P++[a]).length 1 s P [a] 0 (Nat.le_refl _) (Nat.le_refl _) (by simp) (fun x hx y hy=>by
  rw [List.mem_singleton.1 hy];have:=hP x hx;omega)
 rw [if_neg (by simpa using heP),hsP]at C;rw [C,ha1,←hl1];constructor
 ·have e:(s::((bw r P.length s P 0).1++([(bw r 1 sP [a] (0+P.length)).2.1]++(bw r R.length (bw r 1 sP [a] (0+P.length)).2.1 R (0+P.length+[a].length)).1)))=(s::(bw r P.length s P 0).1)++([(bw r 1 sP [a] (0+P.length)).2.1]++(bw r R.length (bw r 1 sP [a] (0+P.length)).2.1 R (0+P.length+[a].length)).1):=rfl;rw [e,List.getElem?_append_left (by simp),←hlast,List.getD_eq_getElem?_getD,List.getElem?_eq_getElem (by simp)];rfl
 ·rw [List.getElem?_cons_succ,List.getElem?_append_right (Nat.le_refl _),Nat.sub_self];rfl
theorem xL: ∀(p q:List ak) (m:Int),bI m (p++q)=bI m p++bI (m+p.length) q
 | [],q,m=>by simp [bI]
 |a::p,q,m=>by
  simp only [List.cons_append,bI,xL p q (m+1),List.length_cons];rw [show m+1+(p.length:Int)=m+((p.length+1:Nat):Int)by omega]
theorem HY {r:aA}{s:aw}{w:Nat}{a:ak}(hw:w<s.ah.length)(h:m6 r s w a=true):s.ah.getD w 0∉r.seen∧(cR s w a).ah.getD w 0∉r.seen:=by
 rw [rK]at h;simp only [Bool.and_eq_true,Bool.not_eq_true']at h;obtain⟨_,h⟩:=h;rw [j4,List.any_eq_false]at h;have key: ∀x,x∈[s.ah.getD w 0,if a.kind=1 then a.cell else s.ah.getD w 0]→x∉r.seen:=fun x hx hx2=>h x hx2 (by rw [List.contains_iff_mem];exact hx);refine⟨key _ (by simp), ?_⟩;have e:(cR s w a).ah.getD w 0=if a.kind=1 then a.cell else s.ah.getD w 0:=by
  rw [iq];by_cases k:a.kind=1
  ·rw [if_pos k,if_pos k];simp [List.getD_eq_getElem?_getD,hw]
  ·rw [if_neg k,if_neg k]
   repeat' split
   all_goals rfl
 rw [e];exact key _ (by simp)
theorem HZ {r:aA}{k:Nat}{kind:Int}{l:List ak}(h:jq r k kind)(ho:iE r k kind=some l){i:Nat}(hi:i<(kE r k kind l).ai.length)(h1:eG r k kind<((kE r k kind l).ai[i]'hi).a7)(h2:((kE r k kind l).ai[i]'hi).a7≤eG r k kind+l.length):
  ∃s s',(dw (kE r k kind l)).1[j3 (kE r k kind l).ai i]? =some s∧(dw (kE r k kind l)).1[j3 (kE r k kind l).ai i+1]? =some s'∧fR r s∧fR r s'∧s.ah.getD (bS r k) 0∉r.seen∧s'.ah.getD (bS r k) 0∉r.seen:=by
 obtain⟨l3,hall,_,hpath⟩:=lg h ho;have hok:=HX h ho;have hrun:(bw r (kE r k kind l).ai.length (aF r) (kE r k kind l).ai 0).2.2.2=0:=by
  unfold dw at hok;simp only at hok;unfold kE at hok⊢;simp only [mF,sL]at hok;have ef:aF {r with ai:=fg (eG r k kind) (dp r k kind) l}=aF r:=rfl;rw [ef]at hok;split at hok
  ·rename_i q;exact q.1
  ·exact hok
 have hacc:(dw (kE r k kind l)).1=aF r::(bw r (kE r k kind l).ai.length (aF r) (kE r k kind l).ai 0).1:=by
  unfold dw kE;simp only [mF];rfl
 rw [hacc];obtain⟨m,hm⟩: ∃m,eG r k kind=m:=⟨_,rfl⟩;obtain⟨U,hU⟩: ∃U,cA m (dp r k kind)=U:=⟨_,rfl⟩;obtain⟨B,hB⟩: ∃B,(behind m (dp r k kind)).map (fun a:ak=>{a with a7:=a.a7+l.length})=B:=⟨_,rfl⟩;have eX:(kE r k kind l).ai=U++bI m l++B:=by
  unfold kE fg;simp only [hm,hU,hB]
 have hUm: ∀x∈U,x.a7≤m:=fun x hx=>pC (by rw [hU];exact hx);have hBm: ∀x∈B,m+l.length<x.a7:=fun x hx=>by
  rw [←hB]at hx;obtain⟨b,hb,rfl⟩:=List.mem_map.1 hx;have:=mE (uF h) hb;simp only;omega
 rw [hm,hU]at hpath;rw [hm]at h1 h2;obtain⟨X,hX⟩: ∃X,(kE r k kind l).ai=X:=⟨_,rfl⟩;simp only [hX]at hi h1 h2 hrun⊢;rw [hX]at eX;have c1:U.length≤i:=by
  rcases Nat.lt_or_ge i U.length with q|q
  ·exfalso;have e:X[i]=U[i]:=(by simp only [eX];rw [List.getElem_append_left (by simp;omega),List.getElem_append_left q]);have:=hUm _ (List.getElem_mem q);rw [e]at h1;omega
  ·exact q
 have c2:i<U.length+l.length:=by
  rcases Nat.lt_or_ge i (U.length+l.length)with q|q
  ·exact q
  ·exfalso;have hi2:i<(U++bI m l++B).length:=(by rw [←eX];exact hi);have q2:(U++bI m l).length≤i:=(by rw [List.length_append,gY];exact q);have e:X[i]=B[i-(U++bI m l).length]'(by rw [List.length_append]at hi2;omega):=(by simp only [eX];rw [List.getElem_append_right q2]);have:=hBm _ (List.getElem_mem (l:=B) (n:=i-(U++bI m l).length) (by rw [List.length_append]at hi2;omega));rw [e]at h2;omega
 obtain⟨j,rfl⟩: ∃j,i=U.length+j:=⟨i-U.length,by omega⟩;have hj:j<l.length:=(by omega);obtain⟨sj,R1,hu,R2⟩:=hpath j hj;rw [aM hj]at hu R2;obtain⟨a,ha⟩: ∃a,setAt l[j] (m+1+j)=a:=⟨_,rfl⟩;have haa:a.a7=m+1+j:=(by rw [←ha];rfl);have htl:(l.take j).length=j:=(by rw [List.length_take];omega);have eM:bI m l=bI m (l.take j)++a::bI (m+1+j) (l.drop (j+1)):=by
  conv=>lhs;rw [←List.take_append_drop j l,xL,htl,List.drop_eq_getElem_cons hj]
  simp only [bI];rw [←ha,show m+(j:Int)+1=m+1+j by omega]
  rfl
 have eX2:X=(U++bI m (l.take j))++a::(bI (m+1+j) (l.drop (j+1))++B):=by
  rw [eX,eM];simp
 have lP:(U++bI m (l.take j)).length=U.length+j:=(by rw [List.length_append,gY,htl]);have ePa:(U++bI m (l.take j))++[a]=U++bI m (l.take (j+1)):=by
  rw [List.take_succ_eq_append_getElem hj,lK,htl,ha,List.append_assoc]
 obtain⟨g1,g2⟩:=TM (r:=r) (s:=aF r) (P:=U++bI m (l.take j)) (a:=a) (R:=bI (m+1+j) (l.drop (j+1))++B) (K:=X.length) (by rw [←eX2];exact Nat.le_refl _) (fun p hp=>by
  rcases List.mem_append.1 hp with hp|hp
  ·have:=hUm p hp;omega
  ·have:=fN hp;rw [htl]at this;omega) (fun b hb=>by
  rcases List.mem_append.1 hb with hb|hb
  ·have:=fN hb;omega
  ·have:=hBm b hb;omega) (by rw [←eX2];exact hrun)
 rw [←eX2,lP]at g1 g2;rw [ePa]at g2;have f1:=R1.fin;rw [lP]at f1;have f2:=R2.fin;rw [f1]at g1;rw [f2]at g2;have hw:bS r k<sj.ah.length:=(by rw [R1.snd.pl];exact h.wl);obtain⟨n1,n2⟩:=HY hw hu;exact⟨sj,_,g1,g2,R1.snd,R2.snd,n1,n2⟩
section
variable {c:Nat} {H:aj}
theorem Cy {r x:aA} {l:List ak} {m:Int} {w:Nat} {sc:List aw} (sh:iG r) (hw0:1≤r.wide*r.deep) (hwd:r.wide*r.deep≤1000) (hl:l.length≤1000) (hm:0≤m∧m≤10000) (ht: ∀a∈x.ai,0≤a.a7∧a.a7≤10000) (hx:x.ai.length≤1000) (hw:w<r.ah.length)
  (hsc: ∀i (hi:i<x.ai.length),m<(x.ai[i]'hi).a7→(x.ai[i]'hi).a7≤m+l.length→ ∃s s',sc[j3 x.ai i]? =some s∧sc[j3 x.ai i+1]? =some s'∧fR r s∧fR r s'∧s.ah.getD w 0∉r.seen∧s'.ah.getD w 0∉r.seen) (Q:GX→bN→Prop): ∀(k i:Nat) (n:Int),i+k=x.ai.length→n=(if i=0 then 0 else (j3 x.ai (i-1):Int)+1)→(i=0∨j3 x.ai (i-1)≤i)→
  Q (.exit 0) ⟨[(8,aP)],[(4,aR r),(9,aR x)]::H,148⟩→
  gS KC au 41 (lp Tryz.f41 0) [3,4,9,11,13,14,15,16] [8] Q
   [(3, .pure (.slice (l.map ak.row))),(4, .ay (H.length,4) 0),(9, .ay (H.length,9) 0),(11, .pure (.slice (sc.map aw.row))),(13, .pure (.int .i64 m)),(14, .pure (.int .i64 n)),(15, .pure (.int .i64 w)),(16, .pure (.int .i64 i))] ([(4,aR r),(9,aR x)]::H) 148:=by
 intro k
 induction k with
 |zero=>
  intro i n hi hn hb h1;have hnl: ¬i<x.ai.length:=(by omega);apply ax;conv=>arg 4;whnf
  simp [aR,hnl];simpa [aR]using h1
 |succ k ih=>
  intro i n hi hn hb h1;have hia:i<x.ai.length:=(by omega);have hw1:=dh (x:=(i:Int)+1) (by omega) (by omega);obtain⟨N,hN⟩: ∃N,j3 x.ai i=N:=⟨_,rfl⟩;obtain⟨t,htt⟩: ∃t,x.ai[i].a7=t:=⟨_,rfl⟩;have htr:=ht _ (List.getElem_mem hia);rw [htt]at htr;have hwm:=dh (x:=m+(l.length:Int)) (by omega) (by omega);obtain⟨NN,hNN⟩: ∃NN,NN=N+1:=⟨_,rfl⟩;have hNb:N≤i:=by
   have key: ∀j,j3 x.ai j≤j:=fun j=>by
    induction j with
    |zero=>exact Nat.le_refl _
    |succ j ih=>
     unfold j3;split<;>omega
   rw [←hN];exact key i
  have hstep:(i=0∧IntKind.i64.wrap (n+1)=NN)∨(∃q,i=q+1∧ ∃u,(∀h:q<x.ai.length,(x.ai[q]'h).a7=u)∧((¬t=u∧IntKind.i64.wrap (n+1)=NN)∨(t=u∧n=NN))):=by
   rcases Nat.eq_zero_or_pos i with rfl|hpos
   ·refine .inl ⟨rfl, ?_⟩;rw [hn,if_pos rfl,hNN,←hN];rfl
   ·obtain⟨q,rfl⟩: ∃q,i=q+1:=⟨i-1,by omega⟩;have hq:q<x.ai.length:=(by omega);refine .inr ⟨q,rfl,(x.ai[q]'hq).a7,fun _=>rfl, ?_⟩;rw [if_neg (by omega),Nat.add_sub_cancel]at hn;unfold j3 at hN;rw [aM hia,aM hq,htt]at hN;by_cases e:t=(x.ai[q]'hq).a7
    ·rw [if_neg (by simpa using e)]at hN;exact .inr ⟨e,by omega⟩
    ·rw [if_pos e]at hN;exact .inl ⟨e,by rw [dh (by omega) (by omega)];omega⟩
  have ih':=ih (i+1) (NN:Int) (by omega) (by rw [if_neg (by omega),Nat.add_sub_cancel,hN,hNN];rfl) (.inr (by rw [Nat.add_sub_cancel,hN];omega)) h1;have hwN:IntKind.i64.wrap ((NN:Int)-1)=N:=(by rw [dh (by omega) (by omega)];omega);by_cases hr:m<t∧t≤m+l.length
  ·obtain⟨s,s',q1,q2,q3,q4,q5,q6⟩:=hsc i hia (by rw [htt];exact hr.1) (by rw [htt];exact hr.2);rw [hN]at q1 q2;rw [←hNN]at q2;obtain⟨b1,e1⟩:=List.getElem?_eq_some_iff.1 q1;obtain⟨b2,e2⟩:=List.getElem?_eq_some_iff.1 q2;have S1:=fun(c:Nat) (H:aj) (hH:0<H.length)=>AH (c:=c) (H:=H) (g1:= .pure (.agg r.row)) (g2:= .pure (.agg s.row)) q3 hw0 (by omega) sh.p sh.t rfl rfl hH;have S2:=fun(c:Nat) (H:aj) (hH:0<H.length)=>AH (c:=c) (H:=H) (g1:= .pure (.agg r.row)) (g2:= .pure (.agg s'.row)) q4 hw0 (by omega) sh.p sh.t rfl rfl hH;have p1:w<s.ah.length:=(by rw [q3.pl];exact hw);have p2:w<s'.ah.length:=(by rw [q4.pl];exact hw);rw [aM p1]at q5;rw [aM p2]at q6;have H1:=fun(c:Nat) (H:aj) (hH:0<H.length)=>Cw (c:=c) (H:=H) r.seen s.ah[w] sh.s hH;have H2:=fun(c:Nat) (H:aj) (hH:0<H.length)=>Cw (c:=c) (H:=H) r.seen s'.ah[w] sh.s hH;have g5:r.seen.contains s.ah[w]=false:=(by simpa using q5);have g6:r.seen.contains s'.ah[w]=false:=(by simpa using q6);rw [g5]at H1;rw [g6]at H2;have c1: ¬t≤m:=(by omega);have c2: ¬m+(l.length:Int)<t:=(by omega);have c3: ¬sc.length≤NN:=(by omega);have c3': ¬(sc.length:Int)≤(NN:Int):=(by omega);rw [eE]at S1 S2;unfold aw.row at S1 S2;simp only [aR]at ih'⊢;rcases hstep with ⟨rfl,hn1⟩|⟨q,hiq,u,hu,(⟨hne,hn1⟩|⟨heq,hn1⟩)⟩
   ·apply ax;conv=>arg 4;whnf
    rw [wp_seq];generalize hq:iS _ _=Q2;simp [hia];subst hq;simp only [bX];rw [wp_seq,wp_block,wp_seq];generalize hq:iS _ _=Q2;simp [hia,htt,hn1];subst hq;simp only [bX];rw [wp_seq];generalize hq:iS _ _=Q2;simp [hia,htt,hwm,ak.row,c1,c2];subst hq;simp only [bX];simp [hwN,c3,c3',e1,e2,b1,b2,S1,S2,H1,H2,p1,p2,aG,aw.row,hw1];simpa using ih'
   ·have hq0:q<x.ai.length:=(by omega);have he0:((i:Int)==0)=false:=(by simp;omega);have hi0: ¬i=0:=(by omega);have hwq:IntKind.i64.wrap ((i:Int)-1)=q:=(by rw [dh (by omega) (by omega)];omega);have hu':=hu hq0;apply ax;conv=>arg 4;whnf
    rw [wp_seq];generalize hq:iS _ _=Q2;simp [hia];subst hq;simp only [bX];rw [wp_seq,wp_block,wp_seq];generalize hq:iS _ _=Q2;simp [hia,htt,hn1,hi0,he0,hwq,hu',hne,hq0,ak.row];subst hq;simp only [bX];rw [wp_seq];generalize hq:iS _ _=Q2;simp [hia,htt,hwm,ak.row,c1,c2];subst hq;simp only [bX];simp [hwN,c3,c3',e1,e2,b1,b2,S1,S2,H1,H2,p1,p2,aG,aw.row,hw1];simpa using ih'
   ·have hq0:q<x.ai.length:=(by omega);have he0:((i:Int)==0)=false:=(by simp;omega);have hi0: ¬i=0:=(by omega);have hwq:IntKind.i64.wrap ((i:Int)-1)=q:=(by rw [dh (by omega) (by omega)];omega);have hu':=hu hq0;apply ax;conv=>arg 4;whnf
    rw [wp_seq];generalize hq:iS _ _=Q2;simp [hia];subst hq;simp only [bX];rw [wp_seq,wp_block,wp_seq];generalize hq:iS _ _=Q2;simp [hia,htt,hn1,hi0,he0,hwq,hu',heq,hq0,ak.row];subst hq;simp only [bX];rw [wp_seq];generalize hq:iS _ _=Q2;simp [hia,htt,hwm,ak.row,c1,c2];subst hq;simp only [bX];simp [hwN,c3,c3',e1,e2,b1,b2,S1,S2,H1,H2,p1,p2,aG,aw.row,hw1];simpa using ih'
  ·simp only [aR]at ih'⊢;by_cases c1:t≤m
   ·rcases hstep with ⟨rfl,hn1⟩|⟨q,hiq,u,hu,(⟨hne,hn1⟩|⟨heq,hn1⟩)⟩
    ·apply ax;conv=>arg 4;whnf
     rw [wp_seq];generalize hq:iS _ _=Q2;simp [hia];subst hq;simp only [bX];rw [wp_seq,wp_block,wp_seq];generalize hq:iS _ _=Q2;simp [hia,htt,hn1];subst hq;simp only [bX];rw [wp_seq];generalize hq:iS _ _=Q2;simp [hia,htt,hwm,ak.row,c1];subst hq;simp [hw1];simpa using ih'
    ·have hq0:q<x.ai.length:=(by omega);have he0:((i:Int)==0)=false:=(by simp;omega);have hi0: ¬i=0:=(by omega);have hwq:IntKind.i64.wrap ((i:Int)-1)=q:=(by rw [dh (by omega) (by omega)];omega);have hu':=hu hq0;apply ax;conv=>arg 4;whnf
     rw [wp_seq];generalize hq:iS _ _=Q2;simp [hia];subst hq;simp only [bX];rw [wp_seq,wp_block,wp_seq];generalize hq:iS _ _=Q2;simp [hia,htt,hn1,hi0,he0,hwq,hu',hne,hq0,ak.row];subst hq;simp only [bX];rw [wp_seq];generalize hq:iS _ _=Q2;simp [hia,htt,hwm,ak.row,c1];subst hq;simp [hw1];simpa using ih'
    ·have hq0:q<x.ai.length:=(by omega);have he0:((i:Int)==0)=false:=(by simp;omega);have hi0: ¬i=0:=(by omega);have hwq:IntKind.i64.wrap ((i:Int)-1)=q:=(by rw [dh (by omega) (by omega)];omega);have hu':=hu hq0;apply ax;conv=>arg 4;whnf
     rw [wp_seq];generalize hq:iS _ _=Q2;simp [hia];subst hq;simp only [bX];rw [wp_seq,wp_block,wp_seq];generalize hq:iS _ _=Q2;simp [hia,htt,hn1,hi0,he0,hwq,hu',heq,hq0,ak.row];subst hq;simp only [bX];rw [wp_seq];generalize hq:iS _ _=Q2;simp [hia,htt,hwm,ak.row,c1];subst hq;simp [hw1];simpa using ih'
   ·have c2:m+(l.length:Int)<t:=(by omega);rcases hstep with ⟨rfl,hn1⟩|⟨q,hiq,u,hu,(⟨hne,hn1⟩|⟨heq,hn1⟩)⟩
    ·apply ax;conv=>arg 4;whnf
     rw [wp_seq];generalize hq:iS _ _=Q2;simp [hia];subst hq;simp only [bX];rw [wp_seq,wp_block,wp_seq];generalize hq:iS _ _=Q2;simp [hia,htt,hn1];subst hq;simp only [bX];rw [wp_seq];generalize hq:iS _ _=Q2;simp [hia,htt,hwm,ak.row,c1,c2];subst hq;simp [hw1];simpa using ih'
    ·have hq0:q<x.ai.length:=(by omega);have he0:((i:Int)==0)=false:=(by simp;omega);have hi0: ¬i=0:=(by omega);have hwq:IntKind.i64.wrap ((i:Int)-1)=q:=(by rw [dh (by omega) (by omega)];omega);have hu':=hu hq0;apply ax;conv=>arg 4;whnf
     rw [wp_seq];generalize hq:iS _ _=Q2;simp [hia];subst hq;simp only [bX];rw [wp_seq,wp_block,wp_seq];generalize hq:iS _ _=Q2;simp [hia,htt,hn1,hi0,he0,hwq,hu',hne,hq0,ak.row];subst hq;simp only [bX];rw [wp_seq];generalize hq:iS _ _=Q2;simp [hia,htt,hwm,ak.row,c1,c2];subst hq;simp [hw1];simpa using ih'
    ·have hq0:q<x.ai.length:=(by omega);have he0:((i:Int)==0)=false:=(by simp;omega);have hi0: ¬i=0:=(by omega);have hwq:IntKind.i64.wrap ((i:Int)-1)=q:=(by rw [dh (by omega) (by omega)];omega);have hu':=hu hq0;apply ax;conv=>arg 4;whnf
     rw [wp_seq];generalize hq:iS _ _=Q2;simp [hia];subst hq;simp only [bX];rw [wp_seq,wp_block,wp_seq];generalize hq:iS _ _=Q2;simp [hia,htt,hn1,hi0,he0,hwq,hu',heq,hq0,ak.row];subst hq;simp only [bX];rw [wp_seq];generalize hq:iS _ _=Q2;simp [hia,htt,hwm,ak.row,c1,c2];subst hq;simp [hw1];simpa using ih'
end
section
variable {c:Nat} {H:aj}
theorem H4 {r:aA}{k:Nat}{kind:Int}(hc:cB r=0)(h:jq r k kind):AA r k kind=0:=by
 have hk:=h.kd;refine Eh (by rw [oD,if_pos hc];exact h.ok) h.lt (by omega) ?_;rintro⟨e1,e2⟩;rw [h.get]at e2;exact h.hand e1 e2
theorem MT {r:aA}{k:Nat}{kind:Int}{l:List ak}(hc:cB r=0)(h:jq r k kind)(ho:iE r k kind=some l):E8 r k kind l= .tuple [.agg (kE r k kind l).row, .int .i64 0]:=by
 obtain⟨l3,hall,_,_⟩:=lg h ho;have e:TD r k kind l=0:=by
  unfold TD;rw [H4 hc h,if_neg (by simp),if_neg (by omega),Int.toNat_natCast,h.get];exact HW h hall
 unfold E8;rw [e,if_neg (by simp),Int.toNat_natCast];rfl
theorem H5 {r:aA}{k:Nat}{kind:Int}{l:List ak}(sh:iG r)(hc:cB r=0)(h:jq r k kind)(ho:iE r k kind=some l)(hn:r.ai.length≤20)(ht: ∀a∈r.ai,a.a7≤100)(hH:0<H.length):
  aL KC (aE KC) 41 [.pure (.agg r.row), .pure (.int .i64 k), .pure (.int .i64 kind), .pure (.slice (l.map ak.row))] c H=some (.pure (.bool true),H):=by
 refine aO (bf KC au Tryz.func41 rfl rfl SU rfl rfl rfl (by simp) hH ?_);obtain⟨l3,hall,_,_⟩:=lg h ho;have hx0:=xJ h hc (by omega) ht l3 hall;have hx1:=HX h ho;have hxl:(kE r k kind l).ai.length≤40:=by
  show (fg _ _ _).length≤40
  rw [yV];have:=oy h;omega
 have sx:iG (kE r k kind l):=⟨sh.p,sh.t,sh.s,sh.l,by omega⟩;have D:=fun(c:Nat) (H:aj) (hH:0<H.length)=>(lf (f:=29) (c:=c) (H:=H) rfl rfl rfl [.agg r.row, .int .i64 k, .int .i64 kind, .slice (l.map ak.row)]).trans (vA (c:=c) sh (fun _=>hn) k kind (mend:=l) (by omega) hH);rw [MT hc h ho]at D;have S:=fun(c:Nat) (H:aj) (hH:0<H.length)=>(lf (f:=17) (c:=c) (H:=H) rfl rfl rfl [.agg (kE r k kind l).row]).trans (AL (c:=c) sx hH);have es:MU (kE r k kind l)= .tuple [.slice ((dw (kE r k kind l)).1.map aw.row), .int .i64 0]:=by
  unfold MU;rw [if_pos hx0,if_pos hx1]
 rw [es]at S;have ar:=h.qm;have A:=(uE hx0).2;have hwl:=h.wl;have hab:=h.run.ab _ (List.getElem_mem h.lt);have hwho:(r.ai[k]'h.lt).aN=bS r k:=by
  unfold bS;rw [h.get];exact hab.aN
 have hm0:=vB h;have hLM:eG r k kind=(r.ai[k]'h.lt).a7+if kind=3 then 1 else 0:=(by unfold eG;rw [h.get]);have hta:=h.tm _ (List.getElem_mem h.lt);have L:=fun Q hQ=>Cy (H:=H) (r:=r) (x:=kE r k kind l) (l:=l) (m:=eG r k kind) (w:=bS r k) (sc:=(dw (kE r k kind l)).1) sh (by omega) (by omega) (by omega) (by omega) (fun a ha=>by have:=A.tm a ha;omega) (by omega) hwl (fun i hi h1 h2=>HZ h ho hi h1 h2) Q (kE r k kind l).ai.length 0 0 (by omega) rfl (.inl rfl) hQ;generalize (dw (kE r k kind l)).1=sc at S L;generalize kE r k kind l=x at D S L sx;obtain⟨tm,htm⟩: ∃tm,(r.ai[k]'h.lt).a7=tm:=⟨_,rfl⟩;rw [htm]at hLM hta;have hlt:=h.lt;simp only [aR]at L;simp only [List.map_cons,List.map_nil]at D S;rw [eE]at D⊢;rw [eE]at D;rw [eE]at S;by_cases k3:kind=3
 ·rw [if_pos k3]at hLM;have hwt:IntKind.i64.wrap (tm+1)=eG r k kind:=(by rw [hLM];exact dh (by omega) (by omega));subst k3;simp [D,S,hlt,htm,hwho,hwt,ak.row,aD];refine L _ ?_;simp [ae]
 ·rw [if_neg k3,Int.add_zero]at hLM;rw [hLM]at L;simp [D,S,hlt,htm,hwho,k3,ak.row,aD];refine L _ ?_;simp [ae]
end
noncomputable def Xp (r:aA)(w:Nat)(fin:aw→List ak→Bool):aw→List ak→List ak→Bool
 |s,l,[]=>fin s l
 |s,l,a::q=>m6 r s w a && Xp r w fin (cR s w a) (l++[a]) q
def Ei:List Nat→List Nat→Prop
 | [],[]=>True
 |a::l,b::m=>a<b∨(a=b∧Ei l m)
 |_,_=>False
theorem vE {α β:Type}{f:α→Option β}: ∀{l:List α} {i:Nat} (h:i<l.length),(f l[i]).isSome=true→ ∃j,∃hj:j<l.length,j≤i∧(f l[j]).isSome=true∧l.findSome? f=f l[j]
 | [],i,h,_=>by simp at h
 |a::l,0,h,hs=>⟨0,by simp,Nat.le_refl _,hs,by
  rw [List.findSome?_cons];simp only [List.getElem_cons_zero]at hs⊢
  cases e:f a with
  |none=>rw [e]at hs;cases hs
  |some b=>rfl⟩
 |a::l,i+1,h,hs=>by
  rw [List.findSome?_cons]
  cases e:f a with
  |some b=>exact⟨0,by simp,Nat.zero_le _,by simp [e],by simp [e]⟩
  |none=>
   obtain⟨j,hj,h1,h2,h3⟩:=vE (l:=l) (i:=i) (by simpa using h) (by simpa using hs);exact⟨j+1,by simpa using hj,by omega,by simpa using h2,by simpa using h3⟩
theorem H6 {all:List ak}: ∀{t:List ak},(∀a∈t,a∈all)→ ∃is:List Nat,is.length=t.length∧(∀i∈is,i<all.length)∧is.map (all.getD · bH)=t
 | [],_=>⟨[],rfl,by simp,rfl⟩
 |a::t,h=>by
  obtain⟨is,h1,h2,h3⟩:=H6 (t:=t) fun b hb=>h b (by simp [hb]);obtain⟨i,hi,e⟩:=List.getElem_of_mem (h a (by simp));refine⟨i::is,by simp [h1],fun j hj=> ?_,by rw [List.map_cons,h3,aM hi,e]⟩;rcases List.mem_cons.1 hj with rfl|hj
  ·exact hi
  ·exact h2 j hj
theorem sM {r:aA}{w:Nat}{all:List ak}{fin:aw→List ak→Bool}: ∀(n:Nat) (s:aw) (l:List ak) (is:List Nat),is.length=n→(∀i∈is,i<all.length)→Xp r w fin s l (is.map (all.getD · bH))=true→
  ∃is',is'.length=n∧Ei is' is∧(∀i∈is',i<all.length)∧uC r w all fin n s l=some (l++is'.map (all.getD · bH))
 |0,s,l,is,hl,_,h=>by
  have:is=[]:=List.length_eq_zero_iff.1 hl;subst this;refine⟨[],rfl,trivial,by simp, ?_⟩;have h':fin s l=true:=h;unfold uC;rw [if_pos h'];simp
 |n+1,s,l,[],hl,_,_=>by simp at hl
 |n+1,s,l,i::t,hl,hi,h=>by
  have hil:i<all.length:=hi i (by simp);have h':(m6 r s w (all.getD i bH) && Xp r w fin (cR s w (all.getD i bH)) (l++[all.getD i bH]) (t.map (all.getD · bH)))=true:=h;rw [Bool.and_eq_true,aM hil]at h';obtain⟨hu,ho⟩:=h';obtain⟨is2,a1,a2,a3,a4⟩:=sM n _ _ t (by simpa using hl) (fun j hj=>hi j (by simp [hj])) ho;have hsome:((fun a=>if m6 r s w a=true then uC r w all fin n (cR s w a) (l++[a])else none) all[i]).isSome=true:=by
   simp only;rw [if_pos hu,a4];rfl
  obtain⟨j,hj,hji,hs,e⟩:=vE (f:=fun a=>if m6 r s w a=true then uC r w all fin n (cR s w a) (l++[a])else none) hil hsome;unfold uC;rcases Nat.lt_or_eq_of_le hji with hlt|heq
  ·rw [e];by_cases hu2:m6 r s w all[j]=true
   ·rw [if_pos hu2]at hs⊢;obtain⟨b,hb⟩:=Option.isSome_iff_exists.1 hs;obtain⟨b1,t',b2,b3⟩:=uG _ _ _ _ hb;obtain⟨is3,c1,c2,c3⟩:=H6 b3;have ht:t'.length=n:=by
     have:=congrArg List.length b2;rw [List.length_append]at this;omega
    refine⟨j::is3,by simp [c1,ht], .inl hlt,fun x hx=> ?_, ?_⟩
    ·rcases List.mem_cons.1 hx with rfl|hx
     ·exact hj
     ·exact c2 x hx
    ·rw [hb,b2,List.map_cons,c3,aM hj];simp
   ·rw [if_neg hu2]at hs;cases hs
  ·subst heq;rw [e,if_pos hu,a4];refine⟨j::is2,by simp [a1], .inr ⟨rfl,a2⟩,fun x hx=> ?_, ?_⟩
   ·rcases List.mem_cons.1 hx with rfl|hx
    ·exact hj
    ·exact a3 x hx
   ·rw [List.map_cons,aM hj];simp
def Fc (d:Int)(a:ak):ak:={a with a7:=a.a7+d}
theorem Ej {r:aA}{w:Nat}{m:Int}{B:List ak}(hsn:r.seen=[]): ∀(q:List ak) (s:aw) (l:List ak) (i:Nat),(∀a∈q,a.aN=w)→(∀b∈B,m+(l.length+q.length:Nat)<b.a7+(l.length+q.length:Nat))→
  (bw r (bI (m+l.length) q++B.map (Fc (l.length+q.length:Nat))).length s (bI (m+l.length) q++B.map (Fc (l.length+q.length:Nat))) i).2.2.2=0→
  og r (bw r (bI (m+l.length) q++B.map (Fc (l.length+q.length:Nat))).length s (bI (m+l.length) q++B.map (Fc (l.length+q.length:Nat))) i).2.1=true→
  Xp r w (lE r B) s l q=true
 | [],s,l,i,hw,hB,he,ho=>by
  have sh: ∀a:ak,∃t,Fc ((l.length+([]:List ak).length:Nat):Int) a=setAt a t:=fun a=>⟨_,rfl⟩;simp only [bI,List.nil_append,List.length_map]at he ho;rw [vF sh (fun a b=>by unfold Fc;simp only;omega)]at he ho;obtain⟨_,i2,i3⟩:=u9 (r:=r) B.length s B i 0;show lE r B s l=true
  unfold lE;rw [←i3,he,←i2,ho];rfl
 |a::q,s,l,i,hw,hB,he,ho=>by
  have hwa:a.aN.toNat=w:=(by rw [hw a (by simp)];rfl);obtain⟨R,hR⟩: ∃R,(bI (m+(l.length+1:Nat)) q++B.map (Fc (l.length+(a::q).length:Nat)))=R:=⟨_,rfl⟩;have eX:(bI (m+l.length) (a::q)++B.map (Fc (l.length+(a::q).length:Nat)))=[setAt a (m+l.length+1)]++R:=by
   rw [←hR];simp only [bI,List.cons_append,List.nil_append];rw [show m+(l.length:Int)+1=m+((l.length+1:Nat):Int)by omega]
   rfl
  rw [eX]at he ho;have hne: ∀x∈[setAt a (m+l.length+1)],∀y∈R,x.a7≠y.a7:=fun x hx y hy=>by
   rw [List.mem_singleton.1 hx];have e1:(setAt a (m+l.length+1)).a7=m+l.length+1:=rfl;rw [e1];rw [←hR]at hy;rcases List.mem_append.1 hy with hy|hy
   ·have:=fN hy;omega
   ·obtain⟨b,hb,rfl⟩:=List.mem_map.1 hy;have:=hB b hb;unfold Fc;simp only [List.length_cons]at this⊢;omega
  have A:=fU (r:=r) 1 ([setAt a (m+l.length+1)]++R).length R.length s [setAt a (m+l.length+1)] R i (by simp) (Nat.le_refl _) (Nat.le_refl _) hne;have h1:(bw r 1 s [setAt a (m+l.length+1)] i).2.2.2=0:=by
   rcases Decidable.em ((bw r 1 s [setAt a (m+l.length+1)] i).2.2.2=0)with e|e
   ·exact e
   ·rw [A,if_pos e]at he;exact he
  have hp:bV r s w a=true:=by
   cases e:bV r s w a with
   |true=>rfl
   |false=>
    exfalso;have e2:bV r s (setAt a (m+l.length+1)).aN.toNat (setAt a (m+l.length+1))=false:=by
     show bV r s a.aN.toNat _=false
     rw [hwa,jD];exact e
    have et:[setAt a (m+l.length+1)].takeWhile (aY (setAt a (m+l.length+1)))=[setAt a (m+l.length+1)]:=by
     simp [List.takeWhile_cons,aY]
    have em:cJ r s [setAt a (m+l.length+1)] [] s 0=(s,0,10):=by
     unfold cJ;rw [if_pos e2];rfl
    rw [eA,et,em]at h1;simp at h1
  have hone:=AM (r:=r) (s:=s) (a:=setAt a (m+l.length+1)) (k:=0) (i:=i) (by show bV r s a.aN.toNat _=true;rw [hwa,jD];exact hp)
  rw [if_neg (by simpa using h1)]at A;have hone':(bw r 1 s [setAt a (m+l.length+1)] i).2.1=cR s w a:=by
   rw [hone];show cR s a.aN.toNat _=_
   rw [hwa,sN]
  rw [hone']at A;rw [A]at he ho;have hu:m6 r s w a=true:=by
   rw [rK,hp,hsn,j4];rfl
  have e4:l.length+(a::q).length=(l++[a]).length+q.length:=(by simp;omega);have e5:(l++[a]).length=l.length+1:=by simp
  have ih:=Ej (r:=r) (w:=w) (m:=m) (B:=B) hsn q (cR s w a) (l++[a]) (i+[setAt a (m+l.length+1)].length) (fun b hb=>hw b (by simp [hb])) (by rw [←e4];exact hB)
   (by rw [←e4,e5,hR];exact he) (by rw [←e4,e5,hR];exact ho)
  show (m6 r s w a && Xp r w (lE r B) (cR s w a) (l++[a]) q)=true
  rw [hu,ih];rfl
theorem vG {r:aA}{k:Nat}{kind:Int}(h:jq r k kind)(hsn:r.seen=[]){q:List ak}(hq: ∀a∈q,a.aN=bS r k)(he:(dw (kE r k kind q)).2.2.2=0):
  (yU r k kind).2.2.2=0∧Xp r (bS r k) (lE r (behind (eG r k kind) (dp r k kind))) (yU r k kind).2.1 [] q=true:=by
 obtain⟨m,hm⟩: ∃m,eG r k kind=m:=⟨_,rfl⟩;have hX:(kE r k kind q).ai=cA m (dp r k kind)++(bI m q++(behind m (dp r k kind)).map (Fc (q.length:Nat))):=by
  unfold kE fg;simp only [hm,List.append_assoc];rfl
 have hrun:(bw r (kE r k kind q).ai.length (aF r) (kE r k kind q).ai 0).2.2.2=0∧og r (bw r (kE r k kind q).ai.length (aF r) (kE r k kind q).ai 0).2.1=true:=by
  unfold dw at he;simp only at he;unfold kE at he⊢;simp only [mF,sL]at he;have ef:aF {r with ai:=fg (eG r k kind) (dp r k kind) q}=aF r:=rfl;rw [ef]at he;split at he
  ·simp at he
  ·rename_i x;refine⟨he, ?_⟩
   cases ho:og r (bw r (fg (eG r k kind) (dp r k kind) q).length (aF r) (fg (eG r k kind) (dp r k kind) q) 0).2.1 with
   |true=>rfl
   |false=>exact absurd ⟨he,ho⟩ x
 rw [hX]at hrun;obtain⟨r1,r2⟩:=hrun;have hB: ∀b∈behind m (dp r k kind),m<b.a7:=fun b hb=>mE (uF h) hb;have A:=fU (r:=r) (cA m (dp r k kind)).length _ (bI m q++(behind m (dp r k kind)).map (Fc (q.length:Nat))).length (aF r) (cA m (dp r k kind)) (bI m q++(behind m (dp r k kind)).map (Fc (q.length:Nat))) 0 (Nat.le_refl _) (Nat.le_refl _) (Nat.le_refl _) (fun x hx y hy=>by
  have h1:=pC hx;rcases List.mem_append.1 hy with hy|hy
  ·have:=fN hy;omega
  ·obtain⟨b,hb,rfl⟩:=List.mem_map.1 hy;have:=hB b hb;unfold Fc;simp only;omega)
 have hU:(bw r (cA m (dp r k kind)).length (aF r) (cA m (dp r k kind)) 0).2.2.2=0:=by
  rcases Decidable.em ((bw r (cA m (dp r k kind)).length (aF r) (cA m (dp r k kind)) 0).2.2.2=0)with e|e
  ·exact e
  ·rw [A,if_pos e]at r1;exact r1
 rw [if_neg (by simpa using hU)]at A;rw [A]at r1 r2;refine⟨by unfold yU;rw [hm];exact hU, ?_⟩;unfold yU;rw [hm];have P:=Ej (r:=r) (w:=bS r k) (m:=m) (B:=behind m (dp r k kind)) hsn q (bw r (cA m (dp r k kind)).length (aF r) (cA m (dp r k kind)) 0).2.1 [] (0+(cA m (dp r k kind)).length) hq (fun b hb=>by have:=hB b hb;omega);simp only [List.length_nil,Nat.zero_add,Int.natCast_zero,Int.add_zero]at P;simp only [Nat.zero_add]at r1 r2;exact P r1 r2
theorem H7 {α β:Type}{f:α→Option β}{l:List α}{b:β}(h:l.findSome? f=some b): ∃l1 a l2,l=l1++a::l2∧f a=some b∧ ∀x∈l1,f x=none:=List.findSome?_eq_some_iff.1 h
theorem Cz {r:aA}{k:Nat}{kind:Int}(h:jq r k kind)(hsn:r.seen=[])(ho:iE r k kind=none){is:List Nat}(hl:is.length≤3)(hi: ∀i∈is,i<(bP r (bS r k)).length):
  (dw (kE r k kind (is.map ((bP r (bS r k)).getD · bH)))).2.2.2≠0:=fun he=>by
 have hall: ∀a∈is.map ((bP r (bS r k)).getD · bH),a∈bP r (bS r k):=fun a ha=>by
  obtain⟨i,hi1,rfl⟩:=List.mem_map.1 ha;rw [aM (hi i hi1)];exact List.getElem_mem _
 obtain⟨h1,h2⟩:=vG h hsn (fun a ha=>(oC (by have:=h.qm;omega) h.wl (hall a ha)).1.aN) he;obtain⟨is',_,_,_,e⟩:=sM is.length _ [] is rfl hi h2;unfold iE Az at ho;rw [if_neg (by simpa using h1)]at ho;have:=List.findSome?_eq_none_iff.1 ho is.length (by simp;omega);rw [e]at this;cases this
theorem CA {r:aA} {k:Nat} {kind:Int} {l:List ak} (h:jq r k kind) (hsn:r.seen=[]) (ho:iE r k kind=some l) {is:List Nat} (hl:is.length≤l.length) (hi: ∀i∈is,i<(bP r (bS r k)).length)
  (he:(dw (kE r k kind (is.map ((bP r (bS r k)).getD · bH)))).2.2.2=0): ∃is',is'.length=is.length∧Ei is' is∧(∀i∈is',i<(bP r (bS r k)).length)∧l=is'.map ((bP r (bS r k)).getD · bH):=by
 have hall: ∀a∈is.map ((bP r (bS r k)).getD · bH),a∈bP r (bS r k):=fun a ha=>by
  obtain⟨i,hi1,rfl⟩:=List.mem_map.1 ha;rw [aM (hi i hi1)];exact List.getElem_mem _
 obtain⟨h1,h2⟩:=vG h hsn (fun a ha=>(oC (by have:=h.qm;omega) h.wl (hall a ha)).1.aN) he;obtain⟨is',b1,b2,b3,e⟩:=sM is.length _ [] is rfl hi h2;unfold iE Az at ho;rw [if_neg (by simpa using h1)]at ho;obtain⟨l1,n,l2,e1,e2,e3⟩:=H7 ho;have hn:=(uG _ _ _ _ e2).1;simp only [List.length_nil,Nat.zero_add]at hn;have hlen:is.length=n:=by
  rcases Nat.lt_or_eq_of_le hl with q|q
  ·exfalso;have hnr:n∈List.range 4:=(by rw [e1];simp);have hn4:n<4:=List.mem_range.1 hnr;have hpos:l1=List.range n:=by
    have g1:l1.length<(List.range 4).length:=(by rw [e1];simp);have g2:(List.range 4)[l1.length]'g1=n:=(by simp only [e1];rw [List.getElem_append_right (Nat.le_refl _)];simp);rw [List.getElem_range]at g2;have g3:l1=(List.range 4).take l1.length:=(by rw [e1];simp);rw [g3,g2,List.take_range];congr 1;omega
   have:=e3 is.length (by rw [hpos];simp;omega);rw [e]at this;cases this
  ·omega
 rw [hlen,e2]at e;refine⟨is',b1,b2,b3, ?_⟩;have:=Option.some.inj e;simpa using this
section
variable {c:Nat} {H:aj}
theorem CB {r:aA}{k kind:Int}{all:List ak}{is:List Nat}(hi: ∀i∈is,i<all.length)(hl:is.length≤1000){nm:Nm}{v:Nat}(hg:H.get nm=some (.arr 1 (is.map fun(i:Nat)=>aG i) v false))(hv:v≤is.length)(Q:GX→bN→Prop): ∀(n j:Nat) (q:List ak),j+n=is.length→q=(is.take j).map (all.getD · bH)→
  Q (.exit 0) ⟨[(1, .pure (.int .i64 k)),(2, .pure (.int .i64 kind)),(5, .ay (H.length,5) 0),(11,dG (H.length,33) 9 ((is.map (all.getD · bH)).map ak.row))],fX 33 9 ((is.map (all.getD · bH)).map ak.row) [(5,aR r)]::H,52⟩→
  gS KC au 43 (lp Tryz.f43 0) [1,2,3,4,5,11,12] [1,2,5,11] Q
   [(1, .pure (.int .i64 k)),(2, .pure (.int .i64 kind)),(3, .pure (.slice (all.map ak.row))),(4, .a8 nm 1 is.length 0 is.length),(5, .ay (H.length,5) 0),(11,dG (H.length,33) 9 (q.map ak.row)),(12, .pure (.int .i64 j))] (fX 33 9 (q.map ak.row) [(5,aR r)]::H) 52:=by
 have hlt:nm.1<H.length:=aj.bL hg;have ne1: ¬nm.1=H.length:=(by omega);have ne2: ¬nm.1=H.length+1:=(by omega);have hle:nm.1≤H.length:=(by omega);intro n
 induction n with
 |zero=>
  intro j q hj hq h1;have hjj:j=is.length:=(by omega);subst hjj;rw [List.take_length]at hq;subst hq;apply ax;conv=>arg 4;whnf
  simp;simpa using h1
 |succ n ih=>
  intro j q hj hq h1;have hjl:j<is.length:=(by omega);have hw:=dh (x:=(j:Int)+1) (by omega) (by omega);have hij:=hi _ (List.getElem_mem hjl);obtain⟨i,hii⟩: ∃i,is[j]=i:=⟨_,rfl⟩;rw [hii]at hij;have ih':=ih (j+1) (q++[all[i]]) (by omega) (by rw [List.take_succ_eq_append_getElem hjl,List.map_append,hq,hii,List.map_singleton,aM hij]) h1;have hql:q.length=j:=(by rw [hq];simp;omega);have hbb:(q.length+1)*72≤1099511627776:=(by omega);have AP:=fun(f0:Fr)=>G6 (H:=H) (l:=H.length) (key:=33) (es:=9) (bytes:=72) (rows:=q.map ak.row) (r:=ak.row all[i]) (fr:=[(5,aR r)]) (f0:=f0) rfl rfl (by simpa using hbb);simp only [ak.row,aR]at AP;simp only [aR]at ih'⊢;apply ax;conv=>arg 4;whnf
  simp [hjl,hg,hv,hii,hij,hw,ne1,ne2,hle,aG,ak.row,AP];simpa [ak.row]using ih'
theorem H8 {l k es:Nat}{rows:List (List PV)}:HL l (dG (l,k) es rows):=by
 unfold dG;split
 ·exact fun _ _ _ _ _ e=>by cases e
 ·exact fun _ _ _ _ _ e=>by cases e;rfl
noncomputable def Xq (r:aA)(k:Nat)(kind:Int)(is:List Nat):Bool:=decide ((dw (kE r k kind (is.map ((bP r (bS r k)).getD · bH)))).2.2.2=0)
theorem MV {r:aA}{k:Nat}{kind:Int}{l:List ak}(hc:cB r=0)(h:jq r k kind)(l3:l.length≤3)(hall: ∀a∈l,a∈bP r (bS r k)):E8 r k kind l= .tuple [.agg (kE r k kind l).row, .int .i64 0]:=by
 have e:TD r k kind l=0:=by
  unfold TD;rw [H4 hc h,if_neg (by simp),if_neg (by omega),Int.toNat_natCast,h.get];exact HW h hall
 unfold E8;rw [e,if_neg (by simp),Int.toNat_natCast];rfl
theorem H9 {r:aA} {k:Nat} {kind:Int} (sh:iG r) (hc:cB r=0) (h:jq r k kind) (hn:r.ai.length≤20) (ht: ∀a∈r.ai,a.a7≤100) {is:List Nat} (hl:is.length≤3) (hi: ∀i∈is,i<(bP r (bS r k)).length)
  {nm:Nm} {v:Nat} (hg:H.get nm=some (.arr 1 (is.map fun(i:Nat)=>aG i) v false)) (hv:v≤is.length) (hH:0<H.length):
  aL KC (aE KC) 43 [.pure (.agg r.row), .pure (.int .i64 k), .pure (.int .i64 kind), .pure (.slice ((bP r (bS r k)).map ak.row)), .a8 nm 1 is.length 0 is.length] c H=some (.pure (.bool (Xq r k kind is)),H):=by
 obtain⟨q,hq⟩: ∃q,is.map ((bP r (bS r k)).getD · bH)=q:=⟨_,rfl⟩;have hql:q.length≤3:=(by rw [←hq];simpa using hl);have hall: ∀a∈q,a∈bP r (bS r k):=fun a ha=>by
  rw [←hq]at ha;obtain⟨i,hi1,rfl⟩:=List.mem_map.1 ha;rw [aM (hi i hi1)];exact List.getElem_mem _
 have hx0:=xJ h hc (by omega) ht hql hall;have hxl:(kE r k kind q).ai.length≤40:=by
  show (fg _ _ _).length≤40
  rw [yV];have:=oy h;omega
 have sx:iG (kE r k kind q):=⟨sh.p,sh.t,sh.s,sh.l,by omega⟩;have hlt:nm.1<H.length:=aj.bL hg;refine aO (ba KC au Tryz.func43 rfl rfl SV rfl rfl rfl (by simp) hH ?_);have L:=fun Q h1=>CB (H:=H) (r:=r) (k:=k) (kind:=kind) hi (by omega) hg hv Q is.length 0 [] (by omega) (by simp) h1;rw [hq]at L;have ed:Xq r k kind is=(uq (kE r k kind q)==0):=by
  unfold Xq;rw [hq,oD,if_pos hx0];rfl
 obtain⟨s,n,hs⟩:=Ia (r:=kE r k kind q);have R:=fun(c:Nat) (H:aj) (hH:0<H.length)=>(lf (f:=15) (c:=c) (H:=H) rfl rfl rfl [.agg (kE r k kind q).row]).trans (AN (c:=c) sx hH);rw [hs]at R;rw [ed];have rdq:Cr (fX 33 9 (q.map ak.row) [(5,aR r)]::H) (dG (H.length,33) 9 (q.map ak.row)) (.slice (q.map ak.row)):=Ib fun hne=>⟨0,false,by omega,by simp [dB hne]⟩;obtain⟨F3,r3,e3⟩:=rJ (f:=29) rfl rfl rfl [] (F:=fX 33 9 (q.map ak.row) [(5,aR r)]) (H:=H) (.rd (g:= .pure (.agg r.row)) rfl iY (.rd (g:= .pure (.int .i64 k)) rfl iY (.rd (g:= .pure (.int .i64 kind)) rfl iY (.Tx rdq rfl H8 .nil))));have M:=(e3 39).trans (vA (c:=39) (H:=[]++F3::H) sh (fun _=>hn) k kind (mend:=q) (by omega) (by simp));rw [MV hc h hql hall]at M;generalize kE r k kind q=x at R M sx;simp only [aR]at L M;simp only [List.map_cons,List.map_nil]at R;rw [eE]at M⊢;rw [eE]at M;rw [eE]at R;have nX:F3.get 13=none:=r3.none (by rw [cr (by decide)];rfl);have n15:F3.get 15=none:=r3.none (by rw [cr (by decide)];rfl);have b5:=r3.box (k:=5) (cs:=[.pure (.int .i64 r.wide), .pure (.int .i64 r.deep), .pure (.slice (r.ah.map aW.row)), .pure (.slice (r.aa.map bc.row)), .pure (.slice (r.seen.map aG)), .pure (.slice (r.br.map aG)), .pure (.slice (r.ai.map ak.row))]) (by rw [cr (by decide)];rfl);simp only [List.nil_append]at M;have zsp:aw.row s=[.slice (s.ah.map aG), .slice (s.ao.map aH.row), .slice (s.aa.map bB.row)]:=rfl;rw [zsp]at R;simp;refine L _ ?_;simp [M,R,nX,n15,b5,cr,Fr.bQ,Fr.az,aD,ae]
end
section
variable {c:Nat} {H:aj}
theorem TN {nm:Nm}{v i N:Nat}(hN:N≤1000)(hi:i<N)(hg:H.get nm=some (.arr 1 [[.int .i64 i]] v false))(hv:v≤1)(hH:0<H.length):
  aL KC (aE KC) 42 [.a8 nm 1 1 0 1, .pure (.int .i64 N)] c H=some (.pure (.bool (decide (i+1<N))),H.set nm (.arr 1 [[.int .i64 ((if i+1<N then i+1 else 0:Nat):Int)]] 1 false)):=by
 have hlt:nm.1<H.length:=aj.bL hg;have ne1: ¬nm.1=H.length:=(by omega);have ne2: ¬nm.1=H.length+1:=(by omega);have hle:nm.1≤H.length:=(by omega);have hw:=dh (x:=(i:Int)+1) (by omega) (by omega);have hwm:IntKind.i64.wrap (-1)= -1:=rfl;refine aO (ba KC au Tryz.func42 rfl rfl Hv rfl rfl rfl (by simp) hH ?_);by_cases h:i+1<N
 ·have h':(i:Int)+1<N:=(by omega);rw [if_pos h,decide_eq_true h];simp;apply ax;conv=>arg 4;whnf
  simp [hg,hv,hw,hwm,h,h',ne1,ne2,hle,hlt,aj.length_set,ae]
 ·have h': ¬(i:Int)+1<N:=(by omega);rw [if_neg h,decide_eq_false h];simp;apply ax;conv=>arg 4;whnf
  simp [hg,hv,hw,hwm,h,h',ne1,ne2,hle,hlt,aj.length_set,ae];apply ax;conv=>arg 4;whnf
  simp [hg,hv,hw,hwm,h,h',ne1,ne2,hle,hlt,aj.length_set,ae]
def MW (N i j:Nat):Nat×Nat:=if j+1<N then (i,j+1)else if i+1<N then (i+1,0)else (0,0)
theorem TP {nm:Nm}{v i j N:Nat}(hN:N≤1000)(hi:i<N)(hj:j<N)(hg:H.get nm=some (.arr 1 [[.int .i64 i],[.int .i64 j]] v false))(hv:v≤2)(hH:0<H.length):
  aL KC (aE KC) 42 [.a8 nm 1 2 0 2, .pure (.int .i64 N)] c H=some (.pure (.bool (decide (j+1<N∨i+1<N))),H.set nm (.arr 1 [[.int .i64 ((MW N i j).1:Nat)],[.int .i64 ((MW N i j).2:Nat)]] 2 false)):=by
 have hlt:nm.1<H.length:=aj.bL hg;have ne1: ¬nm.1=H.length:=(by omega);have ne2: ¬nm.1=H.length+1:=(by omega);have hle:nm.1≤H.length:=(by omega);have hw:=dh (x:=(i:Int)+1) (by omega) (by omega);have hw2:=dh (x:=(j:Int)+1) (by omega) (by omega);have hwm:IntKind.i64.wrap (-1)= -1:=rfl;have hw0:IntKind.i64.wrap 0=0:=rfl;have hw1:IntKind.i64.wrap 1=1:=rfl;refine aO (ba KC au Tryz.func42 rfl rfl Hv rfl rfl rfl (by simp) hH ?_);unfold MW;by_cases h:j+1<N
 ·have h':(j:Int)+1<N:=(by omega);rw [if_pos h,decide_eq_true (Or.inl h)];simp [hw1];apply ax;conv=>arg 4;whnf
  simp [hg,hv,hw2,hwm,h,h',ne1,ne2,hle,hlt,aj.length_set,ae]
 ·have h': ¬(j:Int)+1<N:=(by omega);rw [if_neg h];by_cases h2:i+1<N
  ·have h2':(i:Int)+1<N:=(by omega);rw [if_pos h2,decide_eq_true (Or.inr h2)];simp [hw1];apply ax;conv=>arg 4;whnf
   simp [hg,hv,hw2,hwm,hw0,h,h',ne1,ne2,hle,hlt,aj.length_set,ae];apply ax;conv=>arg 4;whnf
   simp [hg,hv,hw,hwm,h2,h2',ne1,ne2,hle,hlt,aj.length_set,ae]
  ·have h2': ¬(i:Int)+1<N:=(by omega);rw [if_neg h2,decide_eq_false (by omega)];simp [hw1];apply ax;conv=>arg 4;whnf
   simp [hg,hv,hw2,hwm,hw0,h,h',ne1,ne2,hle,hlt,aj.length_set,ae];apply ax;conv=>arg 4;whnf
   simp [hg,hv,hw,hwm,h2,h2',ne1,ne2,hle,hlt,aj.length_set,ae];apply ax;conv=>arg 4;whnf
   simp [hg,hv,hw,hwm,h2,h2',ne1,ne2,hle,hlt,aj.length_set,ae]
end
end Go.Gh
