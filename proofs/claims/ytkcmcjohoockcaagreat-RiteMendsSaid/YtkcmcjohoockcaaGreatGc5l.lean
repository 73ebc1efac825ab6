/- Texts joined: the evaluator over ghost values, its soundness, the walks. Spaces struck and names made short by a program, for the size. -/
import Derived.Test.YtkcmcjohoockcaaGreatGc5j
import Derived.Test.YtkcmcjohoockcaaGreatGc5k
import Derived.Test.YtkcmcjohoockcaaGreatGc5f
namespace Go.Gh
open Go.Proofs
set_option linter.unusedVariables false
set_option linter.unusedSimpArgs false
set_option linter.unnecessarySimpa false
set_option maxRecDepth 100000
set_option maxHeartbeats 8000000
section
structure uj (r:aC)(k:Nat)(kind:Int):Prop where
 run:D7 r
 lt:k<r.ai.length
 kd:kind=1∨kind=2∨kind=3
 hand:kind=2→(r.ai[k]'lt).kind≠1
 ok:(du r).2.2.2=0
 tm: ∀a∈r.ai,0≤a.bc∧a.bc≤1000
 pw:r.ai.Pairwise fun a b=>a.bc≤b.bc
 n40:r.ai.length≤40
 room:xo r
theorem xN {r:aC}(sh:eL r){act kind:Int}(h:El r act kind=0): ∃k:Nat,act=k∧uj r k kind:=by
 rw [vK]at h;obtain⟨h1,h⟩:=ite_self h;obtain⟨h2,h⟩:=cF (by decide) h;obtain⟨h3,h⟩:=cF (by decide) h;obtain⟨h4,h⟩:=cF (by decide) h;have h2':cC act 0 ((r.ai.length:Int)-1)=true:=(by simpa using h2);have h3':cC kind 1 3=true:=(by simpa using h3);obtain⟨a1,a2⟩:=nz.1 h2';obtain⟨b1,b2⟩:=nz.1 h3';obtain⟨k,rfl⟩:=Int.eq_ofNat_of_zero_le a1;have hk:k<r.ai.length:=(by omega);rw [pN]at h1;have hc:cv r=0:=by
  rcases Decidable.em (cv r=0)with e|e
  ·exact e
  ·rw [if_neg e]at h1;exact h1
 rw [if_pos hc]at h1;obtain⟨R,A⟩:=vI hc;refine⟨k,rfl,vJ hc sh,hk,by omega,fun e=> ?_,h1,A.tm,A.pw.imp fun x=>x.1,A.n,R⟩;have hg:r.ai.getD (Int.toNat (k:Int)) cA=r.ai[k]:=bf hk;rw [hg]at h4;exact fun e2=>h4 ⟨e,e2⟩
section
variable {r:aC} {k:Nat} {kind:Int} (h:uj r k kind)
include h
theorem uj.scn:((du r).1)[jE r.ai k]? =some (yg r (r.ai[k]'h.lt)):=by
 have hq:(bM r r.ai.length (ay r) r.ai 0).2.2.2=0:=by
  have e:=h.ok;unfold du at e;simp only at e;by_cases h0:(bM r r.ai.length (ay r) r.ai 0).2.2.2=0∧kU r (bM r r.ai.length (ay r) r.ai 0).2.1=false
  ·rw [if_pos h0]at e;exact h0.1
  ·rw [if_neg h0]at e;exact e
 obtain⟨e1,e2⟩:=FG r.ai.length (ay r) r.ai 0 k h.lt (Nat.le_refl _) h.pw hq
 have e3:(bM r r.ai.length (ay r) (kr r.ai (r.ai[k]'h.lt)) 0)=bM r (kr r.ai (r.ai[k]'h.lt)).length (ay r) (kr r.ai (r.ai[k]'h.lt)) 0:=
  tX _ _ _ _ _ ((List.takeWhile_sublist _).length_le) (Nat.le_refl _)
 unfold du;simp only;rw [e1,e3];rfl
theorem uj.get:r.ai.getD k cA=r.ai[k]'h.lt:=bf h.lt
theorem tq:(fQ r k kind).length≤r.ai.length:=by
 unfold fQ;have:=h.lt;split
 ·split
  ·simp
  ·rw [List.length_eraseIdx];split<;>omega
 ·split
  ·rw [iJ];simp;omega
  ·rw [List.length_eraseIdx];split<;>omega
omit h in
theorem E6 (aQ:Int)(a:ak):(late aQ a=a∨late aQ a=setAt a (a.bc+1)):=by
 unfold late;split
 ·exact Or.inr rfl
 ·exact Or.inl rfl
theorem nr {x:ak}(hx:x∈fQ r k kind):AB r x.aQ.toNat x∧0≤x.bc∧x.bc≤1001:=by
 have hm: ∀a∈r.ai,AB r a.aQ.toNat a∧0≤a.bc∧a.bc≤1001:=fun a ha=>by
  have:=h.tm a ha;exact⟨h.run.ab a ha,by omega,by omega⟩
 unfold fQ at hx;rw [h.get]at hx;split at hx
 ·rename_i hk;split at hx
  ·rcases List.mem_or_eq_of_mem_set hx with hx|rfl
   ·exact hm x hx
   ·have h1:=hm _ (List.getElem_mem h.lt);exact⟨h1.1.flip (h.hand hk),h1.2⟩
  ·exact hm x (List.mem_of_mem_eraseIdx hx)
 ·split at hx
  ·have hx:=(wR _).mem_iff.1 hx;rcases List.mem_append.1 hx with hx|hx
   ·exact hm x (List.mem_of_mem_take hx)
   ·obtain⟨a,ha,rfl⟩:=List.mem_map.1 hx;have ha':=List.mem_of_mem_drop ha;have h1:=hm a ha';have h2:=h.tm a ha';rcases E6 (r.ai[k]'h.lt).aQ a with e|e
    ·rw [e];exact h1
    ·rw [e];exact⟨pR h1.1,by show 0≤a.bc+1;omega,by show a.bc+1≤1001;omega⟩
  ·exact hm x (List.mem_of_mem_eraseIdx hx)
theorem Ql:(fQ r k kind).Pairwise fun a b=>a.bc≤b.bc:=by
 unfold fQ;rw [h.get];split
 ·split
  ·have e1:(r.ai.set k {(r.ai[k]'h.lt)with hand:=1-(r.ai[k]'h.lt).hand}).map ak.bc=r.ai.map ak.bc:=by
    rw [List.map_set];have e2:(r.ai.map ak.bc)[k]'(by simpa using h.lt)=(r.ai[k]'h.lt).bc:=(by simp);rw [show ({(r.ai[k]'h.lt)with hand:=1-(r.ai[k]'h.lt).hand}:ak).bc=(r.ai.map ak.bc)[k]'(by simpa using h.lt)from e2.symm]
    exact List.set_getElem_self _
   have e3:=List.pairwise_map.2 h.pw;rw [←e1]at e3;exact List.pairwise_map.1 e3
  ·exact h.pw.sublist (List.eraseIdx_sublist ..)
 ·split
  ·exact J4 _
  ·exact h.pw.sublist (List.eraseIdx_sublist ..)
theorem KT:0≤fa r k kind∧fa r k kind≤1001:=by
 have:=h.tm _ (List.getElem_mem h.lt);unfold fa;rw [h.get];split<;>omega
end
def tr (r:aC)(w:Nat):List ak:=bQ (r.wide*r.deep).toNat r.aa.length r.ah.length w
def kz (r:aC)(k:Nat):Nat:=(r.ai.getD k cA).aQ.toNat
noncomputable def KU (r:aC)(k:Nat)(kind:Int):List az×az×Int×Int:=bM r (cf (fa r k kind) (fQ r k kind)).length (ay r) (cf (fa r k kind) (fQ r k kind)) 0
noncomputable def uU (fin:az→List ak→Bool)(r:aC)(k:Nat)(kind:Int):Option (List ak):=
 if (KU r k kind).2.2.2≠0 then none else (List.range 4).findSome? fun n=>ql r (kz r k) (tr r (kz r k)) fin n (KU r k kind).2.1 []
noncomputable def jR (r:aC)(k:Nat)(kind:Int):Option (List ak):=uU (qz r (behind (fa r k kind) (fQ r k kind))) r k kind
theorem uj.wl {r:aC}{k:Nat}{kind:Int}(h:uj r k kind):kz r k<r.ah.length:=by
 unfold kz;rw [h.get];exact(h.run.ab _ (List.getElem_mem h.lt)).wl
theorem uj.AD {r:aC}{k:Nat}{kind:Int}(h:uj r k kind):((r.wide*r.deep).toNat:Int)=r.wide*r.deep∧0<(r.wide*r.deep).toNat∧(r.wide*r.deep).toNat≤36:=by
 have:=h.room.AD;omega
theorem CW {r:aC}{w:Nat}(ha:0≤r.wide*r.deep)(hw:w<r.ah.length){a:ak}(h:a∈tr r w):AB r w a∧a.bc=0∧a.cY=0∧a.jV=0:=
 ng (n:=(r.wide*r.deep).toNat) (by omega) hw h
theorem Qm {r:aC}{k:Nat}{kind:Int}(h:uj r k kind):uU (oL r (fa r k kind) (fQ r k kind)) r k kind=jR r k kind:=by
 unfold jR uU;by_cases he:(KU r k kind).2.2.2≠0
 ·rw [if_pos he,if_pos he]
 rw [if_neg he,if_neg he];have hS:=(jD (cf (fa r k kind) (fQ r k kind)).length (ay r) (cf (fa r k kind) (fQ r k kind)) 0 h.run.snd fun a ha=>(nr h (ju ha).2).1).1;have hF0:Full (ay r):=⟨by simpa [ay]using h.run.p0,by simpa [ay]using h.run.p0,by simp [ay];exact h.run.w.pl,by simp [ay];exact h.run.w.pl,by simp [ay];exact h.run.w.tl⟩;refine lK fun n _=> ?_;refine yR (fun _ s l=>Rch r (kz r k) (cf (fa r k kind) (fQ r k kind)) (fa r k kind) s l) (fun n s l a hr ha hu=> ?_) (fun s l hr=>Ya (Ql h) hr) n _ _ ?_
 ·have hab:=(CW (by have:=h.AD;omega) h.wl ha).1;rw [sH]at hu;simp at hu;exact hr.next (fun x hx=>FJ hx) hab hu.1
 ·have e:cf (fa r k kind) (fQ r k kind)++cT (fa r k kind) []=cf (fa r k kind) (fQ r k kind):=(by simp [cT]);refine⟨hS,kT h.run.snd hS hF0,by simp, ?_, ?_⟩
  ·rw [e];exact Decidable.not_not.1 he
  ·rw [e];rfl
noncomputable def qO (r:aC)(act kind:Int):PV:= .tuple (if El r act kind≠0 then [.slice [], .int .i64 (El r act kind)]else match jR r act.toNat kind with|some l=> [.slice (l.map ak.row), .int .i64 0]|none=> [.slice [], .int .i64 7])
noncomputable def pX (r:aC)(i:Nat)(x:Int):Bool:=decide (x=2∧(r.ai.getD i cA).kind=1)||(jR r i x).isSome
noncomputable def lS (r:aC)(i:Nat)(l:List Int):Option (Int×Int):=l.findSome? fun x=>if pX r i x=true then none else some ((i:Int),x)
noncomputable def mZ (r:aC)(k i:Nat):Option (Int×Int):=(List.range' i k).findSome? fun i=>lS r i r.aP
noncomputable def uV (r:aC):PV:= .tuple (if lL r≠0 then [.int .i64 0, .int .i64 0, .int .i64 (lL r)]else match mZ r r.ai.length 0 with|some (i,x)=> [.int .i64 i, .int .i64 x, .int .i64 0]|none=> [.int .i64 (-1), .int .i64 0, .int .i64 0])
theorem Gm {r:aC}(h:lL r=0){i:Nat}(hi:i<r.ai.length){x:Int}(hx:1≤x∧x≤3)(hk: ¬(x=2∧(r.ai.getD i cA).kind=1)):El r i x=0:=by
 rw [vK,if_neg (by simpa using h),if_neg (by have:cC (i:Int) 0 ((r.ai.length:Int)-1)=true:=nz.2 ⟨by omega,by omega⟩;simp [this]),if_neg (by have:cC x 1 3=true:=nz.2 hx;simp [this]),if_neg (by simpa using hk)]
end
section
variable {c:Nat} {H:aj}
@[simp] theorem Yu {cs:List PV}:canon (.bZ cs)= .bZ cs:= .trans rfl rfl
theorem oz {G:aj}{nm:Nm}(h:nm.1<G.length): ∀pre:aj,aj.get (pre++G) nm=aj.get G nm
 | []=>rfl
 |X::pre=>by
  show aj.get (X::(pre++G)) nm=_
  rw [aj.gX,if_neg (by simp;omega),oz h pre]
structure CX (nm:Nm)(n0:Nat)(α:Type)(C:α→aj)(ps:ak→Bool)(cont:ak→α→Bool)(next:ak→α→α)(ok:α→Prop)(A:ak→Prop):Prop where
 pos:0<n0
 lp:nm.1<n0
 len: ∀a,(C a).length=n0
 gr: ∀(x:ak) (a:α) (pre:aj),A x→ps x=true→ok a→ground (aG KC) nm [.pure (.agg x.row)] (pre++C a)=some (.pure (.bool (cont x a)),pre++C (next x a))
 okn: ∀(x:ak) (a:α),A x→ok a→cont x a=true→ok (next x a)
def fT {α:Type}(pos:ak→Bool)(cont:ak→α→Bool)(next:ak→α→α):List ak→α→α×Bool
 | [],a=>(a,true)
 |x::l,a=>if pos x=true then (if cont x a=true then fT pos cont next l (next x a)else (next x a,false))else fT pos cont next l a
theorem jO {α:Type}{pos:ak→Bool}{cont:ak→α→Bool}{next:ak→α→α}: ∀(l m:List ak) (a:α),fT pos cont next (l++m) a=if (fT pos cont next l a).2=true then fT pos cont next m (fT pos cont next l a).1 else fT pos cont next l a
 | [],m,a=>by simp [fT]
 |x::l,m,a=>by
  simp only [List.cons_append,fT];split
  ·split
   ·exact jO l m _
   ·simp
  ·exact jO l m a
section
variable {r:aC} {s:az} {w:Nat} {nm:Nm} {n0:Nat} {α:Type} {C:α→aj} {cont:ak→α→Bool} {next:ak→α→α} {ok:α→Prop} {A:ak→Prop} (hC:CX nm n0 α C (bW r s w) cont next ok A) (hS:gz r s) (hW:WB r) (hA: ∀x,A x→AB r w x)
include hC hS hW hA
theorem vO {F0:Fr}(f3:F0.get 3=some (.box [.yield nm])){x:ak}(hx:A x){a:α}(ha:ok a)(pre:aj):
  aL KC (aG KC) 133 [.pure (.agg x.row), .bZ (aU r s), .aA (n0,3) 0] c (pre++F0::C a)=
   some (.pure (.bool (if bW r s w x=true then cont x a else true)),pre++F0::C (if bW r s w x=true then next x a else a)):=by
 refine aM (aW KC au Tryz.func133 rfl rfl Oi rfl rfl rfl (by simp) (by simp;omega) ?_);have hlen:=hC.len;have g3:aj.get (pre++F0::C a) (n0,3)=some (.box [.yield nm]):=by
  rw [oz (by simp [hlen])];rw [aj.gX,if_pos (by simp [hlen])];exact f3
 have M:=fun(c:Nat) (H:aj) (hH:0<H.length)=>Al (c:=c) (H:=H) hS hW (hA x hx) hH;have G:=fun hp=>hC.gr x a ([(3, .box (x.row.map .pure))]::(pre++[F0])) hx hp ha;simp only [List.cons_append,List.append_assoc,List.nil_append]at G;have ne: ¬n0=pre.length+(n0+1):=(by omega);rw [bp]at G;rw [aU,bp]at M;rw [aU,bp]
 cases hp:bW r s w x with
 |true=>
  have G:=G hp;simp at G;simp [g3,hlen,ne,M,hp,G,ae]
 |false=>simp [g3,hlen,ne,M,hp,ae]
end
end
section
variable {c:Nat} {H:aj}
def kA (r:aC)(s:az)(n0:Nat):GV:= .func 133 [] [.bZ (aU r s), .aA (n0,3) 0]
section
variable {r:aC} {s:az} {n0:Nat}
theorem j5 {G:aj}{l0:Nat}(h:n0≤l0):clean G l0 (kA r s n0)=kA r s n0:=by
 show iS G l0 (.func _ [] [_,_])=_
 have e:dS l0 ([]:List GV)=true:=rfl;have e2:dS l0 [.bZ (aU r s), .aA (n0,3) 0]=true:=(by simp [dS,h]);show (if (dS l0 [] && dS l0 [.bZ (aU r s), .aA (n0,3) 0])=true then _ else _)=_
 rw [e,e2];rfl
theorem fI {rec:Rec}{x:GV}{c:Nat}{G:aj}:ez KC rec (kA r s n0) [x] c G=aL KC rec 133 [x, .bZ (aU r s), .aA (n0,3) 0] c G:=rfl
end
section
variable {r:aC} {s:az} {w:Nat} {nm:Nm} {n0:Nat} {α:Type} {C:α→aj} {cont:ak→α→Bool} {next:ak→α→α} {ok:α→Prop} {A:ak→Prop} (hC:CX nm n0 α C (bW r s w) cont next ok A) (hS:gz r s) (hW:WB r) (hA: ∀x,A x→AB r w x)
include hC hS hW hA
theorem E7 {F0:Fr}(f3:F0.get 3=some (.box [.yield nm])){n:Nat}(hn:n≤1000000)(hall: ∀x∈ik w n 0,A x)(Q:GX→bN→Prop): ∀(k i:Nat) (a:α),i+k=n→ok a→
  (∀a',fT (bW r s w) cont next (ik w k i) a=(a',true)→ok a'→Q (.exit 2) ⟨[(1, .bZ (aU r s)),(2, .bZ [.int .i64 w]),(4,kA r s n0),(5, .pure (.int .i64 1))],[]::F0::C a',79⟩)→
  (∀a',fT (bW r s w) cont next (ik w k i) a=(a',false)→Q .ret ⟨[(1, .bZ (aU r s)),(2, .bZ [.int .i64 w]),(4,kA r s n0),(5, .pure (.int .i64 1))],[]::F0::C a',79⟩)→
  fM KC au 132 (lp Tryz.f132 1) [1,2,4,5,18,19] [1,2,4,5] Q
   [(1, .bZ (aU r s)),(2, .bZ [.int .i64 w]),(4,kA r s n0),(5, .pure (.int .i64 1)),(18, .pure (.int .i64 n)),(19, .pure (.int .i64 i))] ([]::F0::C a) 79:=by
 have hlen:=hC.len;have CL:=fun(G:aj) (l0:Nat) (h:n0≤l0)=>j5 (r:=r) (s:=s) (G:=G) h;have c1:=fun G=>CL G n0 (by omega);have c2:=fun G=>CL G (n0+1) (by omega);intro k
 induction k with
 |zero=>
  intro i a hk ho h1 _;have h1':=h1 a rfl ho;have hnl: ¬i<n:=(by omega);apply ax;conv=>arg 4;whnf
  simp [hnl,hlen,c1,c2];simpa using h1'
 |succ k ih=>
  intro i a hk ho h1 h2;have hil:i<n:=(by omega);have hw:=cU (x:=(i:Int)+1) (by omega) (by omega)
  have hx:A (b7 w 1 0 0 i 0):=hall _ (by
   unfold ik;exact List.mem_map.2 ⟨i,by simp [List.mem_range'];omega,rfl⟩)
  have HO:=fun(c:Nat)=>vO (c:=c) hC hS hW hA f3 hx ho [[],[]];rw [rT]at h1 h2;simp only [fT]at h1 h2;simp only [List.cons_append,List.nil_append]at HO;generalize hB:bW r s w (b7 w 1 0 0 i 0)=b at HO h1 h2;have hrow:(b7 w 1 0 0 i 0).row=[.int .i64 0, .int .i64 w, .int .i64 1, .int .i64 0, .int .i64 0, .int .i64 i, .int .i64 0, .int .i64 0, .int .i64 0]:=rfl;rw [hrow]at HO;apply ax;conv=>arg 4;whnf
  cases b with
  |false=>
   simp only [Bool.false_eq_true,if_false]at HO h1 h2;have ih':=ih (i+1) a (by omega) ho h1 h2;simp [hil,hlen,c1,c2,fI,HO,hw];simpa using ih'
  |true=>
   simp only [if_true]at HO h1 h2
   cases hc:cont (b7 w 1 0 0 i 0) a with
   |true=>
    rw [hc]at HO h1 h2;simp only [if_true]at h1 h2;have ih':=ih (i+1) (next (b7 w 1 0 0 i 0) a) (by omega) (hC.okn _ _ hx ho hc) h1 h2
    simp [hil,hlen,c1,c2,fI,HO,hw];simpa using ih'
   |false=>
    rw [hc]at HO h1 h2;have h2':=h2 _ rfl;simp [hil,hlen,c1,c2,fI,HO,hw];simpa using h2'
def aB (x:ak):Fr:=[(8, .box [.pure (.int .i64 x.bc), .pure (.int .i64 x.aQ), .pure (.int .i64 x.kind), .pure (.int .i64 x.hand), .pure (.int .i64 x.bh), .pure (.int .i64 x.cell), .pure (.int .i64 x.other), .pure (.int .i64 x.cY), .pure (.int .i64 x.jV)])]
theorem CY {F0:Fr}(f3:F0.get 3=some (.box [.yield nm])){n h:Nat}(hn:n≤1000000)(hall: ∀x∈iB w h n 0,A x)(Q:GX→bN→Prop): ∀(k i:Nat) (t:Int) (a:α),i+k=n→ok a→
  (∀a' t',fT (bW r s w) cont next (iB w h k i) a=(a',true)→ok a'→Q (.exit 7) ⟨[(1, .bZ (aU r s)),(2, .bZ [.int .i64 w]),(4,kA r s n0),(5, .pure (.int .i64 2)),(30, .pure (.int .i64 h))],aB (b7 w 2 h t' 0 0)::[]::F0::C a',79⟩)→
  (∀a' F1,fT (bW r s w) cont next (iB w h k i) a=(a',false)→Q .ret ⟨[(1, .bZ (aU r s)),(2, .bZ [.int .i64 w]),(4,kA r s n0),(5, .pure (.int .i64 2)),(30, .pure (.int .i64 h))],F1::[]::F0::C a',79⟩)→
  fM KC au 132 (lp Tryz.f132 3) [1,2,4,5,8,30,47,48] [1,2,4,5,30] Q
   [(1, .bZ (aU r s)),(2, .bZ [.int .i64 w]),(4,kA r s n0),(5, .pure (.int .i64 2)),(8, .aA (n0+2,8) 0),(30, .pure (.int .i64 h)),(47, .pure (.int .i64 n)),(48, .pure (.int .i64 i))] (aB (b7 w 2 h t 0 0)::[]::F0::C a) 79:=by
 have hlen:=hC.len;have CL:=fun(G:aj) (l0:Nat) (h:n0≤l0)=>j5 (r:=r) (s:=s) (G:=G) h;have c1:=fun G=>CL G (n0+1) (by omega);have c2:=fun G=>CL G (n0+2) (by omega);have ne1: ¬n0+2=n0+3:=(by omega);intro k
 induction k with
 |zero=>
  intro i t a hk ho h1 _;have h1':=h1 a t rfl ho;have hnl: ¬i<n:=(by omega);apply ax;conv=>arg 4;whnf
  simp [hnl,hlen,c1,c2];simpa using h1'
 |succ k ih=>
  intro i t a hk ho h1 h2;have hil:i<n:=(by omega);have hw:=cU (x:=(i:Int)+1) (by omega) (by omega)
  have hx:A (b7 w 2 h i 0 0):=hall _ (by
   unfold iB;exact List.mem_map.2 ⟨i,by simp [List.mem_range'];omega,rfl⟩)
  have HO:=fun(c:Nat)=>vO (c:=c) hC hS hW hA f3 hx ho [[],aB (b7 w 2 h i 0 0),[]];rw [vd]at h1 h2;simp only [fT]at h1 h2;simp only [List.cons_append,List.nil_append]at HO;generalize hB:bW r s w (b7 w 2 h i 0 0)=b at HO h1 h2;have hrow:(b7 w 2 h i 0 0).row=[.int .i64 0, .int .i64 w, .int .i64 2, .int .i64 h, .int .i64 i, .int .i64 0, .int .i64 0, .int .i64 0, .int .i64 0]:=rfl;rw [hrow]at HO;simp only [aB,b7]at HO ih⊢;apply ax;conv=>arg 4;whnf
  cases b with
  |false=>
   simp only [Bool.false_eq_true,if_false]at HO h1 h2;have ih':=ih (i+1) i a (by omega) ho h1 h2;simp [hil,hlen,c1,c2,ne1,fI,HO,hw];simpa using ih'
  |true=>
   simp only [if_true]at HO h1 h2
   cases hc:cont (b7 w 2 h i 0 0) a with
   |true=>
    rw [hc]at h1 h2;simp only [b7]at hc;rw [hc]at HO;simp only [if_true]at h1 h2;have ih':=ih (i+1) i (next (b7 w 2 h i 0 0) a) (by omega) (hC.okn _ _ hx ho hc) h1 h2
    simp only [b7]at ih';simp [hil,hlen,c1,c2,ne1,fI,HO,hw];simpa using ih'
   |false=>
    rw [hc]at h1 h2;have h2':=h2 _ [(8, .box [.pure (.int .i64 0), .pure (.int .i64 w), .pure (.int .i64 2), .pure (.int .i64 h), .pure (.int .i64 i), .pure (.int .i64 0), .pure (.int .i64 0), .pure (.int .i64 0), .pure (.int .i64 0)])] rfl;simp only [b7]at hc h2';rw [hc]at HO;simp [hil,hlen,c1,c2,ne1,fI,HO,hw];simpa using h2'
theorem CZ {F0:Fr}(f3:F0.get 3=some (.box [.yield nm])){n h:Nat}(hn:n≤1000000)(hall: ∀x∈gO w h n 0,A x)(Q:GX→bN→Prop): ∀(k i:Nat) (t:Int) (a:α),i+k=n→ok a→
  (∀a' t',fT (bW r s w) cont next (gO w h k i) a=(a',true)→ok a'→Q (.exit 9) ⟨[(1, .bZ (aU r s)),(2, .bZ [.int .i64 w]),(4,kA r s n0),(5, .pure (.int .i64 4)),(30, .pure (.int .i64 h))],aB (b7 w 4 h 0 0 t')::[]::F0::C a',79⟩)→
  (∀a' F1,fT (bW r s w) cont next (gO w h k i) a=(a',false)→Q .ret ⟨[(1, .bZ (aU r s)),(2, .bZ [.int .i64 w]),(4,kA r s n0),(5, .pure (.int .i64 4)),(30, .pure (.int .i64 h))],F1::[]::F0::C a',79⟩)→
  fM KC au 132 (lp Tryz.f132 4) [1,2,4,5,8,30,62,63] [1,2,4,5,30] Q
   [(1, .bZ (aU r s)),(2, .bZ [.int .i64 w]),(4,kA r s n0),(5, .pure (.int .i64 4)),(8, .aA (n0+2,8) 0),(30, .pure (.int .i64 h)),(62, .pure (.int .i64 n)),(63, .pure (.int .i64 i))] (aB (b7 w 4 h 0 0 t)::[]::F0::C a) 79:=by
 have hlen:=hC.len;have CL:=fun(G:aj) (l0:Nat) (h:n0≤l0)=>j5 (r:=r) (s:=s) (G:=G) h;have c1:=fun G=>CL G (n0+1) (by omega);have c2:=fun G=>CL G (n0+2) (by omega);have ne1: ¬n0+2=n0+3:=(by omega);intro k
 induction k with
 |zero=>
  intro i t a hk ho h1 _;have h1':=h1 a t rfl ho;have hnl: ¬i<n:=(by omega);apply ax;conv=>arg 4;whnf
  simp [hnl,hlen,c1,c2];simpa using h1'
 |succ k ih=>
  intro i t a hk ho h1 h2;have hil:i<n:=(by omega);have hw:=cU (x:=(i:Int)+1) (by omega) (by omega);by_cases hiw:(i:Int)=w
  ·rw [pV,if_pos hiw]at h1 h2;have ih':=ih (i+1) i a (by omega) ho h1 h2;have hiw2:i=w:=(by omega);subst hiw2;simp only [aB,b7]at ih'⊢;apply ax;conv=>arg 4;whnf
   simp [hil,hlen,c1,c2,ne1,hw];simpa using ih'
  ·have hiw':((i:Int)==(w:Int))=false:=by simpa using hiw
   have hx:A (b7 w 4 h 0 0 i):=hall _ (by
    unfold gO;exact List.mem_map.2 ⟨i,List.mem_filter.2 ⟨by simp [List.mem_range'];omega,by simpa using hiw⟩,rfl⟩)
   have HO:=fun(c:Nat)=>vO (c:=c) hC hS hW hA f3 hx ho [[],aB (b7 w 4 h 0 0 i),[]];rw [pV,if_neg hiw]at h1 h2;simp only [fT]at h1 h2;simp only [List.cons_append,List.nil_append]at HO;generalize hB:bW r s w (b7 w 4 h 0 0 i)=b at HO h1 h2;have hrow:(b7 w 4 h 0 0 i).row=[.int .i64 0, .int .i64 w, .int .i64 4, .int .i64 h, .int .i64 0, .int .i64 0, .int .i64 i, .int .i64 0, .int .i64 0]:=rfl;rw [hrow]at HO;simp only [aB,b7]at HO ih⊢;apply ax;conv=>arg 4;whnf
   cases b with
   |false=>
    simp only [Bool.false_eq_true,if_false]at HO h1 h2;have ih':=ih (i+1) i a (by omega) ho h1 h2;simp [hil,hlen,c1,c2,ne1,fI,HO,hw,hiw,hiw'];simpa using ih'
   |true=>
    simp only [if_true]at HO h1 h2
    cases hc:cont (b7 w 4 h 0 0 i) a with
    |true=>
     rw [hc]at h1 h2;simp only [b7]at hc;rw [hc]at HO;simp only [if_true]at h1 h2;have ih':=ih (i+1) i (next (b7 w 4 h 0 0 i) a) (by omega) (hC.okn _ _ hx ho hc) h1 h2
     simp only [b7]at ih';simp [hil,hlen,c1,c2,ne1,fI,HO,hw,hiw,hiw'];simpa using ih'
    |false=>
     rw [hc]at h1 h2;have h2':=h2 _ [(8, .box [.pure (.int .i64 0), .pure (.int .i64 w), .pure (.int .i64 4), .pure (.int .i64 h), .pure (.int .i64 0), .pure (.int .i64 0), .pure (.int .i64 i), .pure (.int .i64 0), .pure (.int .i64 0)])] rfl;simp only [b7]at hc h2';rw [hc]at HO;simp [hil,hlen,c1,c2,ne1,fI,HO,hw,hiw,hiw'];simpa using h2'
end
end
section
variable {c:Nat} {H:aj}
def ym (r:aC)(w kind:Nat)(k h:Nat):List ak:=(List.range' h k).flatMap fun(h:Nat)=>iA r.aa.length r.ah.length w kind h
theorem uk (r:aC)(w kind k h:Nat):ym r w kind (k+1) h=iA r.aa.length r.ah.length w kind h++ym r w kind k (h+1):=by simp [ym,List.range'_succ]
theorem zC (r:aC)(w kind:Nat):ym r w kind 2 0=oJ r.aa.length r.ah.length w kind:=by
 rw [uk,uk];simp [ym,oJ]
section
variable {r:aC} {s:az} {w:Nat} {nm:Nm} {n0:Nat} {α:Type} {C:α→aj} {cont:ak→α→Bool} {next:ak→α→α} {ok:α→Prop} {A:ak→Prop} (hC:CX nm n0 α C (bW r s w) cont next ok A) (hS:gz r s) (hW:WB r) (hA: ∀x,A x→AB r w x)
include hC hS hW hA
theorem C0 {F0:Fr}(f3:F0.get 3=some (.box [.yield nm])){kind:Nat}(hk1:kind≠1)(hk:kind≤8)(hall: ∀x∈ym r w kind 2 0,A x)(Q:GX→bN→Prop): ∀(k h:Nat) (a:α),h+k=2→ok a→
  (∀a',fT (bW r s w) cont next (ym r w kind k h) a=(a',true)→ok a'→Q (.exit 4) ⟨[(1, .bZ (aU r s)),(2, .bZ [.int .i64 w]),(4,kA r s n0),(5, .pure (.int .i64 kind))],[]::F0::C a',79⟩)→
  (∀a',fT (bW r s w) cont next (ym r w kind k h) a=(a',false)→Q .ret ⟨[(1, .bZ (aU r s)),(2, .bZ [.int .i64 w]),(4,kA r s n0),(5, .pure (.int .i64 kind))],[]::F0::C a',79⟩)→
  fM KC au 132 (lp Tryz.f132 2) [1,2,4,5,30] [1,2,4,5] Q
   [(1, .bZ (aU r s)),(2, .bZ [.int .i64 w]),(4,kA r s n0),(5, .pure (.int .i64 kind)),(30, .pure (.int .i64 h))] ([]::F0::C a) 79:=by
 have hlen:=hC.len;have CL:=fun(G:aj) (l0:Nat) (h:n0≤l0)=>j5 (r:=r) (s:=s) (G:=G) h;have c0:=fun G=>CL G n0 (by omega);have c1:=fun G=>CL G (n0+1) (by omega);have c2:=fun G=>CL G (n0+2) (by omega);intro k
 induction k with
 |zero=>
  intro h a hk ho h1 _;have h1':=h1 a rfl ho;have hnl: ¬h<2:=(by omega);have hnl': ¬(h:Int)<2:=(by omega);apply ax;conv=>arg 4;whnf
  simp [hnl,hnl',hlen,c0,c1,c2];simpa using h1'
 |succ k ih=>
  intro h a hkh ho h1 h2;have hil:h<2:=(by omega);have hil':(h:Int)<2:=(by omega);have hw:=cU (x:=(h:Int)+1) (by omega) (by omega);rw [uk,jO]at h1 h2
  have hsub: ∀x∈iA r.aa.length r.ah.length w kind h,A x:=fun x hx=>hall x (by
   unfold ym;exact List.mem_flatMap.2 ⟨h,by simp [List.mem_range'];omega,hx⟩)
  have hsl:3≤(aU r s).length:=by show 3≤10;omega
  have hsl2:2≤(aU r s).length:=by show 2≤10;omega
  have hpt:List.drop 3 (aU r s)= .slice (r.aa.map aY.row)::List.drop 4 (aU r s):=rfl;have hpp:List.drop 2 (aU r s)= .slice (r.ah.map aS.row)::List.drop 3 (aU r s):=rfl;by_cases k2:kind=2
  ·subst k2;have ek:iA r.aa.length r.ah.length w 2 h=iB w h r.aa.length 0:=rfl;rw [ek]at hsub h1 h2;have L:=fun Q t h1 h2=>CY hC hS hW hA f3 (n:=r.aa.length) (h:=h) hW.tl hsub Q r.aa.length 0 t a (by omega) ho h1 h2;simp only [aB,b7]at L;apply ax;conv=>arg 4;whnf
   simp [hil,hil',hlen,c0,c1,c2,hsl,hsl2,hpt,hpp];refine L _ _ (fun a' t' e ho'=> ?_) (fun a' F1 e=> ?_)
   ·rw [e]at h1 h2;simp only [if_true]at h1 h2;have ih':=ih (h+1) a' (by omega) ho' h1 h2;simp [hlen,c0,c1,c2,hw];simpa using ih'
   ·rw [e]at h2;have h2':=h2 a' rfl;simp [hlen,c0,c1,c2];simpa using h2'
  ·have k2':((kind:Int)==2)=false:=(by simp;omega);by_cases k4:kind=4
   ·subst k4;have ek:iA r.aa.length r.ah.length w 4 h=gO w h r.ah.length 0:=rfl;rw [ek]at hsub h1 h2;have L:=fun Q t h1 h2=>CZ hC hS hW hA f3 (n:=r.ah.length) (h:=h) hW.pl hsub Q r.ah.length 0 t a (by omega) ho h1 h2;simp only [aB,b7]at L;apply ax;conv=>arg 4;whnf
    simp [hil,hil',hlen,c0,c1,c2,hsl,hsl2,hpt,hpp];refine L _ _ (fun a' t' e ho'=> ?_) (fun a' F1 e=> ?_)
    ·rw [e]at h1 h2;simp only [if_true]at h1 h2;have ih':=ih (h+1) a' (by omega) ho' h1 h2;simp [hlen,c0,c1,c2,hw];simpa using ih'
    ·rw [e]at h2;have h2':=h2 a' rfl;simp [hlen,c0,c1,c2];simpa using h2'
   ·have k4':((kind:Int)==4)=false:=(by simp;omega);have ek:iA r.aa.length r.ah.length w kind h=[b7 w kind h 0 0 0]:=(by unfold iA;rw [if_neg k2,if_neg k4]);rw [ek]at hsub h1 h2;have hx:=hsub _ (List.mem_singleton.2 rfl);have HO:=fun(c:Nat)=>vO (c:=c) hC hS hW hA f3 hx ho [aB (b7 w kind h 0 0 0),[]];simp only [fT]at h1 h2;simp only [List.cons_append,List.nil_append]at HO;have hrow:(b7 w kind h 0 0 0).row=[.int .i64 0, .int .i64 w, .int .i64 kind, .int .i64 h, .int .i64 0, .int .i64 0, .int .i64 0, .int .i64 0, .int .i64 0]:=rfl;rw [hrow]at HO;apply ax;conv=>arg 4;whnf
    cases hB:bW r s w (b7 w kind h 0 0 0)with
    |false=>
     simp only [hB,Bool.false_eq_true,if_false,if_true]at HO h1 h2;have ih':=ih (h+1) a (by omega) ho h1 h2;simp only [aB,b7]at HO;simp [hil,hil',hlen,c0,c1,c2,k2',k4',fI,HO,hw];simpa using ih'
    |true=>
     simp only [hB,if_true]at HO h1 h2
     cases hc:cont (b7 w kind h 0 0 0) a with
     |true=>
      simp only [hc,if_true]at HO h1 h2;have ih':=ih (h+1) (next (b7 w kind h 0 0 0) a) (by omega) (hC.okn _ _ hx ho hc) h1 h2
      simp only [aB,b7]at HO ih';simp [hil,hil',hlen,c0,c1,c2,k2',k4',fI,HO,hw];simpa using ih'
     |false=>
      simp only [hc,Bool.false_eq_true,if_false]at HO h2;have h2':=h2 _ rfl;simp only [aB,b7]at HO h2';simp [hil,hil',hlen,c0,c1,c2,k2',k4',fI,HO,hw];simpa using h2'
end
end
section
variable {c:Nat} {H:aj}
section
variable {r:aC} {s:az} {w:Nat} {nm:Nm} {n0:Nat} {α:Type} {C:α→aj} {cont:ak→α→Bool} {next:ak→α→α} {ok:α→Prop} {A:ak→Prop} (hC:CX nm n0 α C (bW r s w) cont next ok A) (hS:gz r s) (hW:WB r) (hA: ∀x,A x→AB r w x)
include hC hS hW hA
theorem C4 {F0:Fr}(f3:F0.get 3=some (.box [.yield nm]))(hall: ∀x∈fX r.aa.length r.ah.length w 7 2,A x)(Q:GX→bN→Prop): ∀(k i:Nat) (a:α),i+k=9→2≤i→ok a→
  (∀a',fT (bW r s w) cont next (fX r.aa.length r.ah.length w k i) a=(a',true)→ok a'→Q (.exit 0) ⟨[],F0::C a',79⟩)→
  (∀a',fT (bW r s w) cont next (fX r.aa.length r.ah.length w k i) a=(a',false)→Q .ret ⟨[],F0::C a',79⟩)→
  fM KC au 132 (lp Tryz.f132 0) [1,2,4,5] [] Q
   [(1, .bZ (aU r s)),(2, .bZ [.int .i64 w]),(4,kA r s n0),(5, .pure (.int .i64 i))] (F0::C a) 79:=by
 have hlen:=hC.len;have CL:=fun(G:aj) (l0:Nat) (h:n0≤l0)=>j5 (r:=r) (s:=s) (G:=G) h;have c0:=fun G=>CL G n0 (by omega);have c1:=fun G=>CL G (n0+1) (by omega);intro k
 induction k with
 |zero=>
  intro i a hk hi ho h1 _;have h1':=h1 a rfl ho;have hnl': ¬(i:Int)≤8:=(by omega);apply ax;conv=>arg 4;whnf
  simp [hnl',hlen,c0,c1];simpa using h1'
 |succ k ih=>
  intro i a hk hi ho h1 h2;have hil':(i:Int)≤8:=(by omega);have hi1:((i:Int)==1)=false:=(by simp;omega);have hw:=cU (x:=(i:Int)+1) (by omega) (by omega);rw [pW,jO,←zC]at h1 h2
  have hsub: ∀x∈ym r w i 2 0,A x:=fun x hx=>hall x (by
   unfold fX;rw [zC]at hx;exact List.mem_flatMap.2 ⟨i,List.mem_range'_1.2 ⟨hi,by omega⟩,hx⟩)
  have L:=fun Q h1 h2=>C0 hC hS hW hA f3 (kind:=i) (by omega) (by omega) hsub Q 2 0 a rfl ho h1 h2;apply ax;conv=>arg 4;whnf
  simp [hil',hi1,hlen,c0,c1];refine L _ (fun a' e ho'=> ?_) (fun a' e=> ?_)
  ·rw [e]at h1 h2;simp only [if_true]at h1 h2;have ih':=ih (i+1) a' (by omega) (by omega) ho' h1 h2;simp [hlen,c0,c1,hw];simpa using ih'
  ·rw [e]at h2;have h2':=h2 a' rfl;simp [hlen,c0,c1];simpa using h2'
theorem A7 {n:Nat}(hn:IntKind.i64.wrap (r.wide*r.deep)=n)(hn0:n≤1000000)(hall: ∀x∈bQ n r.aa.length r.ah.length w,A x){a:α}(ha:ok a):
  aL KC (aG KC) 132 [.yield nm, .bZ (aU r s), .bZ [.int .i64 w]] c (C a)=some (.pure (.tuple []),C (fT (bW r s w) cont next (bQ n r.aa.length r.ah.length w) a).1):=by
 have hlen:=hC.len;have hpos:=hC.pos;refine aM (aW KC au Tryz.func132 rfl rfl Oh rfl rfl rfl (by simp) (by rw [hlen];exact hpos) ?_);have CL:=fun(G:aj) (l0:Nat) (h:n0≤l0)=>j5 (r:=r) (s:=s) (G:=G) h;have c0:=fun G=>CL G n0 (by omega);have c1:=fun G=>CL G (n0+1) (by omega);have f3:Fr.get [(3, .box [.yield nm])] 3=some (.box [.yield nm]):=rfl;have es:bQ n r.aa.length r.ah.length w=ik w n 0++fX r.aa.length r.ah.length w 7 2:=rfl;rw [es]at hall⊢;rw [jO];have h1: ∀x∈ik w n 0,A x:=fun x hx=>hall x (List.mem_append_left _ hx);have h2: ∀x∈fX r.aa.length r.ah.length w 7 2,A x:=fun x hx=>hall x (List.mem_append_right _ hx);have L1:=fun Q q1 q2=>E7 hC hS hW hA f3 hn0 h1 Q n 0 a (by omega) ha q1 q2;have hlp:=hC.lp;have hm:=fun(c:Nat) (H:aj) (hH:0<H.length)=>Bl (c:=c) (H:=H) (hH:=hH) (w:=r.wide) (d:=r.deep) (x1:= .slice (r.ah.map aS.row)) (x2:= .slice (r.aa.map aY.row)) (x3:= .slice (r.seen.map aE)) (x4:= .slice (r.aP.map aE)) (x5:= .slice (r.ai.map ak.row));have hsl:(aU r s).length=10:=rfl;have hpp:List.take 7 (aU r s)=[.int .i64 r.wide, .int .i64 r.deep, .slice (r.ah.map aS.row), .slice (r.aa.map aY.row), .slice (r.seen.map aE), .slice (r.aP.map aE), .slice (r.ai.map ak.row)]:=rfl;simp [hlen];rw [show GV.func 133 [] [.bZ (aU r s), .aA (n0,3) 0]=kA r s n0 from rfl]
 apply ax;conv=>arg 4;whnf
 simp [hlen,c0,c1,hm,hsl,hpp,hn];refine L1 _ (fun a' e ho'=> ?_) (fun a' e=> ?_)
 ·rw [e];simp only [if_true];have L2:=fun Q q1 q2=>C4 hC hS hW hA f3 h2 Q 7 2 a' rfl (Nat.le_refl _) ho' q1 q2;simp [hlen,c0,c1];refine L2 _ (fun a2 e2 ho2=> ?_) (fun a2 e2=> ?_)
  ·rw [e2];simp [ae,hlen]
  ·rw [e2];simp [ae,hlen]
 ·rw [e];simp [ae,hlen,c0,c1]
end
theorem KV {r:aC}{s:az}{w:Nat}(hH:0<H.length):
  aL KC (aG KC) 117 [.pure (.agg (aU r s)), .pure (.int .i64 w)] c H=some (.func 132 [] [.bZ (aU r s), .bZ [.int .i64 w]],H):=by
 refine aM (aW KC au Tryz.func117 rfl rfl NZ rfl rfl rfl (by simp) hH ?_);have h1: ¬H.length≤H.length-1:=(by omega);rw [aU];simp;rw [ae (by simp)];simp [clean,iS,dS,qI,sr,h1,bC,canon,cJ]
end
section
variable {c:Nat} {H:aj}
noncomputable def il:aC→Nat→az→Bool:=mI fun r w s=>r.seen.contains (s.ah.getD w 0)
theorem um (r:aC)(w:Nat)(s:az):il r w s=r.seen.contains (s.ah.getD w 0):=by rw [il,cO]
theorem zD {r:aC}{w:Nat}{s:az}{a:ak}(hk:1≤a.kind∧a.kind≤8)(hw:w<s.ah.length):qv r s w a=(bW r s w a && !(il r w s||il r w (cX s w a))):=by
 have e:(cX s w a).ah.getD w 0=if a.kind=1 then a.cell else s.ah.getD w 0:=by
  by_cases k1:a.kind=1
  ·rw [if_pos k1,kq k1];simp [List.getD_eq_getElem?_getD,hw]
  ·rw [if_neg k1,wM hk k1]
 rw [sH,um,um,e,pj];congr 2;rw [Bool.eq_iff_iff];simp;constructor
 ·rintro⟨x,h1,h2|h2⟩
  ·exact Or.inl (h2▸h1)
  ·exact Or.inr (h2▸h1)
 ·rintro(h|h)
  ·exact⟨_,h,Or.inl rfl⟩
  ·exact⟨_,h,Or.inr rfl⟩
noncomputable def iC (r:aC)(w:Nat)(all:List ak)(fin:az→List ak→Bool):Nat→az→List ak→GV→GV×Bool
 |0,s,l,g=>(.pure (.slice (l.map ak.row)),fin s l)
 |n+1,s,l,g=>if il r w s=true then (g,false)else
  (fT (bW r s w) (fun x (a:GV×Bool)=>if il r w (cX s w x)=true then true else !(iC r w all fin n (cX s w x) (l++[x]) a.1).2)
   (fun x (a:GV×Bool)=>if il r w (cX s w x)=true then a else iC r w all fin n (cX s w x) (l++[x]) a.1) all (g,false)).1
theorem Gn {r:aC}{w:Nat}{all:List ak}{fin:az→List ak→Bool}(hab: ∀x∈all,AB r w x): ∀(n:Nat) (s:az) (l:List ak) (g:GV),gz r s→
  (iC r w all fin n s l g).2=(ql r w all fin n s l).isSome∧ ∀x,ql r w all fin n s l=some x→(iC r w all fin n s l g).1= .pure (.slice (x.map ak.row))
 |0,s,l,g,_=>by
  unfold iC ql
  cases fin s l with
  |true=>exact⟨rfl,fun x e=>by cases e;rfl⟩
  |false=>exact⟨rfl,fun x e=>by cases e⟩
 |n+1,s,l,g,hS=>by
  unfold iC ql
  have hf: ∀(all':List ak),(∀x∈all',AB r w x)→ ∀g:GV,il r w s=false→
    let q:=(fT (bW r s w) (fun x (a:GV×Bool)=>if il r w (cX s w x)=true then true else !(iC r w all fin n (cX s w x) (l++[x]) a.1).2)
     (fun x (a:GV×Bool)=>if il r w (cX s w x)=true then a else iC r w all fin n (cX s w x) (l++[x]) a.1) all' (g,false)).1
    let o:=all'.findSome? fun a=>if qv r s w a=true then ql r w all fin n (cX s w a) (l++[a])else none
    q.2=o.isSome∧ ∀x,o=some x→q.1= .pure (.slice (x.map ak.row)):=fun all'=>by
   induction all' with
   |nil=>intro _ g _;exact⟨rfl,fun x e=>by cases e⟩
   |cons a all' ih=>
    intro ha g hs;have hA:=ha a (by simp);have hu:=zD (r:=r) (s:=s) hA.kind (by rw [hS.pl];exact hA.wl);rw [hs,Bool.false_or]at hu;simp only [fT,List.findSome?_cons]
    cases hp:bW r s w a with
    |false=>
     rw [hp,Bool.false_and]at hu;rw [if_neg (by simp),if_neg (by simp [hu])];exact ih (fun x hx=>ha x (by simp [hx])) g hs
    |true=>
     rw [hp,Bool.true_and]at hu;rw [if_pos rfl]
     cases hs2:il r w (cX s w a)with
     |true=>
      rw [hs2]at hu;simp only [hs2,if_true];rw [if_neg (show¬qv r s w a=true by simp [hu])]
      exact ih (fun x hx=>ha x (by simp [hx])) g hs
     |false=>
      rw [hs2]at hu;obtain⟨t1,t2⟩:=Gn hab n (cX s w a) (l++[a]) g (hS.TY hA hp);simp only [hs2,Bool.false_eq_true,if_false];rw [if_pos (show qv r s w a=true by simp [hu])]
      generalize hT:iC r w all fin n (cX s w a) (l++[a]) g=T at t1 t2⊢
      cases ho:ql r w all fin n (cX s w a) (l++[a])with
      |some x=>
       rw [ho]at t1 t2;have t1':T.2=true:=t1;rw [if_neg (by simp [t1'])];exact⟨t1,fun y e=>t2 y e⟩
      |none=>
       rw [ho]at t1;have t1':T.2=false:=t1;rw [if_pos (by simp [t1'])];have e2:T=(T.1,false):=(by rw [←t1']);rw [e2];exact ih (fun x hx=>ha x (by simp [hx])) T.1 hs
  cases hs:il r w s with
  |true=>
   rw [if_pos rfl];have:(all.findSome? fun a=>if qv r s w a=true then ql r w all fin n (cX s w a) (l++[a])else none)=none:=by
    rw [List.findSome?_eq_none_iff];intro x hx;have hA:=hab x hx;have hu:=zD (r:=r) (s:=s) hA.kind (by rw [hS.pl];exact hA.wl);rw [hs]at hu;simp [hu]
   rw [this];exact⟨rfl,fun x e=>by cases e⟩
  |false=>
   rw [if_neg (by simp)];exact hf all hab g hs
theorem Gp {r:aC}(sh:eL r){s:az}{w:Nat}(hw:w<s.ah.length){n3 n9:Nm}(g3:H.get n3=some (aD r))(g9:H.get n9=some (.box [.pure (.int .i64 w)]))(hH:0<H.length):
  aL KC (aG KC) 114 [.pure (.agg (aU r s)), .aA n3 0, .aA n9 0] c H=some (.pure (.bool (il r w s)),H):=by
 refine aM (aW KC au Tryz.func114 rfl rfl NX rfl rfl rfl (by simp) hH ?_);have l3:=aj.bP g3;have l9:=aj.bP g9;have ne3: ¬n3.1=H.length:=(by omega);have ne9: ¬n9.1=H.length:=(by omega);have C:=fun(c:Nat) (H:aj) (hH:0<H.length)=>oG (c:=c) (H:=H) r.seen s.ah[w] sh.s hH;have hgd:s.ah.getD w 0=s.ah[w]:=bf hw;rw [um,hgd];simp only [aD]at g3;rw [aU];simp [g3,g9,ne3,ne9,l3,l9,hw,aE,C,ae]
theorem Gq {r:aC}(hW:WB r)(ai:List ak)(hal:ai.length≤1000000)(hA: ∀a∈ai,AB r a.aQ.toNat a){s:az}(hS:gz r s)(hF:Full s)(hH:0<H.length):
  aL KC (aG KC) 93 [.pure (.agg (aU r s)), .pure (.slice (ai.map ak.row)), .pure (.fn 59)] c H=
   some (.pure (.tuple [.agg (aU r (bM r ai.length s ai 0).2.1), .int .i64 (bM r ai.length s ai 0).2.2.1, .int .i64 (bM r ai.length s ai 0).2.2.2]),H):=by
 rw [gZ rfl rfl rfl];exact An (c:=c) hW (ub r H hH) ai hal hA hS hF
end
section
variable {c:Nat} {H:aj}
theorem tu {G:aj}{nm:Nm}{b:dF}(h:nm.1<G.length): ∀pre:aj,aj.set (pre++G) nm b=pre++aj.set G nm b
 | []=>rfl
 |X::pre=>by
  show aj.set (X::(pre++G)) nm b=_
  rw [aj.mM,if_neg (by simp;omega),tu h pre];rfl
structure SrP (r:aC)(w:Nat)(ai:List ak)(nU:Nat)(n3 n8 n9 n11 n15 n16 n17:Nm)(n0:Nat)(C:GV→aj):Prop where
 pos:0<n0
 len: ∀g,(C g).length=n0
 l3:n3.1<n0
 l8:n8.1<n0
 l9:n9.1<n0
 l11:n11.1<n0
 l15:n15.1<n0
 l16:n16.1<n0
 l17:n17.1<n0
 g3: ∀g,(C g).get n3=some (aD r)
 g8: ∀g,(C g).get n8=some (.box [.pure (.slice (ai.map ak.row))])
 g9: ∀g,(C g).get n9=some (.box [.pure (.int .i64 w)])
 g11: ∀g,(C g).get n11=some (.box [.pure (.int .i64 nU)])
 T7: ∀g,(C g).get n15=some (.box [.func 114 [] [.aA n3 0, .aA n9 0]])
 g16: ∀g,(C g).get n16=some (.box [g])
 s16: ∀g g',(C g).set n16 (.box [g'])=C g'
 g17: ∀g,(C g).get n17=some (.box [.func 116 [] [.aA n8 0, .aA n11 0, .aA n16 0, .aA n15 0, .aA n9 0, .aA n17 0]])
structure zE (r:aC)(w:Nat)(ai:List ak)(nU:Nat):Prop where
 hr:sJ r
 wl:w<r.ah.length
 ab: ∀a∈ai,AB r a.aQ.toNat a
 len:ai.length≤1000000
 u:nU≤ai.length
section
variable {r:aC} {w:Nat} {ai:List ak} {nU:Nat} {n3 n8 n9 n11 n15 n16 n17:Nm} {n0:Nat} {C:GV→aj} (M:SrP r w ai nU n3 n8 n9 n11 n15 n16 n17 n0 C) (P:zE r w ai nU)
include M P
theorem aeg {s:az}(hS:gz r s)(hF:Full s)(l:List ak)(g:GV)(pre:aj):
  bF KC (aG KC) 116 [.pure (.agg (aU r s)), .pure (.slice (l.map ak.row)), .pure (.int .i64 0), .aA n8 0, .aA n11 0, .aA n16 0, .aA n15 0, .aA n9 0, .aA n17 0] c (pre++C g)=
   some (.pure (.bool (qz r (ai.drop nU) s l)),pre++C (.pure (.slice (l.map ak.row)))):=by
 refine aM (aH KC au Tryz.func116 rfl rfl Fc (by simp) (by simp [M.len];have:=M.pos;omega) ?_);have hlen:=M.len;have G:=fun(g:GV) (nm:Nm) (h:nm.1<n0)=>oz (G:=C g) (nm:=nm) (by rw [hlen];exact h) pre;have G8:=fun g=>(G g n8 M.l8).trans (M.g8 g);have G11:=fun g=>(G g n11 M.l11).trans (M.g11 g);have G16:=fun g=>(G g n16 M.l16).trans (M.g16 g);have S16:=fun g g'=>(tu (G:=C g) (nm:=n16) (b:= .box [g']) (by rw [hlen];exact M.l16) pre).trans (by rw [M.s16 g g']);have ne8: ¬n8.1=pre.length+n0:=(by have:=M.l8;omega);have ne11: ¬n11.1=pre.length+n0:=(by have:=M.l11;omega);have ne16: ¬n16.1=pre.length+n0:=(by have:=M.l16;omega);have R:=fun(c:Nat) (H:aj) (hH:0<H.length)=>Gq (c:=c) (H:=H) P.hr.w (ai.drop nU) (by have:=P.len;simp;omega) (fun a ha=>P.ab a (List.mem_of_mem_drop ha)) hS hF hH;have hsn:=(jD (ai.drop nU).length s (ai.drop nU) 0 hS (fun a ha=>P.ab a (List.mem_of_mem_drop ha))).1;unfold qz;obtain⟨q,hq⟩: ∃q,bM r (ai.drop nU).length s (ai.drop nU) 0=q:=⟨_,rfl⟩;rw [hq]at R hsn⊢;have O:=fun(c:Nat) (H:aj) (hH:0<H.length)=>wO (c:=c) (H:=H) r q.2.1 P.hr.w.tl (by rw [hsn.hl];exact P.hr.w.pl) hsn.tl hH;rw [aU]at R O;rw [aU]at R;rw [aU];have hu:=P.u;have hdm:List.drop nU (ai.map ak.row)=(ai.drop nU).map ak.row:=(by rw [List.map_drop]);have hall: ∀x:ak,x.row.length=9:=fun _=>rfl;have tl:List.take ai.length (ai.map ak.row)=ai.map ak.row:=List.take_of_length_le (by simp);by_cases he:q.2.2.2=0
 ·rw [he]at R⊢;simp [hlen,G8,G11,G16,S16,ne8,ne11,ne16,hu,hdm,hall,tl,R,O,-List.map_drop,ae]
 ·have he':(q.2.2.2==0)=false:=(by simpa using he);simp [hlen,G8,G11,G16,S16,ne8,ne11,ne16,hu,hdm,hall,tl,R,O,he,he',-List.map_drop,ae]
end
end
section
variable {c:Nat} {H:aj}
def lY (r:aC)(w:Nat)(all:List ak)(g:GV)(ai:List ak)(m:Int):dF:=
 .box [.pure (.int .i64 r.wide), .pure (.int .i64 r.deep), .pure (.slice (r.ah.map aS.row)), .pure (.slice (r.aa.map aY.row)), .pure (.slice (r.seen.map aE)), .pure (.slice (r.aP.map aE)), .pure (.slice (r.ai.map ak.row)), .pure (.int .i64 w), .pure (.slice (all.map ak.row)),g, .pure (.slice (ai.map ak.row)), .pure (.int .i64 m)]
theorem Iu {r:aC}(sh:eL r){w:Nat}{all ai:List ak}{g:GV}{m:Int}{s:az}{a:ak}{nm:Nm}(hg:H.get nm=some (lY r w all g ai m))(hS:gz r s)(hW:WB r)(hA:AB r w a)(hH:0<H.length):
  aL KC (aG KC) 119 [.aA nm 0, .pure (.agg s.row), .pure (.agg a.row)] c H=some (.pure (.bool (qv r s w a)),H):=by
 refine aM (aW KC au Tryz.func119 rfl rfl N0 rfl rfl rfl (by simp) hH ?_);have hlt:=aj.bP hg;have ne: ¬nm.1=H.length:=(by omega);have hww:r.wide≠0:=(by have:=hW.w1;omega);have hwl:=hA.wl;have hwp:w<s.ah.length:=(by rw [hS.pl];exact hwl);have P:=fun(c:Nat) (H:aj) (hH:0<H.length)=>jG (c:=c) (H:=H) hS.toHe hwl hW.pl hww (Ay hA) hH;have C:=fun(c:Nat) (to:Int) (H:aj) (hH:0<H.length)=>yH (c:=c) (H:=H) (l:=r.seen) (m:=[s.ah[w],to]) sh.s (by simp) hH;have hgd:s.ah.getD w 0=s.ah[w]:=bf hwp;have hd:=sH r s w a;rw [hgd]at hd;rw [hd];rw [lY]at hg;rw [cI]at P;unfold az.row at P⊢;rw [bp]at P⊢;simp only [List.map_cons,List.map_nil,aE]at C;by_cases k1:a.kind=1
 ·rw [k1]at P⊢;simp only [if_true]
  cases hp:bW r s w a with
  |false=>simp [hg,hlt,ne,hwp,P,hp,aE,ae]
  |true=>simp [hg,hlt,ne,hwp,P,hp,aE,C,ae]
 ·have k1':(a.kind==1)=false:=(by simpa using k1);rw [if_neg k1]
  cases hp:bW r s w a with
  |false=>simp [hg,hlt,ne,hwp,P,hp,aE,k1,k1',ae]
  |true=>simp [hg,hlt,ne,hwp,P,hp,aE,k1,k1',C,ae]
end
section
variable {c:Nat} {H:aj}
def C5 (l:Nat)(g:GV):Prop:= ∀nm es top lo len,g= .aZ nm es top lo len→nm.1=l
theorem dL {l:Nat}{p:PV}:C5 l (.pure p):=fun _ _ _ _ _ h=>by cases h
theorem sR {l k es:Nat}{rows:List (List PV)}:C5 l (cH (l,k) es rows):=fun nm es top lo len h=>by
 unfold cH at h;split at h
 ·cases h
 ·cases h;rfl
theorem Gr {F:Fr}{nm:Nm}{b:dF}(h:nm.1=H.length): ∀pre:aj,aj.set (pre++F::H) nm b=pre++F.ins nm.2 b::H
 | []=>by
  show aj.set (F::H) nm b=_
  rw [aj.mM,if_pos h];rfl
 |X::pre=>by
  show aj.set (X::(pre++F::H)) nm b=_
  rw [aj.mM,if_neg (by simp;omega),Gr h pre];rfl
theorem vg {F:Fr}{g:GV}(h:C5 H.length g)(pre:aj): ∃F',(dH (pre++F::H) g).2=pre++F'::H:=by
 cases g with
 |aZ nm es top lo len=>
  have hn:=h _ _ _ _ _ rfl;simp only [dH,dI];split
  ·split
   ·exact⟨_,Gr hn pre⟩
   ·exact⟨F,rfl⟩
  ·exact⟨F,rfl⟩
 |_=>exact⟨F,rfl⟩
theorem tv (pre:aj): ∀{l:List GV} {F:Fr},(∀g∈l,C5 H.length g)→ ∃F',(fO (pre++F::H) l).2=pre++F'::H
 | [],F,_=>⟨F,rfl⟩
 |g::l,F,h=>by
  obtain⟨F1,e1⟩:=vg (F:=F) (h g (List.mem_cons_self ..)) pre;obtain⟨F2,e2⟩:=tv pre (l:=l) (F:=F1) fun x hx=>h x (List.mem_cons_of_mem _ hx);exact⟨F2,by simp only [fO,e1,e2]⟩
def Em (L:Nat):GV→Prop
 | .agg l=> ∀x∈l,C5 L x
 |g=>C5 L g
theorem xO {F:Fr}{g:GV}(h:Em H.length g)(pre:aj): ∃F',(dr (pre++F::H) g).2=pre++F'::H:=by
 cases g with
 |agg l=>
  obtain⟨F',e⟩:=tv pre (F:=F) (l:=l) h;exact⟨F',by simp only [dr,e]⟩
 |_=>exact vg h pre
theorem Iv {H:aj}{g:GV}{q:PV}(hg:FC H g q):canon (dr H g).1= .pure q:=by
 have h3:=(rm hg).1
 cases g with
 |aZ nm es top lo len=>
  show canon (dH H (.aZ nm es top lo len)).1=_
  have e: ∃p,(dH H (.aZ nm es top lo len)).1= .pure p:=⟨_,rfl⟩;obtain⟨p,hp⟩:=e;rw [hp]at h3⊢;have:p=q:=by
   have h4:cJ (.pure p)=GV.pure p:=rfl;rw [h4]at h3;cases h3;rfl
  rw [this];obtain⟨rows,v,ro,a1,a2,a3,a4,a5,a6⟩:=hg;rw [a6];rfl
 |pure p=>cases hg;rfl
 |aR=>cases hg;rfl
 |_=>exact hg.elim
inductive oK (H:aj) (F:Fr) (pre:aj):List GV→List GV→Prop
 |nil:oK H F pre [] []
 |ptr {nm:Nm} {o:Nat} {l m:List GV} (h:oK H F pre l m):oK H F pre (.aA nm o::l) (.aA nm o::m)
 |rd {g:GV} {q:PV} {l m:List GV} (hg:mC (pre++F::H) g q) (ht:Em H.length g) (h:oK H F pre l m):oK H F pre (g::l) (.pure q::m)
 |T8 {g:GV} {q:PV} {l m:List GV} (hg:FC (pre++F::H) g q) (hq:canon (.pure q)= .pure q) (ht:Em H.length g) (h:oK H F pre l m):oK H F pre (g::l) (.pure q::m)
theorem mm.pre {F F':Fr}(h:rJ F F'): ∀pre:aj,mm (pre++F::H) (pre++F'::H)
 | []=> .cons h (mm.refl H)
 |X::pre=> .cons (rJ.refl X) (mm.pre h pre)
theorem rJ.E8 {F F':Fr}: ∀{pre:aj},mm (pre++F::H) (pre++F'::H)→rJ F F'
 | [],h=>by cases h with|cons a _=>exact a
 |X::pre,h=>by cases h with|cons _ b=>exact rJ.E8 b
theorem oK.ro {F F':Fr}{pre:aj}(hr:rJ F F'){l m:List GV}(h:oK H F pre l m):oK H F' pre l m:=by
 induction h with
 |nil=>exact .nil
 |ptr _ ih=>exact .ptr ih
 |rd hg ht _ ih=>exact .rd (nO (mm.sim (mm.pre hr pre)) hg) ht ih
 |T8 hg hq ht _ ih=>exact .T8 (FD (mm.sim (mm.pre hr pre)) hg) hq ht ih
theorem vP {pre:aj}: ∀{l m:List GV} {F:Fr},oK H F pre l m→ ∃F',rJ F F'∧(bu (pre++F::H) l).2=pre++F'::H∧(bu (pre++F::H) l).1.map canon=m.map canon
 |_,_,F, .nil=>⟨F,rJ.refl F,rfl,rfl⟩
 |_,_,F, .ptr h=>by
  obtain⟨F',r,e1,e2⟩:=vP h;refine⟨F',r, ?_, ?_⟩
  ·simp only [bu,dr,dH,e1]
  ·simp only [bu,dr,dH,List.map_cons,e2]
 |g::l,_,F, .rd hg ht h=>by
  obtain⟨F1,e1⟩:=xO (F:=F) ht pre;have r1:rJ F F1:=by
   have:=zn (pre++F::H) g;rw [e1]at this;exact rJ.E8 this
  obtain⟨F',r,e2,e3⟩:=vP (h.ro r1);have hc:=(nQ hg).1;refine⟨F',r1.trans r, ?_, ?_⟩
  ·simp only [bu,e1,e2]
  ·simp only [bu,e1,List.map_cons,e3,hc];congr 1
 |g::l,_,F, .T8 hg hq ht h=>by
  obtain⟨F1,e1⟩:=xO (F:=F) ht pre;have r1:rJ F F1:=by
   have:=zn (pre++F::H) g;rw [e1]at this;exact rJ.E8 this
  obtain⟨F',r,e2,e3⟩:=vP (h.ro r1);have hc:=Iv hg;refine⟨F',r1.trans r, ?_, ?_⟩
  ·simp only [bu,e1,e2]
  ·simp only [bu,e1,List.map_cons,e3,hc,hq]
theorem m0 {f:FuncId}(h1:KC.xS f=false)(h2:KC.Be f=false)(h3:KC.ID f=true)(pre:aj){l m:List GV}{F:Fr}(h:oK H F pre l m):
  ∃F',rJ F F'∧ ∀c,aL KC (aG KC) f l c (pre++F::H)=bF KC (aG KC) f m c (pre++F'::H):=by
 obtain⟨F',r,e1,e2⟩:=vP h;refine⟨F',r,fun c=> ?_⟩;rw [gZ h1 h2 h3,e1];exact qM e2
theorem Yv {F:Fr}{k1 k2 k3:Nat}{s:az}(hF:F.gU)(hs:SA F k1 k2 k3 s)(jP:k1≠k2)(kL:k1≠k3)(jZ:k2≠k3){w:Nat}{a:ak}(hb:DS s w a)(hhl:s.aq.length≤1000000):
  ∃F',F'.gU∧SA F' k1 k2 k3 (cX s w a)∧(∀k,k≠k1→k≠k2→k≠k3→F'.get k=F.get k)∧
  aL KC (aG KC) 51 [Ar H.length k1 k2 k3 s, .pure (.agg a.row)] c (F::H)=some (.pure (.tuple []),F'::H):=by
 have LD:=ig (s:=s) (w:=w) hb.kind;by_cases t0:s.aa=[]
 ·rw [FO t0];have k:=D4 hb t0;obtain⟨v1,a1,b1⟩:=hs.h1;obtain⟨v2,a2,b2⟩:=hs.h2;have D:=ad1 (c:=c) (H:=F::H) (n1:=(H.length,k1)) (n2:=(H.length,k2)) (v1:=v1) (v2:=v2) (s:=s) (w:=w) (a:=a) (by simp [b1]) a1 (by simp [b2]) a2 hb.hp hb.hh hb.aQ hb.hand k (by simp);refine⟨F.ins k1 (.arr 1 ((cX s w a).ah.map aE) s.ah.length false),Fr.cB hF,⟨⟨s.ah.length,by omega,Fr.a7 ..⟩,⟨v2,by omega, ?_⟩,fun h=>absurd (List.eq_nil_of_length_eq_zero (by rw [LD.2.2,t0];rfl)) h⟩,fun k h1 _ _=>Fr.aw _ h1 _,D.trans ?_⟩
  ·rw [Fr.aw _ jP.symm,b2,kq k]
  ·simp
 ·rw [FN t0];obtain⟨u3,a3,b3⟩:=hs.h3 t0;obtain⟨u1,a1,b1⟩:=hs.h1;obtain⟨u2,a2,b2⟩:=hs.h2;have nn: ∀a b:Nat,a≠b→((H.length,a):Nm)≠(H.length,b):=fun a b h e=>h (Prod.mk.inj e).2;have st: ∀k b,F.get k=some b→aj.set (F::H) (H.length,k) b=F::H:=fun k b hb=>(by simp [Fr.pQ hF hb]);have S:lI (F::H) (H.length,k1) (H.length,k2) (H.length,k3) u1 u2 u3 s:={jP:=nn _ _ jP,kL:=nn _ _ kL,jZ:=nn _ _ jZ,g1:=by simpa using b1,g2:=by simpa using b2,g3:=by simpa using b3,e1:=a1,e2:=a2,e3:=a3,s1:=st _ _ b1,s2:=st _ _ b2,s3:=st _ _ b3};obtain⟨v1,v2,v3,q1,q2,q3,e⟩:=KE (c:=c) S hb hhl (by simp);refine⟨((F.ins k1 (.arr 1 ((cX s w a).ah.map aE) v1 false)).ins k2 (.arr 2 ((cX s w a).aq.map aF.row) v2 false)).ins k3 (.arr 2 ((cX s w a).aa.map bm.row) v3 false),Fr.cB (Fr.cB (Fr.cB hF)),⟨⟨v1,by omega,by rw [Fr.aw _ kL,Fr.aw _ jP,Fr.a7]⟩,⟨v2,by omega,by rw [Fr.aw _ jZ,Fr.a7]⟩,fun _=>⟨v3,by omega,by rw [Fr.a7]⟩⟩,fun k h1 h2 h3=>by rw [Fr.aw _ h3,Fr.aw _ h2,Fr.aw _ h1],e.trans ?_⟩;simp [cn]
theorem pO.rd {F:Fr}{g:GV}{A:List ak}(h:pO H F g A):FC (F::H) g (.slice (A.map ak.row)):=by
 rcases h with ⟨rfl,rfl⟩|⟨hne,key,v,rfl,hg,hv⟩
 ·rfl
 ·exact⟨A.map ak.row,v,false,by simpa using hg,by simpa using hv,by simp,rfl,rfl,rfl⟩
theorem pO.top {F:Fr}{g:GV}{A:List ak}(h:pO H F g A):Em H.length g:=by
 rcases h with ⟨rfl,rfl⟩|⟨hne,key,v,rfl,hg,hv⟩
 ·intro nm es top lo len e;cases e
 ·intro nm es top lo len e;cases e;rfl
end
section
variable {c:Nat} {H:aj}
noncomputable def xU (S:bd)(st:LoopState)(p:Option GX):gj:={eK:=S,nt:=69,params:=[44],assign:=rgA Tryz.f116,body:=rgB Tryz.f116,fn:=116,state:=st,pending:=p}
def E9 (r:aC)(s:az)(l:List ak)(n:Int)(b:Bool)(lb:gj):Fr:=
 [(9,bT r s),(10, .box [.pure (.slice (l.map ak.row))]),(11, .box [.pure (.int .i64 n)]),(12, .box [.pure (.bool b)]),(10000010, .loop lb)]
def CT (r:aC)(s:az)(l:List ak)(n:Int)(b:Bool)(lb:gj)(G:aj):aj:=E9 r s l n b lb::G
section
variable {r:aC} {s:az} {l:List ak} {n:Int} {b:Bool} {lb:gj} {G:aj} {L:Nat} (hL:G.length=L) (pre:aj)
include hL
theorem Yw:(pre++CT r s l n b lb G).length=pre.length+(L+1):=by simp [CT,hL]
theorem uo (k:Nat):aj.get (pre++CT r s l n b lb G) (L,k)=(E9 r s l n b lb).get k:=by
 rw [oz (by simp [CT,hL])];unfold CT;rw [aj.gX,if_pos hL.symm]
theorem Yx {nm:Nm}(h:nm.1<L):aj.get (pre++CT r s l n b lb G) nm=aj.get G nm:=by
 rw [oz (by simp [CT,hL];omega)];unfold CT;rw [aj.gX,if_neg (by omega)]
theorem Gs (lb':gj):aj.set (pre++CT r s l n b lb G) (L,10000010) (.loop lb')=pre++CT r s l n b lb' G:=by
 rw [tu (by simp [CT,hL])];unfold CT;rw [aj.mM,if_pos hL.symm];rfl
theorem Qn (b':Bool):aj.set (pre++CT r s l n b lb G) (L,12) (.box [.pure (.bool b')])=pre++CT r s l n b' lb G:=by
 rw [tu (by simp [CT,hL])];unfold CT;rw [aj.mM,if_pos hL.symm];rfl
end
theorem KW (l:List ak)(hn:l.length≤1000000){F:Fr}(hf:F.get (ao c 7)=none): ∃g F',pO H F' g l∧(∀q top,g= .aZ (H.length,q) 9 top 0 top→q=ao c 7)∧(∀k,k≠ao c 7→F'.get k=F.get k)∧
  aL KC (aG KC) 75 [.pure (.slice (l.map ak.row))] c (F::H)=some (g,F'::H):=by
 refine⟨_,_, ?_, ?_, ?_,Kv l hn hf⟩
 ·unfold cH;by_cases h:l=[]
  ·subst h;exact Or.inl ⟨rfl,rfl⟩
  ·refine Or.inr ⟨h,ao c 7,0,by rw [if_neg (by simpa using h)];simp, ?_,Nat.zero_le _⟩;exact dg (by simpa using h)
 ·intro q top e;unfold cH at e;split at e
  ·cases e
  ·cases e;rfl
 ·intro k hk;exact bE hk
noncomputable def CTs (r:aC)(s:az)(l:List ak)(n:Nat)(S:bd)(up:aj→aj)(C:GV→aj)(a:GV×Bool):aj:=
 CT r s l ((n:Int)+1) a.2 (xU S (if a.2=true then .done else .ready) (if a.2=true then some .ret else none)) (up (C a.1))
section
variable {r:aC} {w:Nat} {ai:List ak} {nU:Nat} {n3 n8 n9 n11 n15 n16 n17:Nm} {n0:Nat} {C:GV→aj} (M:SrP r w ai nU n3 n8 n9 n11 n15 n16 n17 n0 C) (P:zE r w ai nU)
include M P
theorem Yy {fin:az→List ak→Bool} {all:List ak} {s:az} (hS:gz r s) (hF:Full s) (l:List ak) (hl:l.length≤100000) {n:Nat} (hn:n≤1000)
  (ih: ∀(c:Nat) (s:az) (l:List ak) (g:GV) (pre:aj),gz r s→Full s→l.length+n≤100001→
   bF KC (aG KC) 116 [.pure (.agg (aU r s)), .pure (.slice (l.map ak.row)), .pure (.int .i64 n), .aA n8 0, .aA n11 0, .aA n16 0, .aA n15 0, .aA n9 0, .aA n17 0] c (pre++C g)=
    some (.pure (.bool (iC r w all fin n s l g).2),pre++C (iC r w all fin n s l g).1))
  (hln:l.length+1+n≤100001) {x:ak} (hx:AB r w x) (hp:bW r s w x=true) (S:bd) {L:Nat} (pre0:aj) (hL:pre0.length+n0=L) (h9:look S 9= .aA (L,9) 0) (h10:look S 10= .aA (L,10) 0) (h11:look S 11= .aA (L,11) 0) (h12:look S 12= .aA (L,12) 0) (h6:look S 6= .aA n15 0) (h8:look S 8= .aA n17 0) (g:GV) (pre:aj):
  ground (aG KC) (L,10000010) [.pure (.agg x.row)] (pre++CT r s l ((n:Int)+1) false (xU S .ready none) (pre0++C g))=
   some (.pure (.bool (if il r w (cX s w x)=true then true else !(iC r w all fin n (cX s w x) (l++[x]) g).2)),pre++CTs r s l n S (pre0++ ·) C (if il r w (cX s w x)=true then (g,false)else iC r w all fin n (cX s w x) (l++[x]) g)):=by
 have hG: ∀g,(pre0++C g).length=L:=fun g=>(by rw [List.length_append,M.len,hL]);have gl:=fun(lb:gj) (g:GV) (b:Bool) (pre:aj)=>uo (r:=r) (s:=s) (l:=l) (n:=(n:Int)+1) (b:=b) (lb:=lb) (hG g) pre 10000010;refine aM (Gy KC au (l:=xU S .ready none) (s:=(44, .pure (.agg x.row))::S) ?_ rfl ?_ ?_ ?_ ?_)
 ·rw [gl];rfl
 ·simp [xU,iE]
 ·kernel_rfl
 ·kernel_rfl
 ·show wp KC au 116 (rgA Tryz.f116) _ _
  conv=>arg 4;whnf
  have ln:=fun lb g b pre=>Yw (r:=r) (s:=s) (l:=l) (n:=(n:Int)+1) (b:=b) (lb:=lb) (hG g) pre;have gl2:=fun(lb:gj) (g:GV) (b:Bool) (pre:aj)=>(gl lb g b pre).trans (show _=some (.loop lb)from rfl)
  have sl:=fun(lb lb':gj) (g:GV) (b:Bool) (pre:aj)=>Gs (r:=r) (s:=s) (l:=l) (n:=(n:Int)+1) (b:=b) (lb:=lb) (hG g) pre lb';have g9:=fun(lb:gj) (g:GV) (b:Bool) (pre:aj)=>(uo (r:=r) (s:=s) (l:=l) (n:=(n:Int)+1) (b:=b) (lb:=lb) (hG g) pre 9).trans (show _=some (bT r s)from rfl)
  have g10:=fun(lb:gj) (g:GV) (b:Bool) (pre:aj)=>(uo (r:=r) (s:=s) (l:=l) (n:=(n:Int)+1) (b:=b) (lb:=lb) (hG g) pre 10).trans (show _=some (.box [.pure (.slice (l.map ak.row))])from rfl)
  have g11:=fun(lb:gj) (g:GV) (b:Bool) (pre:aj)=>(uo (r:=r) (s:=s) (l:=l) (n:=(n:Int)+1) (b:=b) (lb:=lb) (hG g) pre 11).trans (show _=some (.box [.pure (.int .i64 ((n:Int)+1))])from rfl)
  have low:=fun(lb:gj) (g:GV) (b:Bool) (pre:aj) (nm:Nm) (h:nm.1<n0)=>(Yx (r:=r) (s:=s) (l:=l) (n:=(n:Int)+1) (b:=b) (lb:=lb) (hG g) pre (nm:=nm) (by omega)).trans (oz (G:=C g) (by rw [M.len];exact h) pre0);have g3:=fun(lb:gj) (g:GV) (b:Bool) (pre:aj)=>(low lb g b pre n3 M.l3).trans (M.g3 g);have g9':=fun(lb:gj) (g:GV) (b:Bool) (pre:aj)=>(low lb g b pre n9 M.l9).trans (M.g9 g);have T7:=fun(lb:gj) (g:GV) (b:Bool) (pre:aj)=>(low lb g b pre n15 M.l15).trans (M.T7 g);have g17:=fun(lb:gj) (g:GV) (b:Bool) (pre:aj)=>(low lb g b pre n17 M.l17).trans (M.g17 g);have m15:=M.l15;have m17:=M.l17;have e0: ¬L=pre.length+(L+1):=(by omega);have e1: ¬L=pre.length+(L+1)+1:=(by omega);have e15: ¬n15.1=pre.length+(L+1):=(by omega);have e15': ¬n15.1=pre.length+(L+1)+1:=(by omega);have e17: ¬n17.1=pre.length+(L+1):=(by omega);have e17': ¬n17.1=pre.length+(L+1)+1:=(by omega);have hS2:=hS.TY hx hp;have hF2:=kT hS hS2 hF;have hxw:x.aQ.toNat=w:=(by rw [hx.aQ];rfl);have MN:=fun(c:Nat) (H:aj) (hH:0<H.length)=>yP (c:=c) (H:=H) hS P.hr.w hF [x] (by simp) (fun a ha=>by rw [List.mem_singleton.1 ha,hxw];exact hx) hH;rw [wW (by rw [hxw];exact hp),hxw]at MN;simp only [List.map_cons,List.map_nil]at MN;have SN:=fun(c:Nat) (lb:gj) (g:GV) (b:Bool) (pre:aj)=>Gp (c:=c) (H:=pre++CT r s l ((n:Int)+1) b lb (pre0++C g)) P.hr.sh (s:=cX s w x) (w:=w) (by rw [hS2.pl];exact P.wl) (g3 lb g b pre) (g9' lb g b pre) (by rw [ln];omega);have SN2:=fun c lb g b X=>SN c lb g b (X::pre);simp only [List.cons_append]at SN2;rw [bp]at MN;rw [aU,aU]at MN;rw [aU]at SN2;simp [Bf,bp,ln,gl2,sl];refine⟨by show 16<69;omega,rfl, ?_⟩
  show wp KC au 116 (rgB Tryz.f116) ⟨_,_::(pre++CT r s l ((n:Int)+1) false (xU S .busy none) (pre0++C g)),69⟩ _
  conv=>arg 4;whnf
  cases hs2:il r w (cX s w x)with
  |true=>
   rw [hs2]at SN2;simp [h9,h10,h11,h12,h6,h8,ln,g9,bT,e0,MN,SN2,e15,e17,T7,oO,gl2,sl];rfl
  |false=>
   rw [hs2]at SN2;obtain⟨gc,F1,L1,k1,f1,CE⟩:=KW (c:=61) (H:=pre++CT r s l ((n:Int)+1) false (xU S .busy none) (pre0++C g)) l (by omega) (F:=[(16, .box [.pure (.int .i64 x.bc), .pure (.int .i64 x.aQ), .pure (.int .i64 x.kind), .pure (.int .i64 x.hand), .pure (.int .i64 x.bh), .pure (.int .i64 x.cell), .pure (.int .i64 x.other), .pure (.int .i64 x.cY), .pure (.int .i64 x.jV)]),(17, .box [.pure (.int .i64 r.wide), .pure (.int .i64 r.deep), .pure (.slice (r.ah.map aS.row)), .pure (.slice (r.aa.map aY.row)), .pure (.slice (r.seen.map aE)), .pure (.slice (r.aP.map aE)), .pure (.slice (r.ai.map ak.row)), .pure (.slice ((cX s w x).ah.map aE)), .pure (.slice ((cX s w x).aq.map aF.row)), .pure (.slice ((cX s w x).aa.map bm.row))])]) (by simp [ao]);have d16:(16:Nat)≠ao 61 7:=(by decide);have d64:(64:Nat)≠ao 61 7:=(by decide);have f16:=f1 16 d16;have f64:=f1 64 d64;have f17:=f1 17 (by decide);simp at f16 f64 f17;simp [h9,h10,h11,h12,h6,h8,ln,g9,g10,g11,bT,e0,MN,SN2,e15,e17,T7,g17,CE,f16,f17,-dc];rw [←ln (xU S .busy none) g false pre];refine sV (key:=64) (H:=pre++CT r s l ((n:Int)+1) false (xU S .busy none) (pre0++C g)) x L1 f64 (by omega) _ fun g2 F2 L2 k2 f2=> ?_;have nk: ∀q,q≠ao 61 7→ ∀top,gc≠ .aZ ((pre++CT r s l ((n:Int)+1) false (xU S .busy none) (pre0++C g)).length,q) 9 top 0 top:=fun q hq top e=>hq (k1 q top e);have f16':=(f2 16 (by decide) (nk 16 d16)).trans f16;have f17':=(f2 17 (by decide) (nk 17 (by decide))).trans f17;obtain⟨F3,r3,e3⟩:=m0 (f:=116) rfl rfl rfl [] (F:=F2) (H:=pre++CT r s l ((n:Int)+1) false (xU S .busy none) (pre0++C g)) (.rd (g:= .pure (.agg (aU r (cX s w x)))) rfl dL (.T8 L2.rd rfl L2.top (.rd (g:= .pure (.int .i64 n)) rfl dL (.ptr (nm:=n8) (o:=0) (.ptr (nm:=n11) (o:=0) (.ptr (nm:=n16) (o:=0) (.ptr (nm:=n15) (o:=0) (.ptr (nm:=n9) (o:=0) (.ptr (nm:=n17) (o:=0) .nil)))))))));have I0:=ih 67 (cX s w x) (l++[x]) g ((F3::pre)++[E9 r s l ((n:Int)+1) false (xU S .busy none)]++pre0) hS2 hF2 (by simp;omega);have hsh: ∀g,((F3::pre)++[E9 r s l ((n:Int)+1) false (xU S .busy none)]++pre0)++C g=F3::(pre++CT r s l ((n:Int)+1) false (xU S .busy none) (pre0++C g)):=fun g=>(by simp [CT]);rw [hsh,hsh]at I0;have I:=(e3 67).trans I0;have fl:=fun(lb:gj) (g:GV) (b b':Bool) (pre:aj)=>Qn (r:=r) (s:=s) (l:=l) (n:=(n:Int)+1) (b:=b) (lb:=lb) (hG g) pre b';have qQ:=fun(lb:gj) (g:GV) (b:Bool) (pre:aj)=>(uo (r:=r) (s:=s) (l:=l) (n:=(n:Int)+1) (b:=b) (lb:=lb) (hG g) pre 12).trans (show _=some (.box [.pure (.bool b)])from rfl)
   have hwn:=cU (x:=(n:Int)) (by omega) (by omega);rw [aU]at I;simp only [List.nil_append]at I;generalize hT:iC r w all fin n (cX s w x) (l++[x]) g=T at I⊢;obtain⟨Tg,Tb⟩:=T
   cases Tb with
   |true=>
    simp only at I;simp [h9,h10,h11,h12,h6,h8,ln,g9,g10,g11,bT,e0,e15,e17,T7,g17,f16',f17',hwn,I,fl,qQ,oO,gl2,sl];rfl
   |false=>
    simp only at I;simp [h9,h10,h11,h12,h6,h8,ln,g9,g10,g11,bT,e0,e15,e17,T7,g17,f16',f17',hwn,I,fl,qQ,oO,gl2,sl];rfl
end
end
section
variable {c:Nat} {H:aj}
section
variable {r:aC} {w:Nat} {ai:List ak} {nU:Nat} {n3 n8 n9 n11 n15 n16 n17:Nm} {n0:Nat} {C:GV→aj} (M:SrP r w ai nU n3 n8 n9 n11 n15 n16 n17 n0 C) (P:zE r w ai nU)
include M P
theorem aeh {fin:az→List ak→Bool} {all:List ak} {s:az} (hS:gz r s) (hF:Full s) (l:List ak) (hl:l.length≤100000) {n:Nat} (hn:n≤1000)
  (ih: ∀(c:Nat) (s:az) (l:List ak) (g:GV) (pre:aj),gz r s→Full s→l.length+n≤100001→
   bF KC (aG KC) 116 [.pure (.agg (aU r s)), .pure (.slice (l.map ak.row)), .pure (.int .i64 n), .aA n8 0, .aA n11 0, .aA n16 0, .aA n15 0, .aA n9 0, .aA n17 0] c (pre++C g)=
    some (.pure (.bool (iC r w all fin n s l g).2),pre++C (iC r w all fin n s l g).1))
  (hln:l.length+1+n≤100001) (S:bd) {L:Nat} (pre0:aj) (hL:pre0.length+n0=L) (h9:look S 9= .aA (L,9) 0) (h10:look S 10= .aA (L,10) 0) (h11:look S 11= .aA (L,11) 0) (h12:look S 12= .aA (L,12) 0) (h6:look S 6= .aA n15 0) (h8:look S 8= .aA n17 0):
  CX (L,10000010) (L+1) (GV×Bool) (CTs r s l n S (pre0++ ·) C) (bW r s w) (fun x (a:GV×Bool)=>if il r w (cX s w x)=true then true else !(iC r w all fin n (cX s w x) (l++[x]) a.1).2)
   (fun x (a:GV×Bool)=>if il r w (cX s w x)=true then a else iC r w all fin n (cX s w x) (l++[x]) a.1) (fun a=>a.2=false) (AB r w) where
 pos:=by omega
 lp:=by simp
 len:=fun a=>by simp [CTs,CT,M.len,hL]
 gr:=fun x a pre hx hp ha=>by
  obtain⟨g,b⟩:=a;simp only at ha;subst ha;exact Yy M P hS hF l hl hn ih hln hx hp S pre0 hL h9 h10 h11 h12 h6 h8 g pre
 okn:=fun x a hx ha hc=>by
  split at hc
  ·rename_i hs;rw [if_pos hs];exact ha
  ·rename_i hs;rw [if_neg hs];simpa using hc
theorem Iw {fin:az→List ak→Bool} {s:az} (hS:gz r s) (hF:Full s) (l:List ak) (hl:l.length≤100000) {n nc:Nat} (hn:n≤1000) (hnc:IntKind.i64.wrap (r.wide*r.deep)=nc) (hnc2:(nc:Int)=r.wide*r.deep) (hnc0:nc≤1000000)
  (ih: ∀(c:Nat) (s:az) (l:List ak) (g:GV) (pre:aj),gz r s→Full s→l.length+n≤100001→
   bF KC (aG KC) 116 [.pure (.agg (aU r s)), .pure (.slice (l.map ak.row)), .pure (.int .i64 n), .aA n8 0, .aA n11 0, .aA n16 0, .aA n15 0, .aA n9 0, .aA n17 0] c (pre++C g)=
    some (.pure (.bool (iC r w (bQ nc r.aa.length r.ah.length w) fin n s l g).2),pre++C (iC r w (bQ nc r.aa.length r.ah.length w) fin n s l g).1))
  (hln:l.length+1+n≤100001) {L:Nat} (pre0:aj) (hL:pre0.length+n0=L) (g:GV) (hs:il r w s=false) (st:bN) (Q:GX→bN→Prop)
  (hh:st.h=[(9,bT r s),(10, .box [.pure (.slice (l.map ak.row))]),(11, .box [.pure (.int .i64 ((n:Int)+1))]),(12, .box [.pure (.bool false)])]::(pre0++C g))
  (hnt:st.nt=69) (h9:look st.s 9= .aA (L,9) 0) (h10:look st.s 10= .aA (L,10) 0) (h11:look st.s 11= .aA (L,11) 0) (h12:look st.s 12= .aA (L,12) 0) (h6:look st.s 6= .aA n15 0) (h8:look st.s 8= .aA n17 0)
  (h43:look st.s 43= .func 132 [] [.bZ (aU r s), .bZ [.int .i64 w]])
  (hq: ∀lb,Q (if (iC r w (bQ nc r.aa.length r.ah.length w) fin (n+1) s l g).2=true then .ret else .normal)
   {st with h:=CT r s l ((n:Int)+1) (iC r w (bQ nc r.aa.length r.ah.length w) fin (n+1) s l g).2 lb (pre0++C (iC r w (bQ nc r.aa.length r.ah.length w) fin (n+1) s l g).1)}):
  WP KC au 116 (.rangeFunc (.tmp 43) #[44] (rgA Tryz.f116) (rgB Tryz.f116)) st Q:=by
 have hC:=aeh M P hS hF l hl hn ih hln st.s pre0 hL h9 h10 h11 h12 h6 h8;have hR:=fun c=>A7 (c:=c) hC hS P.hr.w (fun x hx=>hx) hnc hnc0 (fun x hx=>(ng (n:=nc) hnc2.symm P.wl hx).1) (a:=(g,false)) rfl;have hfr:ba (rgB Tryz.f116)=10:=by kernel_rfl
 have et:iC r w (bQ nc r.aa.length r.ah.length w) fin (n+1) s l g=(fT (bW r s w) (fun x (a:GV×Bool)=>if il r w (cX s w x)=true then true else !(iC r w (bQ nc r.aa.length r.ah.length w) fin n (cX s w x) (l++[x]) a.1).2)
   (fun x (a:GV×Bool)=>if il r w (cX s w x)=true then a else iC r w (bQ nc r.aa.length r.ah.length w) fin n (cX s w x) (l++[x]) a.1) (bQ nc r.aa.length r.ah.length w) (g,false)).1:=by
  conv=>lhs;unfold iC
  rw [if_neg (by simp [hs])]
 rw [et]at hq
 generalize (fT (bW r s w) (fun x (a:GV×Bool)=>if il r w (cX s w x)=true then true else !(iC r w (bQ nc r.aa.length r.ah.length w) fin n (cX s w x) (l++[x]) a.1).2)
   (fun x (a:GV×Bool)=>if il r w (cX s w x)=true then a else iC r w (bQ nc r.aa.length r.ah.length w) fin n (cX s w x) (l++[x]) a.1) (bQ nc r.aa.length r.ah.length w) (g,false)).1=T at hR hq
 have hG: ∀g,(pre0++C g).length=L:=fun g=>(by rw [List.length_append,M.len,hL]);refine Jd KC au (nm:=(L,10000010)) (H1:=CTs r s l n st.s (pre0++ ·) C (g,false)) (H2:=CTs r s l n st.s (pre0++ ·) C T) (v:= .pure (.tuple [])) ?_ ?_ ?_
 ·rw [hh,hfr,hnt];simp [jg,kB,CTs,CT,E9,xU,hL,M.len]
 ·simp only [ev,h43];exact hR 0
 ·have gl:=uo (r:=r) (s:=s) (l:=l) (n:=(n:Int)+1) (b:=T.2) (lb:=xU st.s (if T.2=true then .done else .ready) (if T.2=true then some .ret else none)) (hG T.1) [] 10000010;have hlp:=gl.trans (show _=some (dF.loop (xU st.s (if T.2=true then .done else .ready) (if T.2=true then some .ret else none)))from rfl)
  have sl:=Gs (r:=r) (s:=s) (l:=l) (n:=(n:Int)+1) (b:=T.2) (lb:=xU st.s (if T.2=true then .done else .ready) (if T.2=true then some .ret else none)) (hG T.1) [];unfold vS;show S8 (aj.get (CT r s l ((n:Int)+1) T.2 (xU st.s _ _) (pre0++C T.1)) (L,10000010)) _
  rw [show aj.get (CT r s l ((n:Int)+1) T.2 (xU st.s (if T.2=true then .done else .ready) (if T.2=true then some .ret else none)) (pre0++C T.1)) (L,10000010)=_ from hlp,Jc]
  refine⟨?_, ?_⟩
  ·show (if T.2=true then LoopState.done else .ready)≠ .busy
   split<;>simp
  ·have q:=hq {xU st.s (if T.2=true then .done else .ready) (if T.2=true then some .ret else none)with state:= .exhausted};have s2:=sl {xU st.s (if T.2=true then .done else .ready) (if T.2=true then some .ret else none)with state:= .exhausted};simp only [List.nil_append]at s2;show Q _ {st with h:=aj.set (CT r s l ((n:Int)+1) T.2 (xU st.s (if T.2=true then .done else .ready) (if T.2=true then some .ret else none)) (pre0++C T.1)) (L,10000010) _}
   rw [s2]
   cases hb:T.2 with
   |true=>rw [hb]at q;exact q
   |false=>rw [hb]at q;exact q
end
end
section
variable {c:Nat} {H:aj}
section
variable {r:aC} {w:Nat} {ai:List ak} {nU:Nat} {n3 n8 n9 n11 n15 n16 n17:Nm} {n0:Nat} {C:GV→aj} (M:SrP r w ai nU n3 n8 n9 n11 n15 n16 n17 n0 C) (P:zE r w ai nU)
include M P
theorem KX {nc:Nat}(hnc:IntKind.i64.wrap (r.wide*r.deep)=nc)(hnc2:(nc:Int)=r.wide*r.deep)(hnc0:nc≤1000000): ∀(n:Nat),n≤1000→ ∀(c:Nat) (s:az) (l:List ak) (g:GV) (pre:aj),gz r s→Full s→l.length+n≤100001→
      bF KC (aG KC) 116 [.pure (.agg (aU r s)), .pure (.slice (l.map ak.row)), .pure (.int .i64 n), .aA n8 0, .aA n11 0, .aA n16 0, .aA n15 0, .aA n9 0, .aA n17 0] c (pre++C g)=
        some (.pure (.bool (iC r w (bQ nc r.aa.length r.ah.length w) (qz r (ai.drop nU)) n s l g).2),pre++C (iC r w (bQ nc r.aa.length r.ah.length w) (qz r (ai.drop nU)) n s l g).1)
  |0,_,c,s,l,g,pre,hS,hF,hl=>aeg M P hS hF l g pre
  |n+1,hn,c,s,l,g,pre,hS,hF,hl=>by
    refine aM (aH KC au Tryz.func116 rfl rfl Fc (by simp) (by simp [M.len];have:=M.pos;omega) ?_);have hlen:=M.len;have G:=fun(g:GV) (nm:Nm) (h:nm.1<n0)=>oz (G:=C g) (nm:=nm) (by rw [hlen];exact h) pre;have G3:=fun g=>(G g n3 M.l3).trans (M.g3 g);have G9:=fun g=>(G g n9 M.l9).trans (M.g9 g);have G15:=fun g=>(G g n15 M.l15).trans (M.T7 g);have ne3: ¬n3.1=pre.length+n0:=(by have:=M.l3;omega);have ne9: ¬n9.1=pre.length+n0:=(by have:=M.l9;omega);have ne15: ¬n15.1=pre.length+n0:=(by have:=M.l15;omega);have h0:(((n:Int)+1)==0)=false:=(by simp;omega);have SN:=fun(c:Nat) (F:Fr)=>Gp (c:=c) (H:=F::(pre++C g)) P.hr.sh (s:=s) (w:=w) (by rw [hS.pl];exact P.wl) (n3:=n3) (n9:=n9) (by rw [aj.gX,if_neg (by simp [hlen,ne3])];exact G3 g) (by rw [aj.gX,if_neg (by simp [hlen,ne9])];exact G9 g) (by simp)
    cases hs:il r w s with
    |true=>
      have et:iC r w (bQ nc r.aa.length r.ah.length w) (qz r (ai.drop nU)) (n+1) s l g=(g,false):=by
        unfold iC;rw [if_pos hs]
      rw [et];rw [hs,aU]at SN;rw [aU];simp [hlen,h0,ne3,ne9,ne15,G15,G9,SN,ae]
    |false=>
      have R:=fun st Q=>Iw M P hS hF l (by omega) (n:=n) (fin:=qz r (ai.drop nU)) (by omega) hnc hnc2 hnc0 (fun c s l g pre hS hF hl=>KX hnc hnc2 hnc0 n (by omega) c s l g pre hS hF hl) (by omega) pre rfl g hs st Q;have PG:=fun(c:Nat) (H:aj) (hH:0<H.length)=>KV (c:=c) (H:=H) (r:=r) (s:=s) (w:=w) hH;rw [hs]at SN;simp only [aU]at SN PG R⊢;simp [hlen,h0,ne3,ne9,ne15,G15,G9,SN,PG];generalize iC r w (bQ nc r.aa.length r.ah.length w) (qz r (ai.drop nU)) (n+1) s l g=T at R⊢;obtain⟨Tg,Tb⟩:=T;refine R _ _ (by simp [bT]) rfl (by simp [look]) (by simp [look]) (by simp [look]) (by simp [look]) (by simp [look]) (by simp [look]) (by simp [look]) fun lb=> ?_
      cases Tb with
      |true=>
        simp [CT,E9,hlen,ae]
      |false=>
        simp [CT,E9,hlen,ae]
end
end
section
variable {c:Nat} {H:aj}
def Da (r:aC)(w:Nat)(ai:List ak)(nU:Nat)(s:az)(L:Nat)(g:GV):Fr:=
 [(3,aD r),(8, .box [.pure (.slice (ai.map ak.row))]),(9, .box [.pure (.int .i64 w)]),(11, .box [.pure (.int .i64 nU)]),(12,bT r s),(15, .box [.func 114 [] [.aA (L,3) 0, .aA (L,9) 0]]),(16, .box [g]),(17, .box [.func 116 [] [.aA (L,8) 0, .aA (L,11) 0, .aA (L,16) 0, .aA (L,15) 0, .aA (L,9) 0, .aA (L,17) 0]])]
theorem aei (r:aC)(w:Nat)(ai:List ak)(nU:Nat)(s:az)(H:aj):SrP r w ai nU (H.length,3) (H.length,8) (H.length,9) (H.length,11) (H.length,15) (H.length,16) (H.length,17) (H.length+1) (fun g=>Da r w ai nU s H.length g::H) where
 pos:=by omega
 len:=fun g=>by simp
 l3:=by simp
 l8:=by simp
 l9:=by simp
 l11:=by simp
 l15:=by simp
 l16:=by simp
 l17:=by simp
 g3:=fun g=>by simp [Da]
 g8:=fun g=>by simp [Da]
 g9:=fun g=>by simp [Da]
 g11:=fun g=>by simp [Da]
 T7:=fun g=>by simp [Da]
 g16:=fun g=>by simp [Da]
 s16:=fun g g'=>by simp [Da]
 g17:=fun g=>by simp [Da]
section
variable {r:aC} {w:Nat} {ai:List ak} {nU:Nat} (P:zE r w ai nU)
include P
theorem C6 {nc:Nat}(hnc:IntKind.i64.wrap (r.wide*r.deep)=nc)(hnc2:(nc:Int)=r.wide*r.deep)(hnc0:nc≤1000000){s:az}(hS:gz r s)(hF:Full s)(Q:GX→bN→Prop): ∀(k n:Nat) (g:GV),n+k=4→
  (((List.range' n k).findSome? fun n=>ql r w (bQ nc r.aa.length r.ah.length w) (qz r (ai.drop nU)) n s [])=none→ ∀g',Q (.exit 0) ⟨[(6,aN),(7,aN)],Da r w ai nU s H.length g'::H,60⟩)→
  (∀x,((List.range' n k).findSome? fun n=>ql r w (bQ nc r.aa.length r.ah.length w) (qz r (ai.drop nU)) n s [])=some x→ ∀g',Q .ret ⟨[(6, .pure (.slice (x.map ak.row))),(7, .pure (.bool true))],Da r w ai nU s H.length g'::H,60⟩)→
  fM KC au 79 (lp Tryz.f79 0) [12,16,17,51] [6,7] Q [(12, .aA (H.length,12) 0),(16, .aA (H.length,16) 0),(17, .aA (H.length,17) 0),(51, .pure (.int .i64 n))] (Da r w ai nU s H.length g::H) 60:=by
 have M:=aei r w ai nU s H;have ne1: ¬H.length=H.length+1:=(by omega);intro k
 induction k with
 |zero=>
  intro n g hk h1 _;have hn:n=4:=(by omega);subst hn;have h1':=h1 rfl g;apply ax;conv=>arg 4;whnf
  simp;simpa using h1'
 |succ k ih=>
  intro n g hk h1 h2;have hn:(n:Int)<4:=(by omega);have hw:=cU (x:=(n:Int)+1) (by omega) (by omega);have T:=KX M P hnc hnc2 hnc0 n (by omega) 57 s [] g [[]] hS hF (by simp;omega);obtain⟨t1,t2⟩:=Gn (r:=r) (w:=w) (all:=bQ nc r.aa.length r.ah.length w) (fin:=qz r (ai.drop nU)) (fun x hx=>(ng (n:=nc) hnc2.symm P.wl hx).1) n s [] g hS;obtain⟨F',r3,e3⟩:=m0 (f:=116) rfl rfl rfl [] (F:=[]) (H:=Da r w ai nU s H.length g::H) (.rd (g:= .pure (.agg (aU r s))) rfl dL (.T8 (g:= .aR) (q:= .slice []) rfl rfl (fun _ _ _ _ _ e=>by cases e) (.rd (g:= .pure (.int .i64 n)) rfl dL (.ptr (nm:=(H.length,8)) (o:=0) (.ptr (nm:=(H.length,11)) (o:=0) (.ptr (nm:=(H.length,16)) (o:=0) (.ptr (nm:=(H.length,15)) (o:=0) (.ptr (nm:=(H.length,9)) (o:=0) (.ptr (nm:=(H.length,17)) (o:=0) .nil)))))))));have hF':=r3.empty;subst hF';have I:=(e3 57).trans T;simp only [aU,List.nil_append,List.cons_append]at I;rw [List.range'_succ,List.findSome?_cons]at h1 h2;generalize iC r w (bQ nc r.aa.length r.ah.length w) (qz r (ai.drop nU)) n s [] g=X at I t1 t2;obtain⟨Xg,Xb⟩:=X;obtain⟨o,ho⟩: ∃o,ql r w (bQ nc r.aa.length r.ah.length w) (qz r (ai.drop nU)) n s []=o:=⟨_,rfl⟩;rw [ho]at t1 t2 h1 h2
  cases o with
  |some x=>
   have h2':=h2 x rfl Xg;have e1:Xb=true:=t1;have e2:Xg= .pure (.slice (x.map ak.row)):=t2 x rfl;subst e1 e2;simp only [Da,bT]at I h2'⊢;apply ax;conv=>arg 4;whnf
   simp [hn,ne1,I];simpa using h2'
  |none=>
   have e1:Xb=false:=t1;subst e1;have ih':=ih (n+1) Xg (by omega) h1 h2;simp only [Da,bT]at I ih'⊢;apply ax;conv=>arg 4;whnf
   simp [hn,ne1,I,hw];simpa using ih'
end
end
section
variable {c:Nat} {H:aj}
def Qo (o:Option (List ak)):PV:= .tuple (match o with|some l=> [.slice (l.map ak.row), .bool true]|none=> [.slice [], .bool false])
theorem Fa {r:aC}{k:Nat}{kind:Int}(h:uj r k kind)(h20:r.ai.length≤20)(hH:0<H.length):
  bF KC (aG KC) 79 [.pure (.agg r.row), .pure (.int .i64 k), .pure (.int .i64 kind)] c H=some (.pure (Qo (jR r k kind)),H):=by
 refine aM (aH KC au Tryz.func79 rfl rfl WE (by simp) hH ?_);have sh:=h.run.sh;have tm: ∀a∈r.ai,0≤a.bc∧a.bc≤1000000:=fun a ha=>(by have:=h.tm a ha;omega);have hlt:=h.lt;have hg:=h.get;have hw0:(r.ai[k]'hlt).aQ=(kz r k:Int):=by
  have:=(h.run.ab _ (List.getElem_mem hlt)).aQ;unfold kz;rw [hg];exact this
 obtain⟨A,hA⟩: ∃A,fQ r k kind=A:=⟨_,rfl⟩;have hAl:A.length≤40:=(by rw [←hA];have:=tq h;have:=h.n40;omega);have hAb: ∀a∈A,AB r a.aQ.toNat a:=fun a ha=>(nr h (hA▸ha)).1;have LP:=fun(c:Nat) (H:aj) (hH:0<H.length)=>HG (c:=c) (H:=H) h.run hlt h.pw tm h20 h.hand hH;have AF:=fun(c:Nat) (H:aj) (hH:0<H.length)=>J9 (c:=c) (H:=H) hlt h.run.al (tm _ (List.getElem_mem hlt)) kind A (by omega) (g:= .pure (.slice (A.map ak.row))) rfl hH;rw [hA]at LP;obtain⟨m,hm⟩: ∃m,fa r k kind=m:=⟨_,rfl⟩;rw [hm]at AF;have FP:=fun(c:Nat) (H:aj) (hH:0<H.length)=>tW (c:=c) (H:=H) r h.run.w.pl h.run.w.tl hH;have hF:Full (ay r):=⟨by simpa [ay]using h.run.p0,by simpa [ay]using h.run.p0,by simp [ay];exact h.run.w.pl,by simp [ay];exact h.run.w.pl,by simp [ay];exact h.run.w.tl⟩;have hUb: ∀a∈cf m A,AB r a.aQ.toNat a:=fun a ha=>hAb a (ju ha).2;have hUl:(cf m A).length≤A.length:=(List.takeWhile_sublist _).length_le;have RB:=fun(c:Nat) (H:aj) (hH:0<H.length)=>Gq (c:=c) (H:=H) h.run.w (cf m A) (by omega) hUb h.run.snd hF hH;have hsn:=(jD (cf m A).length (ay r) (cf m A) 0 h.run.snd hUb).1;have eU:cf m A=A.take (cf m A).length:=by
  have e:=js m A;obtain⟨U,hU⟩: ∃U,cf m A=U:=⟨_,rfl⟩;rw [hU]at e⊢;rw [←e];exact List.take_left.symm
 have eB:A.drop (cf m A).length=behind m A:=by
  have e:=js m A;obtain⟨V,hV⟩: ∃V,behind m A=V:=⟨_,rfl⟩;obtain⟨U,hU⟩: ∃U,cf m A=U:=⟨_,rfl⟩;rw [hU,hV]at e;rw [hU,hV,←e];exact List.drop_left
 have hlen': ∀x:ak,x.row.length=9:=fun _=>rfl;have hO:jR r k kind=if (bM r (cf m A).length (ay r) (cf m A) 0).2.2.2≠0 then none else (List.range' 0 4).findSome? fun n=>ql r (kz r k) (bQ (r.wide*r.deep).toNat r.aa.length r.ah.length (kz r k)) (qz r (A.drop (cf m A).length)) n (bM r (cf m A).length (ay r) (cf m A) 0).2.1 []:=by
  unfold jR uU KU;rw [hm,hA,List.range_eq_range',eB];rfl
 rw [hO];have P:zE r (kz r k) A (cf m A).length:=⟨h.run.tosJ,h.wl,hAb,by omega,hUl⟩;obtain⟨a1,a2,a3⟩:=h.AD;have rowU:List.take (cf m A).length (A.map ak.row)=(cf m A).map ak.row:=(by rw [←List.map_take,←eU]);obtain⟨q,hq⟩: ∃q,bM r (cf m A).length (ay r) (cf m A) 0=q:=⟨_,rfl⟩;rw [hq]at RB hsn⊢;have hF2:=kT h.run.snd hsn hF;have ML:=fun Q h1 h2=>C6 (H:=H) P (nc:=(r.wide*r.deep).toNat) (by rw [a1];exact cU (by omega) (by omega)) a1 (by omega) hsn hF2 Q 4 0 .aR rfl h1 h2;obtain⟨u,hu⟩: ∃u,(cf m A).length=u:=⟨_,rfl⟩;rw [hu]at AF rowU hUl ML P⊢;simp only [aU]at FP RB;simp only [cI]at LP AF FP⊢;have unl: ¬(u:Int)<0:=(by omega);by_cases he:q.2.2.2=0
 ·rw [if_neg (by simpa using he)];rw [he]at RB;simp [LP,AF,FP,RB,hlt,ak.row,hw0,rowU,hUl,unl,hlen',-List.map_take];simp only [Da,bT,aD]at ML;refine ML _ (fun ho g'=> ?_) (fun x ho g'=> ?_)
  ·rw [ho];simp [ae,Qo]
  ·rw [ho];simp [ae,Qo]
 ·have he':(q.2.2.2==0)=false:=(by simpa using he);rw [if_pos he];simp [LP,AF,FP,RB,hlt,ak.row,hw0,rowU,hUl,unl,hlen',he,he',ae,Qo,-List.map_take]
end
section
variable {c:Nat} {H:aj}
theorem xP {r:aC}{k:Nat}{kind:Int}(h:uj r k kind)(h20:r.ai.length≤20)(hH:0<H.length):
  aL KC (aG KC) 79 [.pure (.agg r.row), .pure (.int .i64 k), .pure (.int .i64 kind)] c H=some (.pure (Qo (jR r k kind)),H):=
 (ku (f:=79) (c:=c) (H:=H) rfl rfl rfl [.agg r.row, .int .i64 k, .int .i64 kind]).trans (Fa (c:=c) h h20 hH)
theorem xQ {r:aC}(sh:eL r)(act kind:Int)(hH:0<H.length):
  aL KC (aG KC) 69 [.pure (.agg r.row), .pure (.int .i64 act), .pure (.int .i64 kind)] c H=some (.pure (.int .i64 (El r act kind)),H):=dp rfl rfl rfl rfl rfl hH fun H hH=>xr sh act kind hH
theorem Kk {r:aC}(sh:eL r)(h20:cv r=0→r.ai.length≤20)(act kind:Int)(hH:0<H.length):
  bF KC (aG KC) 34 [.pure (.agg r.row), .pure (.int .i64 act), .pure (.int .i64 kind)] c H=some (.pure (qO r act kind),H):=by
 refine aM (aH KC au Tryz.func34 rfl rfl Wa (by simp) hH ?_);have K:=fun(c:Nat) (H:aj) (hH:0<H.length)=>xQ (c:=c) (H:=H) sh act kind hH;unfold qO;by_cases he:El r act kind=0
 ·obtain⟨k,rfl,hL⟩:=xN sh he;have MP:=fun(c:Nat) (H:aj) (hH:0<H.length)=>xP (c:=c) (H:=H) hL (h20 hL.run.ck) hH;rw [if_neg (by simpa using he)];rw [he]at K;show kW _ _
  rw [show jR r (k:Int).toNat kind=jR r k kind from rfl]
  cases ho:jR r k kind with
  |some l=>
   rw [ho]at MP;simp only [Qo]at MP;rw [cI]at K MP⊢;simp [K,MP,ae]
  |none=>
   rw [ho]at MP;simp only [Qo]at MP;rw [cI]at K MP⊢;simp [K,MP,ae]
 ·have he':(El r act kind==0)=false:=(by simpa using he);rw [if_pos he];rw [cI]at K⊢;simp [K,he,he',ae]
end
section
variable {c:Nat} {H:aj}
theorem Qp {r:aC}(sh:eL r)(h:lL r=0){i:Nat}(hi:i<r.ai.length){x:Int}(hx:1≤x∧x≤3)(hk: ¬(x=2∧(r.ai.getD i cA).kind=1)):uj r i x:=by
 obtain⟨k,e,hL⟩:=xN sh (Gm h hi hx hk);have:i=k:=(by omega);rw [this];exact hL
theorem Fb (r:aC)(i:Nat)(x:Int)(l:List Int):lS r i (x::l)=if pX r i x=true then lS r i l else some ((i:Int),x):=by
 unfold lS;rw [List.findSome?_cons];split
 ·rename_i y hy;split at hy
  ·cases hy
  ·rename_i hb;rw [if_neg hb];exact hy.symm
 ·rename_i hy;split at hy
  ·rename_i hb;rw [if_pos hb]
  ·cases hy
section
variable {r:aC} (sh:eL r) (hrun:lL r=0) (hls: ∀x∈r.aP,1≤x∧x≤3) (h20:r.ai.length≤20)
include sh hrun hls h20
theorem KY {F:Fr}(f1:F.get 1=some (aD r)){i n:Nat}(hi:i<r.ai.length)(Q:GX→bN→Prop): ∀k j:Nat,j+k=r.aP.length→
  (lS r i (r.aP.drop j)=none→Q (.exit 2) ⟨[(1, .aA (H.length,1) 0),(2,aN),(3,aN),(4,aN),(24, .pure (.int .i64 n)),(25, .pure (.int .i64 i))],[]::F::H,59⟩)→
  (∀a b,lS r i (r.aP.drop j)=some (a,b)→Q .ret ⟨[(1, .aA (H.length,1) 0),(2, .pure (.int .i64 a)),(3, .pure (.int .i64 b)),(4, .pure (.int .i64 0)),(24, .pure (.int .i64 n)),(25, .pure (.int .i64 i))],[]::F::H,59⟩)→
  fM KC au 36 (lp Tryz.f36 1) [1,8,24,25,29,30,31] [1,2,3,4,24,25] Q [(1, .aA (H.length,1) 0),(8, .pure (.int .i64 i)),(24, .pure (.int .i64 n)),(25, .pure (.int .i64 i)),(29, .pure (.slice (r.aP.map aE))),(30, .pure (.int .i64 r.aP.length)),(31, .pure (.int .i64 j))] ([]::F::H) 59:=by
 have hal:=sh.l;have ne1: ¬H.length=H.length+1:=(by omega);have ne2: ¬H.length=H.length+2:=(by omega);simp only [aD]at f1;intro k
 induction k with
 |zero=>
  intro j hj h1 _;have e:r.aP.drop j=[]:=List.drop_of_length_le (by omega);rw [e]at h1;have hnl: ¬j<r.aP.length:=(by omega);apply ax;conv=>arg 4;whnf
  simp [hnl];simpa using h1 rfl
 |succ k ih=>
  intro j hj h1 h2;have hja:j<r.aP.length:=(by omega);have hw:=cU (x:=(j:Int)+1) (by omega) (by omega);have ed:r.aP.drop j=r.aP[j]::r.aP.drop (j+1):=List.drop_eq_getElem_cons hja;have hx:=hls _ (List.getElem_mem hja);obtain⟨x,hxe⟩: ∃x,r.aP[j]=x:=⟨_,rfl⟩;rw [hxe]at ed hx;have hg:r.ai.getD i cA=r.ai[i]:=bf hi;rw [ed,Fb]at h1 h2;have ih':=ih (j+1) (by omega);by_cases hs:x=2∧r.ai[i].kind=1
  ·have hgood:pX r i x=true:=by
    unfold pX;rw [hg];simp [hs]
   rw [if_pos hgood]at h1 h2;have ih2:=ih' h1 h2;obtain⟨rfl,hk⟩:=hs;apply ax;conv=>arg 4;whnf
   simp [f1,ne1,ne2,hja,hxe,aE,hi,ak.row,hk,hw];simpa using ih2
  ·have hL:=Qp sh hrun hi hx (by rw [hg];exact hs);have M:=fun(c:Nat) (H:aj) (hH:0<H.length)=>xP (c:=c) (H:=H) hL h20 hH;rw [cI]at M;have hgood:pX r i x=(jR r i x).isSome:=by
    unfold pX;rw [hg];simp [hs]
   rw [hgood]at h1 h2
   cases ho:jR r i x with
   |some l=>
    rw [ho]at M h1 h2;simp only [Qo]at M;simp only [Option.isSome_some,if_true]at h1 h2;have ih2:=ih' h1 h2;by_cases h2x:x=2
    ·subst h2x;have hk: ¬r.ai[i].kind=1:=fun e=>hs ⟨rfl,e⟩;have hk':(r.ai[i].kind==1)=false:=(by simpa using hk);apply ax;conv=>arg 4;whnf
     simp [f1,ne1,ne2,hja,hxe,aE,hi,ak.row,hk,hk',hw,M];simpa using ih2
    ·have h2x':(x==2)=false:=(by simpa using h2x);apply ax;conv=>arg 4;whnf
     simp [f1,ne1,ne2,hja,hxe,aE,hi,ak.row,h2x,h2x',hw,M];simpa using ih2
   |none=>
    rw [ho]at M h1 h2;simp only [Qo]at M;simp only [Option.isSome_none,Bool.false_eq_true,if_false]at h1 h2;have h2':=h2 i x rfl;by_cases h2x:x=2
    ·subst h2x;have hk: ¬r.ai[i].kind=1:=fun e=>hs ⟨rfl,e⟩;have hk':(r.ai[i].kind==1)=false:=(by simpa using hk);apply ax;conv=>arg 4;whnf
     simp [f1,ne1,ne2,hja,hxe,aE,hi,ak.row,hk,hk',hw,M];simpa using h2'
    ·have h2x':(x==2)=false:=(by simpa using h2x);apply ax;conv=>arg 4;whnf
     simp [f1,ne1,ne2,hja,hxe,aE,hi,ak.row,h2x,h2x',hw,M];simpa using h2'
theorem Ix {F:Fr}(f1:F.get 1=some (aD r))(Q:GX→bN→Prop): ∀k i:Nat,i+k=r.ai.length→
  (mZ r k i=none→Q (.exit 0) ⟨[(2,aN),(3,aN),(4,aN)],F::H,59⟩)→
  (∀a b,mZ r k i=some (a,b)→Q .ret ⟨[(2, .pure (.int .i64 a)),(3, .pure (.int .i64 b)),(4, .pure (.int .i64 0))],F::H,59⟩)→
  fM KC au 36 (lp Tryz.f36 0) [1,24,25] [2,3,4] Q [(1, .aA (H.length,1) 0),(24, .pure (.int .i64 r.ai.length)),(25, .pure (.int .i64 i))] (F::H) 59:=by
 have ne1: ¬H.length=H.length+1:=(by omega);have hal:=sh.a;have f1':=f1;simp only [aD]at f1';intro k
 induction k with
 |zero=>
  intro i hi h1 _;have hnl: ¬i<r.ai.length:=(by omega);apply ax;conv=>arg 4;whnf
  simp [hnl];simpa using h1 rfl
 |succ k ih=>
  intro i hi h1 h2;have hia:i<r.ai.length:=(by omega);have hw:=cU (x:=(i:Int)+1) (by omega) (by omega);have e2:mZ r (k+1) i=match lS r i r.aP with|some y=>some y|none=>mZ r k (i+1):=by
   unfold mZ;rw [List.range'_succ,List.findSome?_cons];cases lS r i r.aP<;>rfl
  have L:=fun Q h1 h2=>KY (H:=H) sh hrun hls h20 f1 (n:=r.ai.length) hia Q r.aP.length 0 (by omega) h1 h2;simp only [List.drop_zero]at L;rw [e2]at h1 h2;apply ax;conv=>arg 4;whnf
  simp [f1',ne1,hia];refine L _ (fun ho=> ?_) (fun a b ho=> ?_)
  ·rw [ho]at h1 h2;have ih':=ih (i+1) (by omega) h1 h2;simp [hw];simpa using ih'
  ·rw [ho]at h2;have h2':=h2 a b rfl;simp;exact h2'
end
theorem En (r:aC):iO (uV r)=true:=by
 unfold uV;split
 ·rfl
 ·cases mZ r r.ai.length 0<;>rfl
theorem Kl {r:aC}(sh:eL r)(h20:cv r=0→r.ai.length≤20)(hH:0<H.length):
  bF KC (aG KC) 36 [.pure (.agg r.row)] c H=some (.pure (uV r),H):=by
 refine aM (aH KC au Tryz.func36 rfl rfl Wc (by simp) hH ?_);have R:=fun(c:Nat) (H:aj) (hH:0<H.length)=>(ku (f:=15) (c:=c) (H:=H) rfl rfl rfl [.agg r.row]).trans (Cy (c:=c) sh hH);obtain⟨s,n,hs⟩:=EB (r:=r);rw [hs]at R;unfold az.row at R;simp only [List.map_cons,List.map_nil]at R;unfold uV;by_cases he:lL r=0
 ·have hc:cv r=0:=by
   rw [pN]at he;rcases Decidable.em (cv r=0)with e|e
   ·exact e
   ·rw [if_neg e]at he;exact he
  have hls:=(vI hc).1.ls;rw [he]at R⊢;rw [cI]at R⊢;have L:=fun F f1 Q h1 h2=>Ix (H:=H) sh he hls (h20 hc) (F:=F) f1 Q r.ai.length 0 (by omega) h1 h2;simp [R];refine L _ (by simp [aD]) _ (fun ho=> ?_) (fun a b ho=> ?_)
  ·rw [ho];simp [ae]
  ·rw [ho];simp [ae]
 ·have he':(lL r==0)=false:=(by simpa using he);rw [if_pos he];rw [cI]at R⊢;simp [R,he,he',ae]
end
section
variable {c:Nat} {H:aj}
def KZ (d:List ak)(o:Option (List ak)):PV:= .tuple (match o with|some l=> [.slice (l.map ak.row), .bool true]|none=> [.slice (d.map ak.row), .bool false])
structure SrB (r:aC)(w:Nat)(all ai:List ak)(m:Int):Prop where
 run:sJ r
 wl:w<r.ah.length
 aej: ∀a∈all,AB r w a
 aek:all.length≤1000000
 Yz: ∀a∈ai,AB r a.aQ.toNat a
 tm: ∀a∈ai,0≤a.bc∧a.bc≤1000000000
 len:ai.length≤400000
 mr: -1000000≤m∧m≤1000000000
theorem Qq {r:aC}{x:List ak}{w:Nat}{a:ak}(h:AB r w a):AB {r with ai:=x} w a:=⟨h.aQ,h.wl,h.hand,h.kind,h.take,h.sA,h.step,h.form⟩
theorem YA {r:aC}{w:Nat}{a:ak}(h:AB r w a):AB r a.aQ.toNat a:=by
 have e:a.aQ.toNat=w:=(by rw [h.aQ];rfl);rw [e];exact h
theorem uq (m:Int)(ai l:List ak):(iY m ai l).length=ai.length+l.length:=by
 have e:=congrArg List.length (js m ai);rw [List.length_append]at e;unfold iY;rw [List.length_append,List.length_append,List.length_map,wX];omega
theorem K0 {r:aC}{w:Nat}{all ai:List ak}{m:Int}(h:SrB r w all ai m){l:List ak}(hl: ∀a∈l,AB r w a): ∀a∈iY m ai l,AB r a.aQ.toNat a:=fun a ha=>by
 unfold iY at ha;rcases List.mem_append.1 ha with ha|ha
 ·rcases List.mem_append.1 ha with ha|ha
  ·exact h.Yz a (ju ha).2
  ·obtain⟨b,hb,t,rfl⟩:=yW ha;exact pR (YA (hl b hb))
 ·obtain⟨b,hb,rfl⟩:=List.mem_map.1 ha;have:b∈ai:=(List.dropWhile_sublist _).subset hb;exact pR (h.Yz b this)
theorem Iy {r:aC}{w:Nat}{all ai:List ak}{m:Int}(h:SrB r w all ai m){l:List ak}(hl: ∀a∈l,AB r w a)(hn:l.length≤100000):sJ {r with ai:=iY m ai l} where
 w:=⟨h.run.w.w1,h.run.w.w6,h.run.w.n6,h.run.w.pl,h.run.w.tl⟩
 snd:=⟨⟨h.run.snd.pl,h.run.snd.hl,h.run.snd.tl,h.run.snd.hr⟩,h.run.snd.pr,h.run.snd.pn,h.run.snd.th,h.run.snd.st⟩
 p0:=h.run.p0
 al:=by show (iY m ai l).length≤_;rw [uq];have:=h.len;omega
 ab:=fun a ha=>Qq (K0 h hl a ha)
 sh:=⟨h.run.sh.p,h.run.sh.t,h.run.sh.s,h.run.sh.l,by show (iY m ai l).length≤_;rw [uq];have:=h.len;omega⟩
section
variable {r:aC} {w:Nat} {all ai:List ak} {m:Int} (h:SrB r w all ai m)
include h
theorem YB {gx:GV}{s:az}{l:List ak}(hl: ∀a∈l,AB r w a)(hn:l.length≤100000){nm:Nm}(hg:H.get nm=some (lY r w all gx ai m))(hH:0<H.length):
  bF KC (aG KC) 81 [.aA nm 0, .pure (.agg s.row), .pure (.slice (l.map ak.row)), .pure (.int .i64 0)] c H=some (.pure (KZ l (ql r w all (oL r m ai) 0 s l)),H):=by
 refine aM (aH KC au Tryz.func81 rfl rfl I7 (by simp) hH ?_);have hlt:=aj.bP hg;have ne: ¬nm.1=H.length:=(by omega);have M:=fun(c:Nat) (H:aj) (hH:0<H.length)=>EG (c:=c) (H:=H) (ai:=ai) (mend:=l) (m:=m) hn h.len h.mr h.tm hH;have W:=fun(c:Nat) (H:aj) (hH:0<H.length)=>P3 (c:=c) (H:=H) r h.run.sh (iY m ai l) (by rw [uq];have:=h.len;omega) hH;have R:=fun(c:Nat) (H:aj) (hH:0<H.length)=>AE (c:=c) (H:=H) (Iy h hl hn) hH;unfold ql oL;generalize hL:iY m ai l=L at M W R⊢;generalize hA:du {r with ai:=L}=A at R⊢;rw [lY]at hg;rw [cI]at W R;rw [cI]at W;unfold az.row;by_cases e:A.2.2.2=0
 ·simp only [e,if_true]at R;simp [hg,ne,M,W,R,e,KZ,ae]
 ·simp only [if_neg e]at R;have e':(A.2.2.2==0)=false:=(by simpa using e);simp [hg,ne,M,W,R,e,e',KZ,ae]
end
end
section
variable {c:Nat} {H:aj}
def C7:Nat:=ao 63 6
def C8:Nat:=ao 63 10
def IM:Nat:=ao 63 14
def YC (L:Nat)(s:az):dF:= .box [.aZ (L,C7) 1 s.ah.length 0 s.ah.length, .aZ (L,C8) 2 s.aq.length 0 s.aq.length,cH (L,IM) 2 (s.aa.map bm.row)]
theorem SA.rdT {F:Fr}{k1 k2 k3:Nat}{s:az}(h:SA F k1 k2 k3 s):mC (F::H) (Ar H.length k1 k2 k3 s) (.agg s.row):=by
 have g: ∀k,aj.get (F::H) (H.length,k)=F.get k:=fun k=>(by simp);obtain⟨⟨v1,a1,b1⟩,⟨v2,a2,b2⟩,h3⟩:=h;unfold Ar az.row;rw [qj];simp only [mT,qi,mR,and_true,true_and];refine⟨⟨_,v1,false,(g _).trans b1,a1,by simp,rfl,rfl,rfl⟩,⟨_,v2,false,(g _).trans b2,a2,by simp,rfl,rfl,rfl⟩,Kc fun hr=> ?_⟩;obtain⟨v3,a3,b3⟩:=h3 (by simpa using hr);exact⟨v3,false,by simpa using a3,(g _).trans b3⟩
theorem A8 {k1 k2 k3:Nat}{s:az}:Em H.length (Ar H.length k1 k2 k3 s):=fun x hx=>by
 simp only [List.mem_cons,List.not_mem_nil,or_false]at hx;rcases hx with rfl|rfl|rfl
 ·intro nm es top lo len e;cases e;rfl
 ·intro nm es top lo len e;cases e;rfl
 ·exact sR
section
variable {r:aC} {w:Nat} {all ai:List ak} {m:Int} (h:SrB r w all ai m)
include h
theorem Iz {n:Nat} (ih: ∀(c:Nat) (H:aj) (gx:GV) (s:az) (l:List ak) (nm:Nm),gz r s→Full s→(∀a∈l,AB r w a)→l.length+n≤100000→H.get nm=some (lY r w all gx ai m)→0<H.length→
      bF KC (aG KC) 81 [.aA nm 0, .pure (.agg s.row), .pure (.slice (l.map ak.row)), .pure (.int .i64 n)] c H=some (.pure (KZ (if n=0 then l else []) (ql r w all (oL r m ai) n s l)),H))
    {gx:GV} {s:az} {l:List ak} (hS:gz r s) (hF:Full s) (hl: ∀a∈l,AB r w a) (hn:l.length+(n+1)≤100000) {nm:Nm} (hg:H.get nm=some (lY r w all gx ai m)) (Q:GX→bN→Prop): ∀k i:Nat,i+k=all.length→
    (((all.drop i).findSome? fun a=>if qv r s w a=true then ql r w all (oL r m ai) n (cX s w a) (l++[a])else none)=none→Q (.exit 0) ⟨[(8,aN),(9,aN)],[(5,je s)]::H,95⟩)→
    (∀x,((all.drop i).findSome? fun a=>if qv r s w a=true then ql r w all (oL r m ai) n (cX s w a) (l++[a])else none)=some x→Q .ret ⟨[(8, .pure (.slice (x.map ak.row))),(9, .pure (.bool true))],[(5,je s)]::H,95⟩)→
    fM KC au 81 (lp Tryz.f81 0) [0,2,3,5,13] [8,9] Q
      [(0, .aA nm 0),(2, .pure (.slice (l.map ak.row))),(3, .pure (.int .i64 ((n:Int)+1))),(5, .aA (H.length,5) 0),(13, .pure (.int .i64 i))] ([(5,je s)]::H) 95:=by
  have hlt:=aj.bP hg;have ne: ¬nm.1=H.length:=(by omega);have ne0: ¬nm.1=H.length+1:=(by omega);have ne1: ¬H.length=H.length+1:=(by omega);have ne2: ¬H.length+1=H.length:=(by omega);have hal:=h.aek;have nle:nm.1≤H.length:=(by omega);have hgb:=hg;rw [lY]at hg;intro k
  induction k with
  |zero=>
    intro i hi h1 _;have e:all.drop i=[]:=List.drop_of_length_le (by omega);rw [e]at h1;have hnl: ¬i<all.length:=(by omega);apply ax;conv=>arg 4;whnf
    simp [hg,ne,ne0,hnl];simpa using h1 rfl
  |succ k ihk=>
    intro i hi h1 h2;have hia:i<all.length:=(by omega);have hw:=cU (x:=(i:Int)+1) (by omega) (by omega);have hwn:=cU (x:=(n:Int)) (by omega) (by omega);have ed:all.drop i=all[i]::all.drop (i+1):=List.drop_eq_getElem_cons hia;have hab:=h.aej _ (List.getElem_mem hia);have U:=fun(c:Nat) (H':aj) (hg':H'.get nm=some (lY r w all gx ai m)) (hH:0<H'.length)=>Iu (c:=c) (H:=H') h.run.sh hg' hS h.run.w hab hH;have U1:=fun c=>U c ([]::[(5,je s)]::H) (by simpa [ne,ne0]using hgb) (by simp);obtain⟨a,ha⟩: ∃a,all[i]=a:=⟨_,rfl⟩;rw [ha]at ed hab U1;rw [ed,List.findSome?_cons]at h1 h2;have har:(all.map ak.row)[i]'(by simpa using hia)=a.row:=(by rw [List.getElem_map,ha]);by_cases hu:qv r s w a=true
    · rw [if_pos hu]at h1 h2
      rw [hu]at U1;have hp:bW r s w a=true:=by
        rw [sH]at hu;simp at hu;exact hu.1
      have hb:=lH hS hab hp;have hS2:=hS.TY hab hp;have hF2:=kT hS hS2 hF;have LD:=ig (s:=s) (w:=w) (a:=a) hab.kind;have O:=FQ (c:=63) (H:=[]::[(5,je s)]::H) (s:=s) hF (by simp) (by simp [ne2]) (by simp [ne2]) (by simp [ne2]);have q1:ao 63 6=C7:=rfl;have q2:ao 63 10=C8:=rfl;have q3:ao 63 14=IM:=rfl;have d12:C7≠C8:=(by decide);have d13:C7≠IM:=(by decide);have d23:C8≠IM:=(by decide);simp only [List.length_cons,Nat.add_sub_cancel,q1,q2,q3]at O;obtain⟨B0,hB0⟩: ∃B0:Fr,eG IM 2 (s.aa.map bm.row) [(C7, .arr 1 (s.ah.map aE) 0 false),(C8, .arr 2 (s.aq.map aF.row) 0 false)]=B0:=⟨_,rfl⟩;have hO:gT (aj.set (aj.set ([]::[(5,je s)]::H) (H.length+1,C7) (.arr 1 (s.ah.map aE) 0 false)) (H.length+1,C8) (.arr 2 (s.aq.map aF.row) 0 false)) (H.length+1,IM) 2 (s.aa.map bm.row)=B0::[(5,je s)]::H:=by
        rw [←hB0];have:aj.set (aj.set ([]::[(5,je s)]::H) (H.length+1,C7) (.arr 1 (s.ah.map aE) 0 false)) (H.length+1,C8) (.arr 2 (s.aq.map aF.row) 0 false)=[(C7, .arr 1 (s.ah.map aE) 0 false),(C8, .arr 2 (s.aq.map aF.row) 0 false)]::[(5,je s)]::H:=by
          simp [ne2,C7,C8,ao]
        rw [this];exact sQ (by simp)
      rw [hO]at O;have b0s:B0.gU:=(by rw [←hB0];exact AA (by simp [Fr.gU,C7,C8,ao]));have b0_1:B0.get C7=some (.arr 1 (s.ah.map aE) 0 false):=(by rw [←hB0,bE (by decide)];simp);have b0_2:B0.get C8=some (.arr 2 (s.aq.map aF.row) 0 false):=(by rw [←hB0,bE (by decide)];simp [C7,C8,ao]);have b0_3:s.aa≠[]→B0.get IM=some (.arr 2 (s.aa.map bm.row) 0 false):=fun h=>(by rw [←hB0,dg (by simpa using h)]);have b0_n: ∀k,k≠C7→k≠C8→k≠IM→B0.get k=none:=fun k h1 h2 h3=>(by rw [←hB0,bE h3];simp [h1,h2]);have b0_14:=b0_n 14 (by decide) (by decide) (by decide);obtain⟨B1,hB1⟩: ∃B1,B0.ins 14 (YC (H.length+1) s)=B1:=⟨_,rfl⟩;have o1: ∀k,k≠14→B1.get k=B0.get k:=fun k hk=>(by rw [←hB1,Fr.aw _ hk]);have b1s:B1.gU:=(by rw [←hB1];exact Fr.cB b0s);have sa1:SA B1 C7 C8 IM s:=⟨⟨0,Nat.zero_le _,(o1 _ (by decide)).trans b0_1⟩,⟨0,Nat.zero_le _,(o1 _ (by decide)).trans b0_2⟩,fun h=>⟨0,Nat.zero_le _,(o1 _ (by decide)).trans (b0_3 h)⟩⟩;have b1_14:B1.get 14=some (YC (H.length+1) s):=(by rw [←hB1,Fr.a7]);obtain⟨B2,b2s,sa2,o2,D⟩:=Yv (c:=72) (H:=[(5,je s)]::H) b1s sa1 d12 d13 d23 hb hF.hl;have ens:YC (H.length+1) (cX s w a)=YC (H.length+1) s:=by
        unfold YC;rw [LD.1,LD.2.1,ud (rows:=(cX s w a).aa.map bm.row) (rows':=s.aa.map bm.row) (by simp [LD.2.2])]
      have b2_14:B2.get 14=some (YC (H.length+1) (cX s w a)):=(by rw [o2 14 (by decide) (by decide) (by decide),b1_14,ens]);have b2_78:B2.get 78=none:=(by rw [o2 78 (by decide) (by decide) (by decide),o1 78 (by decide)];exact b0_n 78 (by decide) (by decide) (by decide));have b2_87:B2.get 87=none:=(by rw [o2 87 (by decide) (by decide) (by decide),o1 87 (by decide)];exact b0_n 87 (by decide) (by decide) (by decide));have hsr:s.row=[.slice (s.ah.map aE), .slice (s.aq.map aF.row), .slice (s.aa.map bm.row)]:=rfl;rw [hsr,bp]at U1;rw [hsr]at O;rw [bp]at D;simp only [je,Ar,List.length_cons]at O D U1;simp only [YC]at hB1 b2_14 b1_14;apply ax;conv=>arg 4;whnf
      simp [hg,ne,ne0,ne1,ne2,hia,bp,ha,je,U1,O,b0_14,Fr.a7,Fr.fe,hB1,b1_14,D,b2_14,-dc];refine lM (key:=78) (H:=[(5,je s)]::H) l b2_78 (by omega) _ fun g1 B3 L1 k1 f1=> ?_;have b3_14:=(f1 14 (by decide)).trans b2_14;have sa3:=sa2.other (f1 C7 (by decide)) (f1 C8 (by decide)) (f1 IM (by decide));simp [hg,ne,ne0,hia,bp,ha,b3_14,-dc];refine sV (key:=87) (H:=[(5,je s)]::H) a L1 ((f1 87 (by decide)).trans b2_87) (by omega) _ fun g2 B4 L2 k2 f2=> ?_;have nk: ∀q,q≠78→ ∀top,g1≠ .aZ (([(5,je s)]::H).length,q) 9 top 0 top:=fun q hq top e=>hq (k1 q top e);have b4_14:=(f2 14 (by decide) (nk 14 (by decide))).trans b3_14;have sa4:=sa3.other (f2 C7 (by decide) (nk C7 (by decide))) (f2 C8 (by decide) (nk C8 (by decide))) (f2 IM (by decide) (nk IM (by decide)));obtain⟨B5,r5,e5⟩:=m0 (f:=81) rfl rfl rfl [] (F:=B4) (H:=[(5,je s)]::H) (.ptr (nm:=nm) (o:=0) (.rd sa4.rdT A8 (.T8 L2.rd rfl L2.top (.rd (g:= .pure (.int .i64 n)) rfl dL .nil))));have I:=(e5 90).trans (ih 90 (B5::[(5,je s)]::H) gx (cX s w a) (l++[a]) nm hS2 hF2 (fun x hx=>by
        rcases List.mem_append.1 hx with hx|hx
        · exact hl x hx
        · rw [List.mem_singleton.1 hx];exact hab) (by simp;omega) (by simpa [ne,ne0]using hgb) (by simp))
      simp only [Ar,List.length_cons,List.nil_append]at I;obtain⟨o,ho⟩: ∃o,ql r w all (oL r m ai) n (cX s w a) (l++[a])=o:=⟨_,rfl⟩;rw [ho]at I h1 h2;have ihk':=ihk (i+1) (by omega)
      cases o with
      |some x=>
        have h2':=h2 x rfl;simp only [KZ]at I;simp [hg,ne,ne0,hia,bp,ha,b4_14,hwn,I];exact h2'
      |none=>
        have ihk2:=ihk' h1 h2;simp only [KZ]at I;simp [hg,ne,ne0,hia,bp,ha,b4_14,hwn,I,hw,nle];simpa using ihk2
    · rw [if_neg hu]at h1 h2
      have hu':qv r s w a=false:=(by simpa using hu);rw [hu']at U1;have hsr:s.row=[.slice (s.ah.map aE), .slice (s.aq.map aF.row), .slice (s.aa.map bm.row)]:=rfl;rw [hsr,bp]at U1;simp only [je]at U1;have ihk2:=ihk (i+1) (by omega) h1 h2;simp only [je]at ihk2;apply ax;conv=>arg 4;whnf
      simp [hg,ne,ne0,ne1,ne2,hia,bp,ha,je,U1,hw,nle];simpa using ihk2
theorem Gt: ∀(n:Nat) (c:Nat) (H:aj) (gx:GV) (s:az) (l:List ak) (nm:Nm),gz r s→Full s→(∀a∈l,AB r w a)→l.length+n≤100000→H.get nm=some (lY r w all gx ai m)→0<H.length→
      bF KC (aG KC) 81 [.aA nm 0, .pure (.agg s.row), .pure (.slice (l.map ak.row)), .pure (.int .i64 n)] c H=some (.pure (KZ (if n=0 then l else []) (ql r w all (oL r m ai) n s l)),H)
  |0,c,H,gx,s,l,nm,hS,hF,hl,hn,hg,hH=>YB h hl hn hg hH
  |n+1,c,H,gx,s,l,nm,hS,hF,hl,hn,hg,hH=>by
    refine aM (aH KC au Tryz.func81 rfl rfl I7 (by simp) hH ?_);have hlt:=aj.bP hg;have ne: ¬nm.1=H.length:=(by omega);have h0:(((n:Int)+1)==0)=false:=(by simp;omega);have hsr:s.row=[.slice (s.ah.map aE), .slice (s.aq.map aF.row), .slice (s.aa.map bm.row)]:=rfl;have e:ql r w all (oL r m ai) (n+1) s l=all.findSome? fun a=>if qv r s w a=true then ql r w all (oL r m ai) n (cX s w a) (l++[a])else none:=(by rw [ql]);have L:=fun Q h1 h2=>Iz h (Gt n) hS hF hl hn hg Q all.length 0 (by omega) h1 h2;simp only [List.drop_zero,←e]at L;rw [hsr];simp only [je]at L;simp [h0];refine L _ (fun ho=> ?_) (fun x ho=> ?_)
    · rw [ho]
      simp [KZ,ae]
    · rw [ho]
      simp [KZ,ae]
end
end
section
variable {c:Nat} {H:aj}
theorem K3 {F:Fr}(r:aC)(hp0:r.ah≠[])(hpl:r.ah.length≤1000000)(htl:r.aa.length≤1000000)(hf1:F.get (ao c 22)=none)(hf2:F.get (ao c 27)=none)(hf3:F.get (ao c 53)=none):
  ∃F',SA F' (ao c 22) (ao c 27) (ao c 53) (ay r)∧(∀k,k≠ao c 22→k≠ao c 27→k≠ao c 53→F'.get k=F.get k)∧
  aL KC (aG KC) 48 [.pure (.agg r.row)] c (F::H)=some (Ar H.length (ao c 22) (ao c 27) (ao c 53) (ay r),F'::H):=by
 have jP:ao c 22≠ao c 27:=(by unfold ao;omega);have kL:ao c 22≠ao c 53:=(by unfold ao;omega);have jZ:ao c 27≠ao c 53:=(by unfold ao;omega);by_cases t0:r.aa=[]
 ·have E:=xn (c:=c) (H:=F::H) r (rg:= .pure (.agg r.row)) rfl hp0 t0 hpl htl (by simp) (by simpa using hf1) (by simpa using hf2);have e0:(ay r).aa=[]:=(by simp [ay,t0]);refine⟨(F.ins (ao c 22) (.arr 1 ((ay r).ah.map aE) 0 false)).ins (ao c 27) (.arr 2 ((ay r).aq.map aF.row) 0 false),⟨⟨0,Nat.zero_le _,by rw [Fr.aw _ jP,Fr.a7]⟩,⟨0,Nat.zero_le _,by rw [Fr.a7]⟩,fun h=>absurd e0 h⟩,fun k h1 h2 h3=>by rw [Fr.aw _ h2,Fr.aw _ h1],E.trans ?_⟩;rw [FO e0];simp
 ·have E:=tS (c:=c) (H:=F::H) r (rg:= .pure (.agg r.row)) rfl hp0 t0 hpl htl (by simp) (by simpa using hf1) (by simpa using hf2) (by simpa using hf3);have e0:(ay r).aa≠[]:=(by simpa [ay]using t0);refine⟨((F.ins (ao c 22) (.arr 1 ((ay r).ah.map aE) 0 false)).ins (ao c 27) (.arr 2 ((ay r).aq.map aF.row) 0 false)).ins (ao c 53) (.arr 2 ((ay r).aa.map bm.row) 0 false),⟨⟨0,Nat.zero_le _,by rw [Fr.aw _ kL,Fr.aw _ jP,Fr.a7]⟩,⟨0,Nat.zero_le _,by rw [Fr.aw _ jZ,Fr.a7]⟩,fun _=>⟨0,Nat.zero_le _,by rw [Fr.a7]⟩⟩,fun k h1 h2 h3=>by rw [Fr.aw _ h3,Fr.aw _ h2,Fr.aw _ h1],E.trans ?_⟩;rw [FN e0];simp [cn]
theorem pO.move {fr fr':Fr}{g:GV}{A:List ak}(h:pO H fr g A)(hk: ∀key top,g= .aZ (H.length,key) 9 top 0 top→fr'.get key=fr.get key):pO H fr' g A:=by
 rcases h with h|⟨hne,key,v,rfl,hg,hv⟩
 ·exact Or.inl h
 ·exact Or.inr ⟨hne,key,v,rfl,by rw [hk _ _ rfl];exact hg,hv⟩
theorem K4 {r:aC} {w:Nat} {all ai:List ak} {m:Int} (hn:ai.length≤1000000) (fr0:Fr) (Q:GX→bN→Prop)
  (h1: ∀g fr,pO H fr g (cf m ai)→(∀q top,g= .aZ (H.length,q) 9 top 0 top→q=89)→fr.get 3=some (aD r)→fr.get 51=some (lY r w all g ai m)→(∀k,k≠51→k≠89→fr.get k=fr0.get k)→Q (.exit 0) ⟨[(3, .aA (H.length,3) 0),(10, .aA (H.length,51) 0)],fr::H,129⟩):
  ∀(k n:Nat) (g:GV) (fr:Fr),n+k=(cf m ai).length→pO H fr g (ai.take n)→(∀q top,g= .aZ (H.length,q) 9 top 0 top→q=89)→(g= .aR→fr.get 89=none)→fr.get 3=some (aD r)→fr.get 51=some (lY r w all g ai m)→(∀k,k≠51→k≠89→fr.get k=fr0.get k)→
  fM KC au 35 (lp Tryz.f35 0) [3,10,11] [3,10] Q [(3, .aA (H.length,3) 0),(10, .aA (H.length,51) 0),(11, .pure (.int .i64 n))] (fr::H) 129:=by
 have hle:(cf m ai).length≤ai.length:=(List.takeWhile_sublist _).length_le;intro k
 induction k with
 |zero=>
  intro n g fr hk L hK fn f3 f51 fo;have e:n=(cf m ai).length:=(by omega);have et:ai.take n=cf m ai:=by
   rw [e];obtain⟨U,hU⟩: ∃U,cf m ai=U:=⟨_,rfl⟩;have:=js m ai;rw [hU]at this⊢;rw [←this];exact List.take_left
  rw [et]at L;have h1':=h1 g fr L hK f3 f51 fo;rw [lY]at f51;by_cases hl:n<ai.length
  ·have hout:=mW (fun a:ak=>decide (a.bc≤m)) ai (by rw [show (ai.takeWhile fun a:ak=>decide (a.bc≤m)).length=n from e.symm];exact hl)
   have hout': ¬ai[n].bc≤m:=by
    have e2:(ai.takeWhile fun a:ak=>decide (a.bc≤m)).length=n:=e.symm;simp only [e2]at hout;simpa using hout
   apply ax;conv=>arg 4;whnf
   simp [hl,f51,ak.row,hout'];simpa using h1'
  ·apply ax;conv=>arg 4;whnf
   simp [hl,f51];simpa using h1'
 |succ k ih=>
  intro n g fr hk L hK fn f3 f51 fo;have hl:n<ai.length:=(by omega);have hin:=pH (fun a:ak=>decide (a.bc≤m)) ai n hl (by show n<(cf m ai).length;omega)
  have hin':ai[n].bc≤m:=(by simpa using hin);have hw:=cU (x:=(n:Int)+1) (by omega) (by omega);have f51':=f51;rw [lY]at f51';have ne1: ¬H.length=H.length+1:=(by omega);apply ax;conv=>arg 4;whnf
  simp [hl,f51',ak.row,hin',hw,ne1,-dc];have et:ai.take (n+1)=ai.take n++[ai[n]]:=(by rw [List.take_add_one,List.getElem?_eq_getElem hl];rfl);refine vL (key:=89) ai[n] L fn (by simp;omega) _ fun g' fr' L' k' f'=> ?_;rw [←et]at L';have hK': ∀q top,g'= .aZ (H.length,q) 9 top 0 top→q=89:=fun q top e=>by
   rcases k' q top e with e|⟨t,e⟩
   ·exact e
   ·exact hK q t e
  have nk: ∀q,q≠89→ ∀top,g≠ .aZ (H.length,q) 9 top 0 top:=fun q hq top e=>hq (hK q top e);have f51n:=(f' 51 (by decide) (nk 51 (by decide))).trans f51';have L2:=L'.frame (fr':=fr'.ins 51 (lY r w all g' ai m)) (k:=51) (fun q top e=>by rw [hK' q top e];decide) (fun q hq=>Fr.aw _ hq _);have ih':=ih (n+1) g' (fr'.ins 51 (lY r w all g' ai m)) (by omega) L2 hK' (fun e=>by
   rcases L' with ⟨_,h0⟩|⟨_,key,v,h0,_⟩
   ·have hz:(ai.take (n+1)).length=0:=(by rw [h0];rfl);rw [List.length_take]at hz;omega
   ·rw [h0]at e;cases e) (by rw [Fr.aw _ (by decide),f' 3 (by decide) (nk 3 (by decide))];exact f3) (Fr.a7 ..) (fun k h1 h2=>by rw [Fr.aw _ h1,f' k h2 (nk k h2)];exact fo k h1 h2)
  rw [lY]at ih';rcases L' with ⟨_,h0⟩|⟨_,key,v,rfl,_⟩
  ·have hz:(ai.take (n+1)).length=0:=(by rw [h0];rfl);rw [List.length_take]at hz;omega
  ·simp [f51n,ne1];simpa using ih'
end
section
variable {c:Nat} {H:aj}
theorem jr.up {X:Fr}{G:aj}:jr G (X::G):=fun nm es rows v ro hg=>by
 have:=aj.bP hg;exact⟨ro,by rw [aj.gX,if_neg (by omega)];exact hg⟩
section
variable {r:aC} {w:Nat} {all ai:List ak} {m:Int} (h:SrB r w all ai m)
include h
theorem IA {s:az}(hS:gz r s)(hF:Full s)(Q:GX→bN→Prop): ∀(k n:Nat) (gx:GV) (cells:List GV) (F:Fr),n+k=4→F.get 51=some (lY r w all gx ai m)→F.get 12=some (.box cells)→cells.length=3→C9 (F::H) cells s.row→(∀x∈cells,C5 H.length x)→
  (((List.range' n k).findSome? fun n=>ql r w all (oL r m ai) n s [])=none→ ∀F,Q (.exit 2) ⟨[(6,aN),(7,aN)],F::H,129⟩)→
  (∀x,((List.range' n k).findSome? fun n=>ql r w all (oL r m ai) n s [])=some x→ ∀F,Q .ret ⟨[(6, .pure (.slice (x.map ak.row))),(7, .pure (.int .i64 0))],F::H,129⟩)→
  fM KC au 35 (lp Tryz.f35 1) [10,12,13] [6,7] Q [(10, .aA (H.length,51) 0),(12, .aA (H.length,12) 0),(13, .pure (.int .i64 n))] (F::H) 129:=by
 intro k
 induction k with
 |zero=>
  intro n gx cells F hk f51 f12 hc hr ht h1 _;have hn:n=4:=(by omega);subst hn;have h1':=h1 rfl F;apply ax;conv=>arg 4;whnf
  simp;simpa using h1'
 |succ k ih=>
  intro n gx cells F hk f51 f12 hc hr ht h1 h2;have hn:n<4:=(by omega);have hn':(n:Int)≤3:=(by omega);have hw:=cU (x:=(n:Int)+1) (by omega) (by omega);obtain⟨c1,c2,c3,rfl⟩: ∃c1 c2 c3,cells=[c1,c2,c3]:=by
   match cells,hc with
   | [c1,c2,c3],_=>exact⟨c1,c2,c3,rfl⟩
  have hrd:mC (F::H) (dm [c1,c2,c3]) (.agg s.row):=Yd hr;apply ax;conv=>arg 4;whnf
  rw [tJ]at hrd;have htop:Em H.length (XB (bC [c1,c2,c3]) [c1,c2,c3]):=by
   cases hp:bC [c1,c2,c3]with
   |none=>exact ht
   |some ps=>exact dL
  have hup: ∀{g:GV} {q:PV},mC (F::H) g q→mC ([]::F::H) g q:=fun {g q} hg=>nO jr.up hg;obtain⟨F2,r2,e2⟩:=m0 (f:=81) rfl rfl rfl [[]] (F:=F) (H:=H) (.ptr (nm:=(H.length,51)) (o:=0) (.rd (hup hrd) htop (.T8 (g:= .aR) (q:= .slice []) rfl rfl (fun _ _ _ _ _ e=>by cases e) (.rd (g:= .pure (.int .i64 n)) rfl dL .nil))));have ne1: ¬H.length=H.length+1:=(by omega);have I:=(e2 124).trans (Gt h n 124 ([]::F2::H) gx s [] (H.length,51) hS hF (by simp) (by simp;omega) (by simp [ne1];exact r2.box f51) (by simp));simp only [List.cons_append,List.nil_append]at I;have f51':=f51;rw [lY]at f51';have hr2:C9 (F2::H) [c1,c2,c3] s.row:=sx (mm.sim (.cons r2 (mm.refl H))) hr;rw [List.range'_succ,List.findSome?_cons]at h1 h2;obtain⟨o,ho⟩: ∃o,ql r w all (oL r m ai) n s []=o:=⟨_,rfl⟩;rw [ho]at I h1 h2
  cases o with
  |some x=>
   have h2':=h2 x rfl F2;simp only [KZ]at I;simp [hn',f51,f12,I];exact h2'
  |none=>
   have ihk:=ih (n+1) gx [c1,c2,c3] F2 (by omega) (r2.box f51) (r2.box f12) rfl hr2 ht h1 h2;simp only [KZ]at I;simp [hn',f51,f12,I,hw];simpa using ihk
end
theorem K5 {r:aC}{k:Nat}{kind:Int}(h:uj r k kind):SrB r (kz r k) (tr r (kz r k)) (fQ r k kind) (fa r k kind) where
 run:=h.run.tosJ
 wl:=h.wl
 aej:=fun a ha=>(CW (by have:=h.AD;omega) h.wl ha).1
 aek:=by
  have:=rQ (r.wide*r.deep).toNat r.aa.length r.ah.length (kz r k);have:=h.AD;have:=h.room.p4;have:=h.room.t8;unfold tr;omega
 Yz:=fun a ha=>(nr h ha).1
 tm:=fun a ha=>by have:=(nr h ha).2;omega
 len:=by have:=tq h;have:=h.n40;omega
 mr:=by have:=KT h;omega
theorem zj {r:aC}(sh:eL r)(act kind:Int)(hH:0<H.length):
  bF KC (aG KC) 35 [.pure (.agg r.row), .pure (.int .i64 act), .pure (.int .i64 kind)] c H=some (.pure (qO r act kind),H):=by
 refine aM (aH KC au Tryz.func35 rfl rfl Wb (by simp) hH ?_);have K:=fun(c:Nat) (H:aj) (hH:0<H.length)=>xu (c:=c) (H:=H) sh act kind hH;unfold clO at K;by_cases he:El r act kind=0
 ·obtain⟨k,rfl,hL⟩:=xN sh he;have B:=K5 hL;have hg:=hL.get;have hw0:(r.ai[k]'hL.lt).aQ=(kz r k:Int):=by
   have:=(hL.run.ab _ (List.getElem_mem hL.lt)).aQ;unfold kz;rw [hg];exact this
  obtain⟨a1,a2,a3⟩:=hL.AD;have E:=fun(c:Nat) (H:aj) (hH:0<H.length)=>CS (c:=c) (H:=H) r (kz r k) (r.wide*r.deep).toNat r.aa.length r.ah.length (by rw [a1];exact cU (by omega) (by omega)) a2 (by omega) rfl rfl sh.t sh.p hH;have L:=fun(c:Nat) (H:aj) (hH:0<H.length)=>EE (c:=c) (H:=H) hL.run hL.lt hL.pw (fun a ha=>by have:=hL.tm a ha;omega) sh.a hL.hand (du r).1 hL.scn hH;have M:=fun(c:Nat) (H:aj) (hH:0<H.length)=>H7 (c:=c) (H:=H) hL.lt (by have:=hL.tm _ (List.getElem_mem hL.lt);omega) kind hH;have hall:bQ (r.wide*r.deep).toNat r.aa.length r.ah.length (kz r k)=tr r (kz r k):=rfl;have hlt:=hL.lt;rw [hall]at E;rw [he]at K;simp only [if_true]at K;have hT:qO r k kind= .tuple (match uU (oL r (fa r k kind) (fQ r k kind)) r k kind with|some l=> [.slice (l.map ak.row), .int .i64 0]|none=> [.slice [], .int .i64 7]):=by
   unfold qO;rw [if_neg (by simpa using he),Qm hL];rfl
  rw [hT];rw [cI]at K E L M⊢;simp [K,E,L,M,hlt,ak.row,hw0];obtain⟨fr0,hfr0⟩: ∃fr0:Fr,[(3,aD r),(51,lY r (kz r k) (tr r (kz r k)) .aR (fQ r k kind) (fa r k kind))]=fr0:=⟨_,rfl⟩;have U:=fun Q h1=>K4 (H:=H) (r:=r) (w:=kz r k) (all:=tr r (kz r k)) (ai:=fQ r k kind) (m:=fa r k kind) (by have:=tq hL;have:=hL.n40;omega) fr0 Q h1 (cf (fa r k kind) (fQ r k kind)).length 0 .aR fr0 (by omega) (Or.inl ⟨rfl,by simp⟩) (fun q top e=>by cases e) (fun _=>by rw [←hfr0];rfl) (by rw [←hfr0];rfl) (by rw [←hfr0];rfl) (fun _ _ _=>rfl);rw [←hfr0,lY]at U;simp only [aD]at U;refine U _ fun g fr Lf kf f3 f51 fo=> ?_;have k1:ao 93 22≠51∧ao 93 22≠89∧ao 93 27≠51∧ao 93 27≠89∧ao 93 53≠51∧ao 93 53≠89:=(by decide);have fnn: ∀q,q≠51→q≠89→q≠3→fr.get q=none:=fun q h1 h2 h3=>(by rw [fo q h1 h2];simp [h1,h3]);obtain⟨F1,sa1,o1,FE⟩:=K3 (c:=93) (H:=H) (F:=fr) r hL.run.p0 sh.p sh.t (fnn _ k1.1 k1.2.1 (by decide)) (fnn _ k1.2.2.1 k1.2.2.2.1 (by decide)) (fnn _ k1.2.2.2.2.1 k1.2.2.2.2.2 (by decide));have f1_12:F1.get 12=none:=(by rw [o1 12 (by decide) (by decide) (by decide)];exact fnn 12 (by decide) (by decide) (by decide));have f1_51:=(o1 51 (by decide) (by decide) (by decide)).trans f51;have f1_3:=(o1 3 (by decide) (by decide) (by decide)).trans f3;rw [cI]at FE;simp only [Ar]at FE;obtain⟨cl,hcl⟩: ∃cl:List GV,[.aZ (H.length,ao 93 22) 1 (ay r).ah.length 0 (ay r).ah.length, .aZ (H.length,ao 93 27) 2 (ay r).aq.length 0 (ay r).aq.length,cH (H.length,ao 93 53) 2 ((ay r).aa.map bm.row)]=cl:=⟨_,rfl⟩;obtain⟨F2,hF2⟩: ∃F2,F1.ins 12 (.box [.aZ (H.length,ao 93 22) 1 (ay r).ah.length 0 (ay r).ah.length, .aZ (H.length,ao 93 27) 2 (ay r).aq.length 0 (ay r).aq.length,cH (H.length,ao 93 53) 2 ((ay r).aa.map bm.row)])=F2:=⟨_,rfl⟩;have o2: ∀q,q≠12→F2.get q=F1.get q:=fun q hq=>(by rw [←hF2,Fr.aw _ hq]);have f2_12:=(by rw [←hF2,Fr.a7]:F2.get 12=some (.box [.aZ (H.length,ao 93 22) 1 (ay r).ah.length 0 (ay r).ah.length, .aZ (H.length,ao 93 27) 2 (ay r).aq.length 0 (ay r).aq.length,cH (H.length,ao 93 53) 2 ((ay r).aa.map bm.row)]));have f2_51:=(o2 51 (by decide)).trans f1_51;have f2_3:=(o2 3 (by decide)).trans f1_3;have sa2:=sa1.other (o2 _ (by decide)) (o2 _ (by decide)) (o2 _ (by decide));have L2:pO H F2 g (cf (fa r k kind) (fQ r k kind)):=Lf.move fun key top e=>by
   rw [kf key top e,o2 89 (by decide),o1 89 (by decide) (by decide) (by decide)]
  obtain⟨F3,r3,e3⟩:=m0 (f:=80) rfl rfl rfl [] (F:=F2) (H:=H) (.rd (g:= .pure (.agg r.row)) rfl dL (.rd sa2.rdT A8 (.T8 L2.rd rfl L2.top .nil)));have hFu:Full (ay r):=⟨by simpa [ay]using hL.run.p0,by simpa [ay]using hL.run.p0,by simp [ay];exact sh.p,by simp [ay];exact sh.p,by simp [ay];exact sh.t⟩;have hUl:(cf (fa r k kind) (fQ r k kind)).length≤1000:=by have:=tq hL;have:=hL.n40;have:=(List.takeWhile_sublist (fun a:ak=>decide (a.bc≤fa r k kind)) (l:=fQ r k kind)).length_le;show (List.takeWhile _ _).length≤_;omega
  have S:=(e3 101).trans (pL (c:=101) (H:=F3::H) hL.run.w (cf (fa r k kind) (fQ r k kind)) (by omega) (fun a ha=>(nr hL (ju ha).2).1) hL.run.snd hFu (by simp));have hsn:=jD (cf (fa r k kind) (fQ r k kind)).length (ay r) (cf (fa r k kind) (fQ r k kind)) 0 hL.run.snd fun a ha=>(nr hL (ju ha).2).1;have hlast:=nd (r:=r) (cf (fa r k kind) (fQ r k kind)).length (ay r) (cf (fa r k kind) (fQ r k kind)) 0;have hll:=pM (r:=r) (cf (fa r k kind) (fQ r k kind)).length (ay r) (cf (fa r k kind) (fQ r k kind)) 0;have hsr:uU (oL r (fa r k kind) (fQ r k kind)) r k kind=if (bM r (cf (fa r k kind) (fQ r k kind)).length (ay r) (cf (fa r k kind) (fQ r k kind)) 0).2.2.2≠0 then none else (List.range' 0 4).findSome? fun n=>ql r (kz r k) (tr r (kz r k)) (oL r (fa r k kind) (fQ r k kind)) n (bM r (cf (fa r k kind) (fQ r k kind)).length (ay r) (cf (fa r k kind) (fQ r k kind)) 0).2.1 []:=by
   unfold uU KU;rw [List.range_eq_range']
  rw [hsr];obtain⟨q,hq⟩: ∃q,bM r (cf (fa r k kind) (fQ r k kind)).length (ay r) (cf (fa r k kind) (fQ r k kind)) 0=q:=⟨_,rfl⟩;rw [hq]at S hsn hlast hll⊢;have r3_3:=r3.box f2_3;have r3_12:=r3.box f2_12;have r3_51:=r3.box f2_51;rw [cI]at S;simp only [Ar,Ex,List.nil_append]at S;have f2_51u:=f2_51;rw [lY]at f2_51u;by_cases hqe:q.2.2.2=0
  ·rw [if_neg (by simpa using hqe)];simp only [hqe,if_true]at S;have hF2':=kT hL.run.snd hsn.1 hFu;have fin:=fun(cells:List GV) (F:Fr) (g51:F.get 51=some (lY r (kz r k) (tr r (kz r k)) g (fQ r k kind) (fa r k kind))) (qQ:F.get 12=some (.box cells)) (hc:cells.length=3) (hr:C9 (F::H) cells q.2.1.row) (ht: ∀x∈cells,C5 H.length x) (Q:GX→bN→Prop)=>IA B hsn.1 hF2' Q 4 0 g cells F rfl g51 qQ hc hr ht;by_cases hl:q.1=[]
   ·have hs:q.2.1=ay r:=by rw [hl]at hlast;exact hlast.symm
    have rd:C9 (F3::H) [.aZ (H.length,ao 93 22) 1 (ay r).ah.length 0 (ay r).ah.length, .aZ (H.length,ao 93 27) 2 (ay r).aq.length 0 (ay r).aq.length,cH (H.length,ao 93 53) 2 ((ay r).aa.map bm.row)] (ay r).row:=
     sx (mm.sim (.cons r3 (mm.refl H))) (show C9 (F2::H) _ _ from sa2.rdT (H:=H))
    have ML:=fin _ F3 r3_51 r3_12 rfl (by rw [hs];exact rd) (A8 (H:=H) (k1:=ao 93 22) (k2:=ao 93 27) (k3:=ao 93 53) (s:=ay r));rw [hl]at S;simp only [List.map_nil]at S;simp [f3,FE,f1_12,Fr.a7,Fr.fe,hF2,f2_12,f2_3,f2_51u,S,hqe];refine ML _ (fun ho F=> ?_) (fun x ho F=> ?_)
    ·rw [ho];simp [ae]
    ·rw [ho];simp [ae]
   ·have hpos:0<q.1.length:=List.length_pos_iff.2 hl;have hgo:q.1[q.1.length-1]? =some q.2.1:=by
     rw [←hlast];obtain⟨n,hn⟩: ∃n,q.1.length=n+1:=⟨q.1.length-1,by omega⟩;have hnl:n<q.1.length:=(by omega);simp [List.getD_eq_getElem?_getD,hn,List.getElem?_eq_getElem hnl]
    have hneg: ¬(q.1.length:Int)-1<0:=(by omega);have hw1:=cU (x:=(q.1.length:Int)-1) (by omega) (by omega);have hl0:(0:Int)≤(q.1.length:Int)-1:=(by omega);have hnn:((q.1.length:Int)-1).toNat=q.1.length-1:=(by omega);have hgt:(0:Int)<(q.1.length:Int):=(by omega);have ML:=fin [.pure (.slice (q.2.1.ah.map aE)), .pure (.slice (q.2.1.aq.map aF.row)), .pure (.slice (q.2.1.aa.map bm.row))] (F3.ins 12 (.box [.pure (.slice (q.2.1.ah.map aE)), .pure (.slice (q.2.1.aq.map aF.row)), .pure (.slice (q.2.1.aa.map bm.row))])) (by rw [Fr.aw _ (by decide)];exact r3_51) (Fr.a7 ..) rfl ⟨rfl,rfl,rfl,trivial⟩ (fun x hx=>by
     simp only [List.mem_cons,List.not_mem_nil,or_false]at hx;rcases hx with rfl|rfl|rfl<;>exact dL)
    simp [f3,FE,f1_12,Fr.a7,Fr.fe,hF2,f2_12,f2_3,f2_51u,S,hqe,hl,hpos,hw1,hl0,hnn,hgt,hgo,hneg,r3_12,az.row];refine ML _ (fun ho F=> ?_) (fun x ho F=> ?_)
    ·rw [ho];simp [ae]
    ·rw [ho];simp [ae]
  ·have hqe':(q.2.2.2==0)=false:=(by simpa using hqe);rw [if_pos hqe];simp only [if_neg hqe]at S;simp [f3,FE,f1_12,Fr.a7,Fr.fe,hF2,f2_12,f2_3,f2_51u,S,hqe,hqe',ae]
 ·have he':(El r act kind==0)=false:=(by simpa using he);unfold qO;rw [if_pos he];rw [cI]at K⊢;simp only [if_neg he]at K;simp [K,he,he',ae,aI]
end
section
variable {c:Nat} {H:aj}
section
variable {r:aC} (sh:eL r) (hrun:lL r=0) (hls: ∀x∈r.aP,1≤x∧x≤3)
include sh hrun hls
theorem K6 {F:Fr}(f1:F.get 1=some (aD r)){i:Nat}(hi:i<r.ai.length)(Q:GX→bN→Prop): ∀k j:Nat,j+k=r.aP.length→
  (lS r i (r.aP.drop j)=none→Q (.exit 2) ⟨[(1, .aA (H.length,1) 0),(2,aN),(3,aN),(4,aN),(8, .pure (.int .i64 i))],[]::F::H,64⟩)→
  (∀a b,lS r i (r.aP.drop j)=some (a,b)→Q .ret ⟨[(1, .aA (H.length,1) 0),(2, .pure (.int .i64 a)),(3, .pure (.int .i64 b)),(4, .pure (.int .i64 0)),(8, .pure (.int .i64 i))],[]::F::H,64⟩)→
  fM KC au 37 (lp Tryz.f37 1) [1,8,9] [1,2,3,4,8] Q [(1, .aA (H.length,1) 0),(8, .pure (.int .i64 i)),(9, .pure (.int .i64 j))] ([]::F::H) 64:=by
 have hal:=sh.l;have ne1: ¬H.length=H.length+1:=(by omega);have ne2: ¬H.length=H.length+2:=(by omega);simp only [aD]at f1;intro k
 induction k with
 |zero=>
  intro j hj h1 _;have e:r.aP.drop j=[]:=List.drop_of_length_le (by omega);rw [e]at h1;have hnl: ¬j<r.aP.length:=(by omega);apply ax;conv=>arg 4;whnf
  simp [f1,ne1,ne2,hnl];simpa using h1 rfl
 |succ k ih=>
  intro j hj h1 h2;have hja:j<r.aP.length:=(by omega);have hw:=cU (x:=(j:Int)+1) (by omega) (by omega);have ed:r.aP.drop j=r.aP[j]::r.aP.drop (j+1):=List.drop_eq_getElem_cons hja;have hx:=hls _ (List.getElem_mem hja);obtain⟨x,hxe⟩: ∃x,r.aP[j]=x:=⟨_,rfl⟩;rw [hxe]at ed hx;have hg:r.ai.getD i cA=r.ai[i]:=bf hi;have e2:lS r i (x::r.aP.drop (j+1))=if pX r i x=true then lS r i (r.aP.drop (j+1))else some ((i:Int),x):=by
   unfold lS;rw [List.findSome?_cons];split
   ·rename_i y hy;split at hy
    ·cases hy
    ·rename_i hb;rw [if_neg hb];exact hy.symm
   ·rename_i hy;split at hy
    ·rename_i hb;rw [if_pos hb]
    ·cases hy
  rw [ed,e2]at h1 h2;have Y:=fun(c:Nat) (x:Int) (H:aj) (hH:0<H.length)=>cV (c:=c) (k:=x) (H:=H) hH;have ih':=ih (j+1) (by omega);by_cases hs:x=2∧r.ai[i].kind=1
  ·have hgood:pX r i x=true:=by
    unfold pX;rw [hg];simp [hs]
   rw [if_pos hgood]at h1 h2;have ih2:=ih' h1 h2;obtain⟨rfl,hk⟩:=hs;apply ax;conv=>arg 4;whnf
   simp [f1,ne1,ne2,hja,hxe,aE,hi,ak.row,Y,hk,hw];simpa using ih2
  ·have hc:=Gm hrun hi hx (by rw [hg];exact hs);have M:=fun(c:Nat) (H:aj) (hH:0<H.length)=>(ku (f:=35) (c:=c) (H:=H) rfl rfl rfl [.agg r.row, .int .i64 i, .int .i64 x]).trans (zj (c:=c) (H:=H) sh i x hH);have hmt:qO r i x= .tuple (match jR r i x with|some l=> [.slice (l.map ak.row), .int .i64 0]|none=> [.slice [], .int .i64 7]):=by
    unfold qO;rw [if_neg (by simpa using hc)];rfl
   rw [hmt]at M;simp only [List.map_cons,List.map_nil]at M;rw [cI]at M;have hgood:pX r i x=(jR r i x).isSome:=by
    unfold pX;rw [hg];simp [hs]
   rw [hgood]at h1 h2
   cases ho:jR r i x with
   |some l=>
    rw [ho]at M h1 h2;simp only [Option.isSome_some,if_true]at M h1 h2;have ih2:=ih' h1 h2;by_cases h2x:x=2
    ·subst h2x;have hk: ¬r.ai[i].kind=1:=fun e=>hs ⟨rfl,e⟩;have hk':(r.ai[i].kind==1)=false:=(by simpa using hk);apply ax;conv=>arg 4;whnf
     simp [f1,ne1,ne2,hja,hxe,aE,hi,ak.row,Y,hk,hk',hw,M];simpa using ih2
    ·have h2x':(x==2)=false:=(by simpa using h2x);apply ax;conv=>arg 4;whnf
     simp [f1,ne1,ne2,hja,hxe,aE,hi,ak.row,Y,h2x,h2x',hw,M];simpa using ih2
   |none=>
    rw [ho]at M h1 h2;simp only [Option.isSome_none,Bool.false_eq_true,if_false]at M h1 h2;have h2':=h2 i x rfl;by_cases h2x:x=2
    ·subst h2x;have hk: ¬r.ai[i].kind=1:=fun e=>hs ⟨rfl,e⟩;have hk':(r.ai[i].kind==1)=false:=(by simpa using hk);apply ax;conv=>arg 4;whnf
     simp [f1,ne1,ne2,hja,hxe,aE,hi,ak.row,Y,hk,hk',hw,M];simpa using h2'
    ·have h2x':(x==2)=false:=(by simpa using h2x);apply ax;conv=>arg 4;whnf
     simp [f1,ne1,ne2,hja,hxe,aE,hi,ak.row,Y,h2x,h2x',hw,M];simpa using h2'
theorem IB {F:Fr}(f1:F.get 1=some (aD r))(Q:GX→bN→Prop): ∀k i:Nat,i+k=r.ai.length→
  (mZ r k i=none→Q (.exit 0) ⟨[(2,aN),(3,aN),(4,aN)],F::H,64⟩)→
  (∀a b,mZ r k i=some (a,b)→Q .ret ⟨[(2, .pure (.int .i64 a)),(3, .pure (.int .i64 b)),(4, .pure (.int .i64 0))],F::H,64⟩)→
  fM KC au 37 (lp Tryz.f37 0) [1,8] [2,3,4] Q [(1, .aA (H.length,1) 0),(8, .pure (.int .i64 i))] (F::H) 64:=by
 have ne1: ¬H.length=H.length+1:=(by omega);have hal:=sh.a;have f1':=f1;simp only [aD]at f1';intro k
 induction k with
 |zero=>
  intro i hi h1 _;have hnl: ¬i<r.ai.length:=(by omega);apply ax;conv=>arg 4;whnf
  simp [f1',ne1,hnl];simpa using h1 rfl
 |succ k ih=>
  intro i hi h1 h2;have hia:i<r.ai.length:=(by omega);have hw:=cU (x:=(i:Int)+1) (by omega) (by omega);have e2:mZ r (k+1) i=match lS r i r.aP with|some y=>some y|none=>mZ r k (i+1):=by
   unfold mZ;rw [List.range'_succ,List.findSome?_cons];cases lS r i r.aP<;>rfl
  have L:=fun Q h1 h2=>K6 (H:=H) sh hrun hls f1 hia Q r.aP.length 0 (by omega) h1 h2;simp only [List.drop_zero]at L;rw [e2]at h1 h2;apply ax;conv=>arg 4;whnf
  simp [f1',ne1,hia];refine L _ (fun ho=> ?_) (fun a b ho=> ?_)
  ·rw [ho]at h1 h2;have ih':=ih (i+1) (by omega) h1 h2;simp [hw];simpa using ih'
  ·rw [ho]at h2;have h2':=h2 a b rfl;simp;exact h2'
end
theorem Km {r:aC}(sh:eL r)(hH:0<H.length):
  aL KC (aG KC) 37 [.pure (.agg r.row)] c H=some (.pure (uV r),H):=by
 refine aM (aW KC au Tryz.func37 rfl rfl Wd rfl rfl rfl (by simp) hH ?_);have R:=fun(c:Nat) (H:aj) (hH:0<H.length)=>Ku (c:=c) (H:=H) sh hH;obtain⟨s,n,hs⟩:=EB (r:=r);rw [hs]at R;unfold az.row at R;unfold uV;by_cases he:lL r=0
 ·have hc:cv r=0:=by
   rw [pN]at he;rcases Decidable.em (cv r=0)with e|e
   ·exact e
   ·rw [if_neg e]at he;exact he
  have hls:=(vI hc).1.ls;rw [he]at R⊢;rw [cI]at R⊢;have L:=fun F f1 Q h1 h2=>IB (H:=H) sh he hls (F:=F) f1 Q r.ai.length 0 (by omega) h1 h2;simp [R];refine L _ (by simp [aD]) _ (fun ho=> ?_) (fun a b ho=> ?_)
  ·rw [ho];simp [ae]
  ·rw [ho];simp [ae]
 ·have he':(lL r==0)=false:=(by simpa using he);rw [if_pos he];rw [cI]at R⊢;simp [R,he,he',ae]
end
end Go.Gh
