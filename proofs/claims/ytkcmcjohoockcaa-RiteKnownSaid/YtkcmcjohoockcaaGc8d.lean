/- Texts joined: the evaluator over ghost values, its soundness, the walks. Spaces struck and names made short by a program, for the size. -/
import Derived.Test.YtkcmcjohoockcaaGc8c
namespace Go.Gh
set_option linter.unusedVariables false
set_option linter.unusedSimpArgs false
set_option linter.unnecessarySimpa false
set_option maxRecDepth 100000
set_option maxHeartbeats 8000000
section
def rJ (ℓ n:Nat)(w:World)(S:Nat→Prop)(μ:Mu)(v:GV)(H':ae):Ending→World→Prop:=fun e w'=>
 ∃u S' μ',e= .returned u∧ax w' S' μ' (H'.length-1) u v∧aN w' S' μ' H'∧Ev ℓ w S μ w' S' μ'∧H'.length=n
section
variable {w w':World} {S S':Nat→Prop} {μ μ':Mu} {H:ae} {P:Program} {ℓ base:Nat} {r:Option Nat}
theorem aN.push (hH:aN w S μ H):aN w S μ ([]::H):=
 ⟨fun nm x hx t b hb=>hH.fY nm x (by rw [←ae.wH];exact hx) t b hb,fun nm t b hb=>by obtain⟨x,hx⟩:=hH.je nm t b hb;exact⟨x,by rw [ae.wH];exact hx⟩,hH.fF,hH.lt,hH.slt⟩
theorem nP: ∀(l:List GV) (i t:Nat),look (slotsOf i l) t=if i≤t then l.getD (t-i) aG else aG
 | [],i,t=>by simp [slotsOf,look]
 |v::l,i,t=>by
  simp only [slotsOf,iz,nP l (i+1) t];by_cases h:t=i
  ·subst h;simp
  ·rw [if_neg h];by_cases h2:i+1≤t
   ·rw [if_pos h2,if_pos (by omega)];have:t-i=(t-(i+1))+1:=(by omega);rw [this];simp
   ·rw [if_neg h2,if_neg (by omega)]
theorem AN {k:Nat}{t:TypeId}{v:Value}{g x:GV}(hv:ax w S μ k v g)(h:ig P t H g=some x): ∃a,v= .pointer (some a):=by
 cases hv with
 |aA nm off b h1 h2=>exact⟨_,rfl⟩
 |bZ nm es top i off b h1 h2=>exact⟨_,rfl⟩
 |bF b o cs f hS hf h1 hr=>exact⟨_,rfl⟩
 |fO b o cs f hS hf h1 hr=>exact⟨_,rfl⟩
 |fZ nm es i j off b h1 h2=>exact⟨_,rfl⟩
 |_=>unfold ig at h;split at h<;>cases h
theorem wI {α:Type}{k:Nat}(f:α→Sem Value)(g:α→Option GV): ∀(l:List α) (rs:List GV),(∀a b,g a=some b→ ∃u,(f a).run P w= .ok u w∧ax w S μ k u b)→
  l.mapM g=some rs→ ∃us:List Value,(l.mapM f).run P w= .ok us w∧us.length=rs.length∧ ∀j,j<rs.length→ax w S μ k (us.getD j undef) (rs.getD j aG)
 | [],rs,_,h=>by simp at h;subst h;exact⟨[],by simp,rfl,fun j hj=>by simp at hj⟩
 |a::l,rs,hf,h=>by
  rw [List.mapM_cons]at h
  cases hg:g a with
  |none=>simp [hg]at h
  |some b=>
   cases hl:l.mapM g with
   |none=>simp [hg,hl]at h
   |some rs'=>
    simp [hg,hl]at h;subst h;obtain⟨u,u1,u2⟩:=hf a b hg;obtain⟨us,q1,q2,q3⟩:=wI f g l rs' hf hl;refine⟨u::us,by rw [List.mapM_cons];simp [u1,q1],by simp [q2],fun j hj=> ?_⟩
    cases j with
    |zero=>simpa using u2
    |succ j=>simpa using q3 j (by simpa using hj)
def mH (rs:List GV):GV:=match rs with| [r]=>r|rs=>mkTuple rs
theorem pG (K:Ctx){fn:Func}{st:bE}{rs:List GV}{tmps:Array Value}{k:Nat}(hH:aN w S μ st.h)(hs: ∀t,ax w S μ k (tmps.getD t undef) (look st.s t))(h:dB K fn st=some rs):
  ∃u,(results fn tmps).run K.P w= .ok u w∧ax w S μ k u (mH rs):=by
 unfold dB at h
 obtain⟨us,q1,q2,q3⟩:=wI (P:=K.P) (w:=w) (S:=S) (μ:=μ) (k:=k) (fun x:ResultVar=>match x with
  | .tmp t=>(pure (tmps.getD t undef):Sem Value)
  | .cell a t=>do loadVar t (←asAddr (tmps.getD a undef))) _ fn.results.toList rs (fun x b hx=>by
   cases x with
   |tmp t=>simp only [Option.some.injEq]at hx;subst hx;exact⟨_,rfl,hs t⟩
   |cell a t=>
    simp only at hx;obtain⟨ad,had⟩:=AN (hs a) hx;obtain⟨u,u1,u2⟩:=pz hH (hs a) hx;refine⟨u, ?_,u2⟩;show (do loadVar t (←asAddr (tmps.getD a undef)):Sem Value).run K.P w=_
    rw [had]at u1⊢;simpa [Instr.loadAt,Instr.sureAddr,asAddr]using u1) h
 have hr:(results fn tmps).run K.P w= .ok (if h:us.toArray.size=1 then us.toArray[0]else .tuple us.toArray) w:=by
  unfold results;simp only [Array.mapM_eq_mapM_toList]
  have e:(List.mapM (fun x:ResultVar=>match x with
   | .tmp t=>(pure (tmps.getD t undef):Sem Value)
   | .cell a t=>do loadVar t (←asAddr (tmps.getD a undef))) fn.results.toList).run K.P w= .ok us w:=q1
  simp only [Sem.run_bind,Sem.run_pure,Array.getD_eq_getD_getElem?,map_eq_pure_bind,Result.andThen_ok]at e⊢;generalize hM:Sem.run K.P (List.mapM _ fn.results.toList) w=M;have hM':M= .ok us w:=hM.symm.trans e;subst hM';rfl
 refine⟨_,hr, ?_⟩
 match us,rs,q2,q3 with
 | [],[],_,q3=>exact fT (vs:= #[]) (gs:=[]) rfl fun j hj=>absurd hj (by simp)
 | [u],[x],_,q3=>simpa [mH]using q3 0 (by simp)
 |u1::u2::us,x1::x2::rs,q2,q3=>
  have:(if h:(u1::u2::us).toArray.size=1 then (u1::u2::us).toArray[0]else Value.tuple (u1::u2::us).toArray)=Value.tuple (u1::u2::us).toArray:=dif_neg (by simp);rw [this];exact fT (by simpa using q2) fun j hj=>by rw [dP];exact q3 j hj
theorem AO {k q:Nat}{x:Option (List Deferred)}{o:Obj}(hq:w.heap[q]? =some (.deferred x))(hS: ¬S q){v:Value}{g:GV}(hv:ax w S μ k v g):ax (w.putObj q o) S μ k v g:=
 hv.mono (fun _ h=>h) (fun b hb=>World.putObj_heap_other (fun e:b=q=>hS (e▸hb))) (rC hq) (fun _ _ _ _ h=>h) (Nat.le_refl _)
theorem rK {n k:Nat}{F:Fence}{fn:Func}{tmps:Array Value}{s:aS}{R:Ending→World→Prop}{w0:World}{S0:Nat→Prop}{μ0:Mu}:
  ∀(ds:List Deferred) (w:World),pB base w S μ ds→aN w S μ H→Ev ℓ w0 S0 μ0 w S μ→w0.heap.size≤base→(∀t,ax w S μ k (tmps.getD t undef) (look s t))→
  (∀w2,aN w2 S μ H→Ev ℓ w0 S0 μ0 w2 S μ→(∀t,ax w2 S μ k (tmps.getD t undef) (look s t))→ ∃v,(results fn tmps).run P w2= .ok v w2∧R (.returned v) w2)→
  LeavesInM F n P fn tmps R ds .returning w
 | [],w,_,hH,he,_,hs,fin=>fin w hH he hs
 |d::ds,w,hd,hH,he,hb,hs,fin=>by
  obtain⟨q,h1,h2,h3,h4,h5⟩:=hd.each d (List.mem_cons_self ..);refine⟨by simp, .inl ⟨q,w.putObj q (.deferred none),h1,run_takeDeferred h3, ?_⟩⟩;refine rK ds (w.putObj q (.deferred none)) ⟨fun d' hd'=> ?_,(List.pairwise_cons.1 hd.apart).2⟩ (hH.LR h3 h4 h5) (he.LR h3 (Nat.le_trans hb h2)) hb (fun t=>AO h3 h4 (hs t)) fin;obtain⟨q',g1,g2,g3,g4,g5⟩:=hd.each d' (List.mem_cons_of_mem _ hd');refine⟨q',g1,g2, ?_,g4,g5⟩;rw [World.putObj_heap_other];exact g3;intro e;subst e;exact(List.pairwise_cons.1 hd.apart).1 d' hd' (h1.trans g1.symm)
theorem tD (vs:Array Value)(n t:Nat):(vs++Array.replicate n undef).getD t undef=vs.getD t undef:=by
 simp only [Array.getD_eq_getD_getElem?,Array.getElem?_append];split
 ·rfl
 ·rename_i h;have h1:vs[t]? =none:=Array.getElem?_eq_none (by omega);rw [h1,Array.getElem?_replicate];split<;>rfl
theorem rL (K:Ctx) {rec:Rec} (hrec:jv K.P rec) {f:FuncId} {args:List GV} {c:Nat} {H':ae} {v:GV} (h:bG K rec f args c H=some (v,H')) {vs:Array Value} (hH:aN w S μ H)
  (hvs:vs.size=args.length) (hrel: ∀j,j<args.length→ax w S μ (H.length-1) (vs.getD j undef) (args.getD j aG)):
  (callFunc f vs).run K.P w= .ok (.enter f vs) w∧CallsIn (Fw none) 0 K.P f vs w (rJ (H.length-1) H.length w S μ v H'):=by
 unfold bG at h;split at h
 ·cases h
 ·rename_i fn hf;split at h
  ·cases h
  ·rename_i code hb;split at h
   ·cases h
   ·rename_i hc;simp only [Bool.or_eq_true,decide_eq_true_eq,not_or,Bool.not_eq_true,Nat.not_lt]at hc;obtain⟨⟨hname,hnt⟩,hlen⟩:=hc;refine⟨by simp only [callFunc,Sem.run_bind,run_program,Result.andThen,hf,hname,hb];rfl, ?_⟩;have hst:il w.heap.size none w S μ ⟨slotsOf 0 (args.map canon),[]::H,fn.ntmps⟩ {tmps:=vs++Array.replicate (fn.ntmps-vs.size) undef,defers:=[]}:=by
     refine⟨hH.push,fun t=> ?_, ?_,by simp,Nat.le_refl _,⟨fun d hd=>by simp at hd, .nil⟩,fun l hl=>by cases hl⟩
     ·simp only [tD,nP,Nat.zero_le,if_true,Nat.sub_zero,List.length_cons,Nat.add_sub_cancel];by_cases ht:t<args.length
      ·have:=mf ((hrel t ht).up (show H.length-1≤H.length by omega))
       have e:(args.map canon).getD t aG=canon (args.getD t aG):=(by simp [List.getD_eq_getElem?_getD,ht]);rw [e];exact this
      ·have e:(args.map canon).getD t aG=aG:=by
        rw [List.getD_eq_getElem?_getD,List.getElem?_eq_none (by simpa using ht)];rfl
       rw [e];exact cW _
     ·simp;omega
    have done: ∀e st,rec f code ⟨slotsOf 0 (args.map canon),[]::H,fn.ntmps⟩=some (e,st)→(e= .normal∨e= .ret)→
      (match dB K fn st with
       |some rs=>(match rs with
        | [r]=>fB K f c r st.h
        |rs=>fB K f c (mkTuple rs) st.h)
       |none=>none)=some (v,H')→CallsIn (Fw none) 0 K.P f vs w (rJ (H.length-1) H.length w S μ v H'):=by
     intro e st hr he hres;have hwp:=hrec f code _ e st hr _ _ w S μ _ hst;refine callsIn_of_wp_marks hf hb trivial (wpIn_mono hwp fun e' a' w' hq=> ?_);obtain⟨q1,q2,q3,S',μ',q4,q5⟩:=hq;simp only [List.length_cons,Nat.add_sub_cancel]at q2 q5;have main:LeavesInM (Fw none) 0 K.P fn a'.tmps (rJ (H.length-1) H.length w S μ v H') a'.defers .returning w':=by
      refine rK (s:=st.s) (k:=st.h.length-1) a'.defers w' q4.defs q4.heap q5 (Nat.le_refl _) q4.c8 fun w2 h2 e2 s2=> ?_;split at hres
      ·rename_i rs hrs;obtain⟨u,u1,u2⟩:=pG K h2 s2 hrs;have hl:fB K f c (mH rs) st.h=some (v,H'):=by
        unfold mH;split at hres<;>exact hres
       obtain⟨S3,μ3,l1,l2,l3,l4⟩:=Cy K h2 u2 (by omega) hl;refine⟨u,u1,u,S3,μ3,rfl,l1,l2, ?_,by omega⟩;have:st.h.length-2=H.length-1:=(by omega);rw [this]at l3;exact(e2.level (by omega)).trans l3
      ·cases hres
     rcases he with rfl|rfl
     ·simp only [dm]at q1;subst q1;exact main
     ·simp only [dm]at q1;subst q1;exact main
    split at h
    ·cases h
    ·rename_i e st hne hr;refine done e st hr ?_ h
     cases e with
     |normal=>exact .inl rfl
     |ret=>exact .inr rfl
     |exit id=>exact absurd rfl (hne id)
    ·cases h
theorem pH (ℓ:Nat)(hH:aN w S μ H){k:Nat}{v:Value}{g:GV}(hv:ax w S μ k v g):
  ∃S',aN w S' μ (dp H g).2∧Ev ℓ w S μ w S' μ∧ax w S' μ k v (dp H g).1∧dr H (dp H g).2:=by
 cases g with
 |ay nm es top lo len=>
  obtain⟨S',a1,a2,a3,a4⟩:=kA ℓ hH hv;exact⟨S',a1,a2, .pure _ _ a3,a4⟩
 |_=>exact⟨S,hH, .refl _ _ _ _,hv, .refl H⟩
theorem nQ (ℓ:Nat): ∀{gs:List GV} {vs:List Value} {S:Nat→Prop} {H:ae} {k:Nat},aN w S μ H→bz w S μ k vs gs→
  ∃S',aN w S' μ (eZ H gs).2∧Ev ℓ w S μ w S' μ∧bz w S' μ k vs (eZ H gs).1∧dr H (eZ H gs).2
 | [],vs,S,H,k,hH,hc=>by cases hc;exact⟨S,hH, .refl _ _ _ _, .nil, .refl H⟩
 |g::gs,vs,S,H,k,hH,hc=>by
  cases hc with
  |cons h1 h2 h3=>
  obtain⟨S1,a1,a2,a3,a4⟩:=pH ℓ hH h2;have h3':bz w S1 μ k _ gs:=h3.mono a2.sub (fun _ _=>rfl) (fun _ _ h=>h) (fun _ _ _ _ h=>h) (Nat.le_refl _);obtain⟨S2,b1,b2,b3,b4⟩:=nQ ℓ a1 h3';exact⟨S2,b1,a2.trans b2, .cons h1 (a3.mono b2.sub (fun _ _=>rfl) (fun _ _ h=>h) (fun _ _ _ _ h=>h) (Nat.le_refl _)) b3,a4.trans b4⟩
theorem yn (ℓ:Nat)(hH:aN w S μ H){k:Nat}{v:Value}{g:GV}(hv:ax w S μ k v g):
  ∃S',aN w S' μ (cZ H g).2∧Ev ℓ w S μ w S' μ∧ax w S' μ k v (cZ H g).1∧dr H (cZ H g).2:=by
 cases g with
 |agg l=>
  obtain⟨vs,rfl,hc⟩:=hv.cells;obtain⟨S',a1,a2,a3,a4⟩:=nQ ℓ hH hc;exact⟨S',a1,a2,dK a3,a4⟩
 |_=>exact pH ℓ hH hv
theorem lQ (ℓ:Nat): ∀{gs:List GV} {f:Nat→Value} {S:Nat→Prop} {H:ae} {k:Nat},aN w S μ H→(∀j,j<gs.length→ax w S μ k (f j) (gs.getD j aG))→
  ∃S',aN w S' μ (br H gs).2∧Ev ℓ w S μ w S' μ∧(∀j,j<gs.length→ax w S' μ k (f j) ((br H gs).1.getD j aG))∧dr H (br H gs).2∧(br H gs).1.length=gs.length
 | [],f,S,H,k,hH,hv=>⟨S,hH, .refl _ _ _ _,fun j hj=>by simp at hj, .refl H,rfl⟩
 |g::gs,f,S,H,k,hH,hv=>by
  obtain⟨S1,a1,a2,a3,a4⟩:=yn ℓ hH (show ax w S μ k (f 0) g from hv 0 (by simp))
  have hmono: ∀{S1 S2:Nat→Prop} {v:Value} {g:GV},(∀b,S1 b→S2 b)→ax w S1 μ k v g→ax w S2 μ k v g:=fun hs h=>h.mono hs (fun _ _=>rfl) (fun _ _ h=>h) (fun _ _ _ _ h=>h) (Nat.le_refl _);obtain⟨S2,b1,b2,b3,b4,b5⟩:=lQ ℓ (gs:=gs) (f:=fun j=>f (j+1)) a1 (fun j hj=>hmono a2.sub (by simpa using hv (j+1) (by simpa using hj)));refine⟨S2,b1,a2.trans b2,fun j hj=> ?_,a4.trans b4,congrArg (· +1) b5⟩
  cases j with
  |zero=>exact hmono b2.sub (by simpa [br]using a3)
  |succ j=>simpa [br]using b3 j (by simpa using hj)
theorem kB: ∀{l:List PV},oL l=true→ ∀j,iL (l.getD j .dead)=true
 | [],_,j=>by simp [iL]
 |g::r,h,j=>by
  simp only [oL,Bool.and_eq_true]at h
  cases j with
  |zero=>simpa using h.1
  |succ j=>simpa using kB h.2 j
theorem bI.flat {v:Value}{p:PV}(h:bI w S v p)(hf:iL p=true):bI w' S' v p:=by
 induction h with
 |int k n=>exact .int k n
 |bool b=>exact .bool b
 |str s=>exact .str s
 |dJ a cap=>exact .dJ a cap
 |slice b o cap es l f hb he hes hf' h1 _ hc ih=>
  cases l with
  |nil=>exact .dJ _ _
  |cons x r=>simp [iL]at hf
 |agg vs l h h1 _ ih=>exact .agg vs l h h1 fun j hj=>ih j hj (kB (by simpa only [iL]using hf) j)
 |tuple vs l h _ ih=>exact .tuple vs l h fun j hj=>ih j hj (kB (by simpa only [iL]using hf) j)
 |fn f=>exact .fn f
 |nR=>exact .nR
 |eg=>exact .eg
 |lR=>exact .lR
 |nS=>exact .nS
 |iface t v p _ ih=>exact .iface t v p (ih (by simpa only [iL]using hf))
 |dead v=>exact .dead v
theorem ax.flat {k k':Nat}{v:Value}{g:GV}(h:ax w S μ k v g)(hf:zw g=true):ax w' S' μ' k' v g:=by
 cases g with
 |pure p=>exact .pure _ _ (h.pv.flat (by simpa only [zw]using hf))
 |aO=>cases h with|aO a=>exact .aO a
 |_=>simp [zw]at hf
theorem bz.flat {k k':Nat}{vs:List Value}{gs:List GV}(h:bz w S μ k vs gs)(hf:oM gs=true):bz w' S' μ' k' vs gs:=by
 induction h with
 |nil=>exact .nil
 |cons h1 h _ ih=>
  simp only [oM,Bool.and_eq_true]at hf;exact .cons h1 (h.flat hf.1) (ih hf.2)
def rM (q:Option Nm):GV→Prop
 | .pure _| .aO=>True
 | .func _ a c=>(bd a).isSome=true∧(bd c).isSome=true
 | .aA nm _=>q=some nm
 |_=>False
theorem rM.none {q:Option Nm}{g:GV}(h:rM none g):rM q g:=by
 cases g with
 |aA nm off=>cases h
 |_=>exact h
theorem tE: ∀{l:List GV} {q:Option Nm},mS l=some q→ ∀g∈l,rM q g
 | [],q,_,g,hg=>by simp at hg
 |x::r,q,h,g,hg=>by
  simp only [mS]at h;split at h
  ·cases h
  ·rename_i q' hr;have ih:=tE hr;split at h
   ·cases h;rcases List.mem_cons.1 hg with rfl|hg
    ·trivial
    ·exact ih g hg
   ·cases h;rcases List.mem_cons.1 hg with rfl|hg
    ·trivial
    ·exact ih g hg
   ·split at h
    ·rename_i hc;cases h;rcases List.mem_cons.1 hg with rfl|hg
     ·simpa only [rM,Bool.and_eq_true]using hc
     ·exact ih g hg
    ·cases h
   ·rename_i nm off;split at h
    ·cases h;rcases List.mem_cons.1 hg with rfl|hg
     ·rfl
     ·exact(ih g hg).none
    ·rename_i nm';split at h
     ·rename_i e;cases h;rcases List.mem_cons.1 hg with rfl|hg
      ·simp [rM,e]
      ·exact ih g hg
     ·cases h
   ·cases h
theorem pI: ∀{l:List GV},(bd l).isSome=true→ ∀j,∃p,l.getD j aG= .pure p
 | [],_,j=>⟨.dead,by simp [aG]⟩
 |g::r,h,j=>by
  cases g with
  |pure p=>
   have h2:(bd r).isSome=true:=by
    simp only [bd]at h;split at h
    ·rename_i ps hps;rw [hps];rfl
    ·cases h
   cases j with
   |zero=>exact⟨p,by simp⟩
   |succ j=>simpa using pI h2 j
  |_=>simp [bd]at h
theorem AP {q:Option Nm}{k:Nat}{v:Value}{g:GV}(h:ax w S μ k v g)(ho:rM q g)(hS: ∀b,S b→S' b)(hm: ∀nm b,q=some nm→μ nm 0=some b→μ' nm 0=some b):ax w S' μ' k v g:=by
 have hp: ∀{v p},bI w S v p→bI w S' v p:=fun h=>h.mono hS (fun _ _=>rfl);have hl: ∀{l:List GV} {f:Nat→Value},(bd l).isSome=true→(∀j,j<l.length→ax w S μ k (f j) (l.getD j aG))→ ∀j,j<l.length→ax w S' μ' k (f j) (l.getD j aG):=fun {l f} h hv j hj=>by
  obtain⟨p,e⟩:=pI h j;have:=hv j hj;rw [e]at this⊢;exact .pure _ _ (hp this.pv)
 cases h with
 |pure v p h=>exact .pure _ _ (hp h)
 |aO a=>exact .aO a
 |func f a c la lc h1 h2 h3 h4=>exact .func f a c la lc h1 h2 (hl ho.1 h3) (hl ho.2 h4)
 |aA nm off b h1 h2=>exact .aA nm off b h1 (hm nm b ho h2)
 |_=>exact ho.elim
theorem jI (H:ae):(m8 H).length=H.length:=by simp [m8]
theorem nT: ∀{l:List (List PV)},lS l=true→ ∀i j,iL ((l.getD i []).getD j .dead)=true
 | [],_,i,j=>by simp [iL]
 |g::r,h,i,j=>by
  simp only [lS,Bool.and_eq_true]at h
  cases i with
  |zero=>simpa using kB h.1 j
  |succ i=>simpa using nT h.2 i j
theorem nV {H0:ae}{L:Nat}: ∀(ks:List Nat) (H H':ae),ks.Nodup→L<H.length→mh H0 L ks H=some H'→
  H'.length=H.length∧(∀k∈ks,∃es rows vf,H0.get (L,k)=some (.arr es rows vf false)∧lS rows=true∧H'.get (L,k)=some (.arr es rows vf false)∧H.get (L,k)=none)∧
   ∀nm:Nm,(∀k∈ks,nm≠(L,k))→H'.get nm=H.get nm
 | [],H,H',_,_,h=>by
  simp only [mh,Option.some.injEq]at h;subst h;exact⟨rfl,fun k hk=>by simp at hk,fun _ _=>rfl⟩
 |k::ks,H,H',hn,hl,h=>by
  obtain⟨n1,n2⟩:=List.nodup_cons.1 hn;simp only [mh]at h;split at h
  ·rename_i es rows vf h1 h2;split at h
   ·rename_i hf;obtain⟨q1,q2,q3⟩:=nV ks _ H' n2 (by rw [ae.length_set];exact hl) h;have hne: ∀k'∈ks,((L,k):Nm)≠(L,k'):=fun k' hk' e=>by
     have:=(Prod.mk.inj e).2;subst this;exact n1 hk'
    refine⟨q1.trans (ae.length_set _ _ _),fun k' hk'=> ?_,fun nm hnm=> ?_⟩
    ·rcases List.mem_cons.1 hk' with rfl|hk'
     ·refine⟨es,rows,vf,h1,hf, ?_,h2⟩;rw [q3 _ hne];exact ae.cw _ hl
     ·obtain⟨es',rows',vf',x1,x2,x3,x4⟩:=q2 k' hk';refine⟨es',rows',vf',x1,x2,x3, ?_⟩;rw [ae.a9 _ (Ne.symm (hne k' hk'))]at x4;exact x4
    ·rw [q3 nm fun k' hk'=>hnm k' (List.mem_cons_of_mem _ hk')];exact ae.a9 _ (hnm k (List.mem_cons_self ..))
   ·cases h
  ·cases h
theorem tF {k L:Nat}{names:List Nat}(hm: ∀q t b,q∈names→μ (L,q) t=some b→μ' (L,q) t=some b){v:Value}{g:GV}(h:ax w S μ k v g)(hl:nW L g=true)(hr: ∀q∈fy L g,q∈names):ax w S' μ' k v g:=by
 cases h with
 |pure v p h=>exact .pure _ _ (h.flat (by simpa only [nW]using hl))
 |aO a=>exact .aO a
 |ay nm es top lo len cap b n e h1 h2 h3 h4 h5 h6=>
  have e1:nm.1=L:=(by simpa only [nW,decide_eq_true_eq]using hl);have e2:nm=(L,nm.2):=Prod.ext e1 rfl;refine .ay nm es top lo len cap b n e h1 ?_ h3 h4 h5 h6;rw [e2]at h2⊢;exact hm _ _ _ (hr _ (by simp [fy,e1])) h2
 |_=>simp [nW]at hl
theorem tG {L:Nat}: ∀{l:List GV},zx L l=true→ ∀j,j<l.length→nW L (l.getD j aG)=true
 | [],_,j,hj=>by simp at hj
 |g::r,h,j,hj=>by
  simp only [zx,Bool.and_eq_true]at h
  cases j with
  |zero=>simpa using h.1
  |succ j=>simpa using tG h.2 j (by simpa using hj)
theorem rN {L:Nat}: ∀{l:List GV},uT L l=true→ ∀j,j<l.length→pJ L (l.getD j aG)=true
 | [],_,j,hj=>by simp at hj
 |g::r,h,j,hj=>by
  simp only [uT,Bool.and_eq_true]at h
  cases j with
  |zero=>simpa using h.1
  |succ j=>simpa using rN h.2 j (by simpa using hj)
theorem tH {k L:Nat}{names:List Nat}(hm: ∀q t b,q∈names→μ (L,q) t=some b→μ' (L,q) t=some b){v:Value}{g:GV}(h:ax w S μ k v g)(hl:pJ L g=true)(hr: ∀q∈ij L g,q∈names):ax w S' μ' k v g:=by
 cases g with
 |agg l=>
  cases h with
  |agg vs _ h1 h2 h3=>
   refine .agg vs l h1 h2 fun j hj=>tF hm (h3 j hj) (tG (by simpa only [pJ]using hl) j hj) fun q hq=>hr q ?_;have e2:l.getD j aG=l[j]:=(by simp [List.getD_eq_getElem?_getD,hj]);rw [e2]at hq;exact List.mem_flatMap.2 ⟨l[j],List.getElem_mem hj,hq⟩
 |func f a c=>simp [pJ,nW]at hl
 |_=>exact tF hm h (by simpa only [pJ]using hl) (by simpa only [ij]using hr)
theorem AQ {k L:Nat}{names:List Nat}(hm: ∀q t b,q∈names→μ (L,q) t=some b→μ' (L,q) t=some b){v:Value}{g:GV}(h:ax w S μ k v g)(hl:wJ L g=true)(hr: ∀q∈refs L g,q∈names):ax w S' μ' k v g:=by
 cases g with
 |tuple l=>
  cases h with
  |tuple vs _ h1 h2=>
   refine .tuple vs l h1 fun j hj=>tH hm (h2 j hj) (rN (by simpa only [wJ]using hl) j hj) fun q hq=>hr q ?_;have e2:l.getD j aG=l[j]:=(by simp [List.getD_eq_getElem?_getD,hj]);rw [e2]at hq;exact List.mem_flatMap.2 ⟨l[j],List.getElem_mem hj,hq⟩
 |_=>exact tH hm h (by simpa only [wJ]using hl) (by simpa only [refs]using hr)
theorem yo {n0:Nat} {H0 Hm H':ae} {v0 v:GV} {u:Value} (h0:aN w S' μ' H0) (hm:aN w S μ Hm) (hp:0<Hm.length) (hS: ∀b,S b→b<n0) (hlt: ∀nm t b,μ nm t=some b→b<n0)
  (hnew: ∀nm t b,Hm.get nm=none→μ' nm t=some b→n0≤b) (hv:ax w S' μ' (Hm.length-1) u v0) (h:mj H0 v0 Hm=some (v,H')):
  ∃μ2,ax w S μ2 (Hm.length-1) u v∧aN w S μ2 H'∧(∀nm t b,μ nm t=some b→μ2 nm t=some b)∧(∀nm t b,μ2 nm t=some b→b<n0→μ nm t=some b)∧H'.length=Hm.length:=by
 unfold mj at h;split at h
 ·rename_i hlent;split at h
  ·rename_i H1 hins;simp only [Option.some.injEq,Prod.mk.injEq]at h;obtain⟨rfl,rfl⟩:=h;generalize hL:Hm.length-1=L at*;generalize hks:dedup (refs L v0)=ks at*;have hnd:ks.Nodup:=hks▸gV _;obtain⟨q1,q2,q3⟩:=nV ks Hm H1 hnd (by omega) hins
   let μ2:Mu:=fun nm t=>if nm.1=L∧nm.2∈ks then μ' nm t else μ nm t
   have e1: ∀k t,k∈ks→μ2 (L,k) t=μ' (L,k) t:=fun k t hk=>if_pos ⟨rfl,hk⟩;have e2: ∀nm:Nm,(∀k∈ks,nm≠(L,k))→ ∀t,μ2 nm t=μ nm t:=fun nm hn t=>if_neg fun hc=>hn nm.2 hc.2 (Prod.ext hc.1 rfl);have cases': ∀nm:Nm,(∃k∈ks,nm=(L,k))∨ ∀k∈ks,nm≠(L,k):=fun nm=>by
    by_cases hc:nm.1=L∧nm.2∈ks
    ·exact .inl ⟨nm.2,hc.2,Prod.ext hc.1 rfl⟩
    ·exact .inr fun k hk e=>hc (by subst e;exact⟨rfl,hk⟩)
   have old: ∀nm t b,μ nm t=some b→ ∀k∈ks,nm≠(L,k):=fun nm t b hb k hk e=>by
    subst e;obtain⟨x,hx⟩:=hm.je _ _ _ hb;obtain⟨_,_,_,_,_,_,x4⟩:=q2 k hk;rw [x4]at hx;cases hx
   have fresh: ∀k t b,k∈ks→μ' (L,k) t=some b→n0≤b:=fun k t b hk hb=>by
    obtain⟨_,_,_,_,_,_,x4⟩:=q2 k hk;exact hnew _ _ _ x4 hb
   have up: ∀nm t b,μ nm t=some b→μ2 nm t=some b:=fun nm t b hb=>(by rw [e2 nm (old nm t b hb)];exact hb);refine⟨μ2, ?_,⟨fun nm x hx t b hb=> ?_,fun nm t b hb=> ?_,fun nm nm' t t' b h1 h2=> ?_,fun nm t b hb=> ?_,hm.slt⟩,up,fun nm t b hb hlt=> ?_,q1⟩
   ·exact AQ (names:=ks) (fun q t b hq hb=>by rw [e1 q t hq];exact hb) hv hlent fun q hq=>by rw [←hks];exact(iA _).2 hq
   ·rcases cases' nm with ⟨k,hk,rfl⟩|hn
    ·obtain⟨es,rows,vf,x1,x2,x3,x4⟩:=q2 k hk;rw [x3]at hx;cases hx;rw [e1 k t hk]at hb;obtain⟨h0',h1',h2',⟨b0,h3'⟩,h4'⟩:=h0.fY _ _ x1 t b hb;refine⟨h0',h1',h2',⟨b0,by rw [e1 k _ hk];exact h3'⟩,fun top b hb'=> ?_⟩;rw [e1 k _ hk]at hb';obtain⟨g1,g2,g3,g4⟩:=h4' top b hb';refine⟨g1,g2,fun _ hs=>by have:=hS b hs;have:=fresh k top b hk hb';omega,fun hv=>⟨fun hr=>(by cases hr),fun i j hi hj=> ?_⟩⟩;obtain⟨u',u1,u2,u3⟩:=(g4 hv).2 i j hi hj;exact⟨u',u1,u2,u3.flat (nT x2 i j)⟩
    ·rw [q3 nm hn]at hx;rw [e2 nm hn]at hb;exact(hm.fY nm x hx t b hb).mono (fun _ h=>h) (fun _ _=>rfl) (fun _ _ h=>h) (fun n t b _ h=>up n t b h) (fun t=>e2 nm hn t) (fun _ _ _=>rfl) (fun _ _ _ h=>h)
   ·rcases cases' nm with ⟨k,hk,rfl⟩|hn
    ·obtain⟨es,rows,vf,x1,x2,x3,x4⟩:=q2 k hk;exact⟨_,x3⟩
    ·rw [e2 nm hn]at hb;obtain⟨x,hx⟩:=hm.je _ _ _ hb;exact⟨x,by rw [q3 nm hn];exact hx⟩
   ·rcases cases' nm with ⟨k,hk,rfl⟩|hn
    ·rw [e1 k t hk]at h1;rcases cases' nm' with ⟨k',hk',rfl⟩|hn'
     ·rw [e1 k' t' hk']at h2;exact h0.fF _ _ _ _ _ h1 h2
     ·rw [e2 nm' hn']at h2;have:=fresh k t b hk h1;have:=hlt _ _ _ h2;omega
    ·rw [e2 nm hn]at h1;rcases cases' nm' with ⟨k',hk',rfl⟩|hn'
     ·rw [e1 k' t' hk']at h2;have:=fresh k' t' b hk' h2;have:=hlt _ _ _ h1;omega
     ·rw [e2 nm' hn']at h2;exact hm.fF _ _ _ _ _ h1 h2
   ·rcases cases' nm with ⟨k,hk,rfl⟩|hn
    ·rw [e1 k t hk]at hb;exact h0.lt _ _ _ hb
    ·rw [e2 nm hn]at hb;exact hm.lt _ _ _ hb
   ·rcases cases' nm with ⟨k,hk,rfl⟩|hn
    ·rw [e1 k t hk]at hb;have:=fresh k t b hk hb;omega
    ·rw [e2 nm hn]at hb;exact hb
  ·cases h
 ·cases h
theorem AR (K:Ctx) {rec:Rec} (hrec:jv K.P rec) {f:FuncId} {args:List GV} {c:Nat} {Hf H':ae} {v:GV} (h:gL K rec f args c H=some (v,H')) {vs:Array Value} (hH:aN w S μ H)
  {S1:Nat→Prop} (hf:aN w S1 μ Hf) (hfb: ∀nm cs,H.get nm=some (.box cs)→Hf.get nm=some (.box cs))
  (hvs:vs.size=args.length) (hrel: ∀j,j<args.length→ax w S1 μ (H.length-1) (vs.getD j undef) (args.getD j aG)):
  (callFunc f vs).run K.P w= .ok (.enter f vs) w∧CallsIn (Fw none) 0 K.P f vs w (rJ (H.length-1) H.length w S μ v H'):=by
 have main: ∀(q:Option Nm) (H0 H0' Hm:ae) (v0:GV),mS args=some q→H0.length=H.length→aN w (fun b=>b<w.heap.size∧ ∀nm,q=some nm→μ nm 0≠some b) (fun n t=>if q=some n∧t=0 then μ n t else none) H0→
   (∀nm,q=some nm→(∃cs,H.get nm=some (.box cs))∧Hm.get nm≠none)→bG K rec f args c H0=some (v0,H0')→mj H0' v0 Hm=some (v,H')→Hm.length=H.length→
   (∀w' S' μ',aN w' S' μ' H0'→Ev (H.length-1) w (fun b=>b<w.heap.size∧ ∀nm,q=some nm→μ nm 0≠some b) (fun n t=>if q=some n∧t=0 then μ n t else none) w' S' μ'→aN w' S μ Hm)→
   (callFunc f vs).run K.P w= .ok (.enter f vs) w∧CallsIn (Fw none) 0 K.P f vs w (rJ (H.length-1) H.length w S μ v H'):=by
  intro q H0 H0' Hm v0 hq hl0 hH0 hbx hg hend hml hres;have hbox: ∀nm b,q=some nm→μ nm 0=some b→ ¬S b∧ ¬S1 b:=fun nm b e hm=>by
   obtain⟨⟨cs,hcs⟩,_⟩:=hbx nm e;constructor
   ·obtain⟨b',_,_,h1,h2,_⟩:=hH.fY _ _ hcs _ _ hm;rw [hm]at h1;cases h1;exact h2
   ·obtain⟨b',_,_,h1,h2,_⟩:=hf.fY _ _ (hfb _ _ hcs) _ _ hm;rw [hm]at h1;cases h1;exact h2
  obtain⟨r1,r2⟩:=rL K hrec hg hH0 hvs (fun j hj=>by
   have hm:args.getD j aG∈args:=by
    have:args.getD j aG=args[j]:=(by simp [List.getD_eq_getElem?_getD,hj]);rw [this];exact List.getElem_mem hj
   rw [hl0];exact AP (hrel j hj) (tE hq _ hm) (fun b hb=>⟨hf.slt b hb,fun nm e hm=>(hbox nm b e hm).2 hb⟩) (fun nm b e hm=>by rw [if_pos ⟨e,rfl⟩];exact hm))
  have hp:0<H.length:=by
   unfold bG at hg;split at hg
   ·cases hg
   ·split at hg
    ·cases hg
    ·split at hg
     ·cases hg
     ·rename_i hc;simp only [Bool.or_eq_true,decide_eq_true_eq,not_or]at hc;omega
  refine⟨r1,CallsIn.mono r2 fun e w' hd=> ?_⟩;obtain⟨u,S',μ',d1,d2,d3,d4,d5⟩:=hd;rw [hl0]at d4;have k1:=hres w' S' μ' d3 d4;rw [show H0'.length-1=Hm.length-1 by omega]at d2
  obtain⟨μ2,z1,z2,z3,z4,z5⟩:=yo (n0:=w.heap.size) d3 k1 (by omega) hH.slt hH.lt (fun nm t b hn hb=>by
   rcases Nat.lt_or_ge b w.heap.size with hlt|hge
   ·exfalso;obtain⟨nm',t',h'⟩:=d4.own nm t b hb hlt;have h'':(if q=some nm'∧t'=0 then μ nm' t' else none)=some b:=h';split at h''
    ·rename_i hc;obtain⟨⟨cs,hcs⟩,hne⟩:=hbx nm' hc.1;have hb':=d4.mu nm' t' b (by have:=ae.cj hcs;omega) h';have:=d3.fF _ _ _ _ _ hb hb';subst this;exact hne hn
    ·cases h''
   ·exact hge) d2 hend
  refine⟨u,S,μ2,d1,by rw [show H'.length-1=Hm.length-1 by omega];exact z1,z2, ?_,by omega⟩
  exact⟨d4.os,d4.tape,d4.out,d4.size,fun _ h=>h,fun b hb ho=>d4.same b hb (.inl ⟨hb,fun nm e hm=>by
   rcases ho with ho|ho
   ·exact(hbox nm b e hm).1 ho
   ·exact ho _ _ hm⟩),d4.zp,d4.lp,fun nm t b _ h=>z3 nm t b h,fun nm t b h hlt=>⟨nm,t,z4 nm t b h hlt⟩,fun _ h _=> .inl h⟩
 unfold gL at h;split at h
 ·cases h
 ·rename_i hq;split at h
  ·rename_i v0 H0' hg;refine main none (m8 H) H0' H v0 hq (jI H) ⟨fun nm x hx t b hb=> ?_,fun nm t b hb=> ?_,fun nm nm' t t' b h1 h2=> ?_,fun nm t b hb=> ?_,fun b hb=>hb.1⟩ (fun nm e=>by cases e) hg h rfl fun w' S' μ' h3 h4=> ?_
   ·simp at hb
   ·simp at hb
   ·simp at h1
   ·simp at hb
   ·have hsame: ∀b,b<w.heap.size→w'.heap[b]? =w.heap[b]? :=fun b hb=>h4.same b hb (.inl ⟨hb,fun nm e=>by cases e⟩)
    exact⟨fun nm x hx t b hb=>(hH.fY nm x hx t b hb).mono (fun _ h=>h) (fun b hb=>hsame b (hH.slt b hb)) h4.zp (fun _ _ _ _ h=>h) (fun _=>rfl) (fun t b hm=>hsame b (hH.lt _ _ _ hm)) (fun _ _ _ h=>h),
     hH.je,hH.fF,fun nm t b h=>Nat.lt_of_lt_of_le (hH.lt nm t b h) h4.size,fun b h=>Nat.lt_of_lt_of_le (hH.slt b h) h4.size⟩
  ·cases h
 ·rename_i nm hq;split at h
  ·rename_i cs hbx;have hlt:nm.1<H.length:=ae.cj hbx;split at h
   ·cases h
   ·rename_i hcs;have hcs:oM cs=true:=(by simpa using hcs);split at h
    ·rename_i v0 H0' hg;split at h
     ·rename_i cs' hbx';split at h
      ·rename_i hfl;have hset:((m8 H).set nm (.box cs)).get nm=some (.box cs):=ae.cw _ (by rw [jI];exact hlt);have hm0: ∀n t b,(if (some nm:Option Nm)=some n∧t=0 then μ n t else none)=some b→n=nm∧t=0∧μ nm 0=some b:=fun n t b hb=>by
        split at hb
        ·rename_i hc;obtain⟨c1,c2⟩:=hc;cases c1;subst c2;exact⟨rfl,rfl,hb⟩
        ·cases hb
       refine main (some nm) _ H0' _ v0 hq (by rw [ae.length_set,jI]) ⟨fun n x hx t b hb=> ?_,fun n t b hb=> ?_,fun n n' t t' b h1 h2=> ?_,fun n t b hb=> ?_,fun b hb=>hb.1⟩ (fun n e=>by cases e;exact⟨⟨cs,hbx⟩,by rw [ae.cw _ hlt];simp⟩) hg h (by rw [ae.length_set]) fun w' S' μ' h3 h4=> ?_
       ·obtain⟨rfl,rfl,hb2⟩:=hm0 n t b hb;rw [hset]at hx;cases hx;obtain⟨b',c1,e1,g1,g2,g3,g4⟩:=hH.fY _ _ hbx _ _ hb2;refine⟨b',c1,e1,by show (if (some n:Option Nm)=some n∧(0:Nat)=0 then μ n 0 else none)=some b';rw [if_pos ⟨rfl,rfl⟩];exact g1,fun hs=>hs.2 n rfl g1,g3,g4.flat hcs⟩
       ·obtain⟨rfl,rfl,hb2⟩:=hm0 n t b hb;exact⟨_,hset⟩
       ·exact(hm0 _ _ _ h1).1.trans (hm0 _ _ _ h2).1.symm
       ·obtain⟨rfl,rfl,hb2⟩:=hm0 n t b hb;exact hH.lt _ _ _ hb2
       ·have hsame: ∀b,b<w.heap.size→μ nm 0≠some b→w'.heap[b]? =w.heap[b]? :=fun b hb hn=>h4.same b hb (.inl ⟨hb,fun n e=>by cases e;exact hn⟩);have hSb: ∀b,S b→μ nm 0≠some b:=fun b hb hm=>by
         obtain⟨b',_,_,g1,g2,_⟩:=hH.fY _ _ hbx _ _ hm;rw [hm]at g1;cases g1;exact g2 hb
        have hw: ∀b,S b→w'.heap[b]? =w.heap[b]? :=fun b hb=>hsame b (hH.slt b hb) (hSb b hb);refine⟨fun n x hx t b hb=> ?_,fun n t b hb=> ?_,hH.fF,fun n t b h=>Nat.lt_of_lt_of_le (hH.lt n t b h) h4.size,fun b h=>Nat.lt_of_lt_of_le (hH.slt b h) h4.size⟩
        ·by_cases e:n=nm
         ·subst e;rw [ae.cw _ hlt]at hx;cases hx;obtain⟨b',c1,e1,g1,g2,g3,g4⟩:=hH.fY _ _ hbx _ _ hb;have hmu:μ' n 0=some b':=h4.mu n 0 b' (by omega) (by show (if (some n:Option Nm)=some n∧(0:Nat)=0 then μ n 0 else none)=some b';rw [if_pos ⟨rfl,rfl⟩];exact g1)
          obtain⟨b2,c2,e2,k1,k2,k3,k4⟩:=h3.fY _ _ hbx' _ _ hmu;rw [hmu]at k1;cases k1;exact⟨b',c2,e2,g1,g2,k3,k4.flat hfl⟩
         ·rw [ae.a9 _ e]at hx;exact(hH.fY n x hx t b hb).mono (fun _ h=>h) hw h4.zp (fun _ _ _ _ h=>h) (fun _=>rfl) (fun t b hm=>hsame b (hH.lt _ _ _ hm) fun h=>e (hH.fF _ _ _ _ _ hm h)) (fun _ _ _ h=>h)
        ·obtain⟨x,hx⟩:=hH.je n t b hb;by_cases e:n=nm
         ·subst e;exact⟨_,ae.cw _ hlt⟩
         ·exact⟨x,by rw [ae.a9 _ e];exact hx⟩
      ·cases h
     ·cases h
    ·cases h
  ·cases h
theorem uU {args:List GV}{vs:Array Value}{k:Nat}(h:jN args=true)(hvs:vs.size=args.length)(hrel: ∀j,j<args.length→ax w S μ k (vs.getD j undef) (args.getD j aG)): ∃a cap,vs= #[.slice a 0 cap]:=by
 have one: ∀g:GV,args=[g]→(∃a cap,vs.getD 0 undef= .slice a 0 cap)→ ∃a cap,vs= #[.slice a 0 cap]:=fun g e ⟨a,cap,h0⟩=>by
  subst e;refine⟨a,cap, ?_⟩;have hs:vs.size=1:=hvs;apply Array.ext (by simp [hs]);intro i h1 h2;have:i=0:=(by simp at h2;omega);subst this;simpa [Array.getD_eq_getD_getElem?,hs]using h0
 unfold jN at h;split at h
 ·refine one _ rfl ?_;have:=hrel 0 (by simp);simp only [List.getD_cons_zero]at this;generalize vs.getD 0 undef=x at this⊢
  cases this with
  |aO a=>exact⟨a,0,rfl⟩
 ·refine one _ rfl ?_;have:=hrel 0 (by simp);simp only [List.getD_cons_zero]at this;obtain⟨a,cap,e,_⟩:=this.pv.iw;exact⟨a,cap,e⟩
 ·cases h
theorem uV (K:Ctx) (hK:fE K) {rec:Rec} (hrec:jv K.P rec) {f:FuncId} {args:List GV} {c:Nat} {H':ae} {v:GV} (h:aK K rec f args c H=some (v,H')) {vs:Array Value} (hH:aN w S μ H)
  (hvs:vs.size=args.length) (hrel: ∀j,j<args.length→ax w S μ (H.length-1) (vs.getD j undef) (args.getD j aG)):
  (callFunc f vs).run K.P w= .ok (.enter f vs) w∧CallsIn (Fw none) 0 K.P f vs w (rJ (H.length-1) H.length w S μ v H'):=by
 unfold aK at h;split at h
 ·rename_i hc;simp only [Bool.and_eq_true]at hc;simp only [Option.some.injEq,Prod.mk.injEq]at h;obtain⟨rfl,rfl⟩:=h;obtain⟨a,cap,rfl⟩:=uU hc.2 hvs hrel;obtain⟨c1,c2⟩:=hK.vw f hc.1 w a cap;refine⟨c1,CallsIn.mono c2 fun e w' hd=> ?_⟩;obtain⟨⟨a',rfl⟩,d1,d2,d3,d4,d5⟩:=hd;have hsh: ∀b x,w.shape? b=some x→w'.shape? b=some x:=fun b x hx=>by
   have hb:b<w.heap.size:=by
    unfold World.shape? at hx;rcases Nat.lt_or_ge b w.heap.size with h|h
    ·exact h
    ·rw [Array.getElem?_eq_none h]at hx;cases hx
   unfold World.shape? at hx⊢;rw [d5 b hb];exact hx
  refine⟨_,S,μ,rfl, .aO _, ?_,⟨d1,d2,d3,d4,fun _ h=>h,fun b hb _=>d5 b hb,hsh,fun b r hr=>⟨r,by rw [d5 b (Array.getElem?_eq_some_iff.1 hr).1];exact hr⟩,fun _ _ _ _ h=>h,fun nm t b h _=>⟨nm,t,h⟩,fun _ h _=> .inl h⟩,rfl⟩
  exact⟨fun nm x hx t b hb=>(hH.fY nm x hx t b hb).mono (fun _ h=>h) (fun b hb=>d5 b (hH.slt b hb)) hsh (fun _ _ _ _ h=>h) (fun _=>rfl) (fun t b hm=>d5 b (hH.lt _ _ _ hm)) (fun _ _ _ h=>h),
   hH.je,hH.fF,fun nm t b h=>Nat.lt_of_lt_of_le (hH.lt nm t b h) d4,fun b h=>Nat.lt_of_lt_of_le (hH.slt b h) d4⟩
 split at h
 ·obtain⟨S1,a1,a2,a3,a4,a5⟩:=lQ (H.length-1) hH hrel;refine AR K hrec h hH a1 a4.2.1 (by simpa using hvs.trans a5.symm) (fun j hj=> ?_);have hj':j<(br H args).1.length:=(by simpa using hj);have e:(((br H args).1.map canon).getD j aG)=canon ((br H args).1.getD j aG):=(by simp [List.getD_eq_getElem?_getD,hj']);rw [e];exact mf (a3 j (by omega))
 split at h
 ·obtain⟨S1,a1,a2,a3,a4,a5⟩:=lQ (H.length-1) hH hrel;obtain⟨b1,b2⟩:=rL K hrec h a1 (hvs.trans a5.symm) (fun j hj=>by rw [a4.1];exact a3 j (by omega));refine⟨b1,CallsIn.mono b2 fun e w' hd=> ?_⟩;obtain⟨u,S2,μ2,d1,d2,d3,d4,d5⟩:=hd;rw [a4.1]at d4 d5;exact⟨u,S2,μ2,d1,d2,d3,a2.trans d4,d5⟩
 ·exact rL K hrec h hH hvs hrel
end
end
section
section
variable {w w':World} {S S':Nat→Prop} {μ μ':Mu} {H:ae} {P:Program} {ℓ base:Nat} {r:Option Nat}
theorem aN.rO (hH:aN w S μ H){nm:Nm}{l:dR}{b:Nat}{q:Loop}{x:LoopState}{p:Option GX}(hg:H.get nm=some (.loop l))(hm:μ nm 0=some b)(hb:w.heap[b]? =some (.loop q))(hp:p≠some .normal):
  aN (w.putObj b (.loop {q with state:=x,pending:=p.map kC})) S μ (H.set nm (.loop {l with state:=x,pending:=p}))∧
   Ev ℓ w S μ (w.putObj b (.loop {q with state:=x,pending:=p.map kC})) S μ:=by
 obtain⟨b',q',h1,h2,h3,q1,q2,q3,q5,q6,q7,q8,q9⟩:=hH.fY _ _ hg _ _ hm;rw [hm]at h1;simp only [Option.some.injEq]at h1;subst h1;rw [hb]at h3;simp only [Option.some.injEq,Obj.loop.injEq]at h3;subst h3;have hlt:b<w.heap.size:=(Array.getElem?_eq_some_iff.1 hb).1;have hne: ∀b',S b'→b'≠b:=fun b' h e=>h2 (e▸h);have hoth: ∀b':Nat,b'≠b→(w.putObj b (.loop {q with state:=x,pending:=p.map kC})).heap[b']? =w.heap[b']? :=fun b' e=>World.putObj_heap_other e;have hsh: ∀b' y,w.shape? b'=some y→(w.putObj b (.loop {q with state:=x,pending:=p.map kC})).shape? b'=some y:=fun b' y h=>by
  unfold World.shape? at h⊢;by_cases e:b'=b
  ·subst e;rw [hb]at h;simp at h
  ·rw [hoth b' e];exact h
 refine hH.yd ℓ (ae.cj hg) rfl rfl rfl (by rw [World.putObj_size];exact Nat.le_refl _) (fun _ h=>h) (fun b h=> .inl h) (fun b' h=>by rw [World.putObj_size];exact hH.slt b' h) (fun k hk ho=> ?_) hsh (fun b' r h=> ?_)
  (fun n t _=>rfl) (fun t b h=>h) (fun t b h=> .inl ⟨t,h⟩) (fun t b' h=>by rw [World.putObj_size];exact hH.lt _ _ _ h)
  ⟨b,_,hm,h2,World.putObj_heap_same hlt,rfl,rfl,hp,q5,q6,q7,q8,fun t=>(q9 t).mono (fun _ h=>h) (fun b' h=>hoth b' (hne b' h)) hsh (fun _ _ _ _ h=>h) (Nat.le_refl _)⟩
 ·refine hoth k fun e=> ?_;subst e;rcases ho with ho|ho
  ·exact h2 ho
  ·exact ho 0 hm
 ·by_cases e:b'=b
  ·subst e;exact⟨_,World.putObj_heap_same hlt⟩
  ·exact⟨r,by rw [hoth b' e];exact h⟩
theorem AS (l:List (Tmp×Value)): ∀(tmps:Array Value),(l.foldl (fun tmps x=>tmps.setIfInBounds x.1 x.2) tmps).size=tmps.size:=by
 induction l with
 |nil=>intro tmps;rfl
 |cons x l ih=>intro tmps;rw [List.foldl_cons,ih];simp
theorem tI {k nt:Nat}: ∀(ts:List Tmp) (gs:List GV) (vs:List Value) (s s':aS) (tmps:Array Value),(∀t,ax w S μ k (tmps.getD t undef) (look s t))→tmps.size=nt→
  vs.length=gs.length→(∀j,j<gs.length→ax w S μ k (vs.getD j undef) (gs.getD j aG))→fj s nt ts gs=some s'→
  ts.length=gs.length∧ ∀t,ax w S μ k (((ts.zip vs).foldl (fun tmps x=>tmps.setIfInBounds x.1 x.2) tmps).getD t undef) (look s' t)
 | [],[],vs,s,s',tmps,hs,hn,hl,hv,h=>by
  simp only [fj,Option.some.injEq]at h;subst h;exact⟨rfl,by simpa using hs⟩
 |t0::ts,g::gs,[],s,s',tmps,hs,hn,hl,hv,h=>by simp at hl
 |t0::ts,g::gs,v::vs,s,s',tmps,hs,hn,hl,hv,h=>by
  simp only [fj]at h;split at h
  ·rename_i hlt;obtain⟨a,b⟩:=tI ts gs vs _ s' (tmps.setIfInBounds t0 v) (fun t=>by
    rw [iz];have:=gU ⟨tmps,[]⟩ t0 v t (by rw [show (Act.mk tmps []).tmps.size=tmps.size from rfl,hn];exact hlt)
    simp only [Act.put]at this;rw [this];split
    ·simpa using hv 0 (by simp)
    ·exact hs t) (by simp [hn]) (by simpa using hl) (fun j hj=>by simpa using hv (j+1) (by simpa using hj)) h
   exact⟨by simp [a],b⟩
  ·cases h
 | [],g::gs,vs,s,s',tmps,hs,hn,hl,hv,h=>by simp [fj]at h
 |t0::ts,[],vs,s,s',tmps,hs,hn,hl,hv,h=>by simp [fj]at h
theorem wK {fr:Fr}{nm:Nm}{x:dW}(h:nm.1≠H.length):ae.set (fr::H) nm x=fr::ae.set H nm x:=by
 show (if nm.1=H.length then _ else _)=_
 rw [if_neg h]
theorem Cz {rec:Rec} (hrec:jv P rec) {nm:Nm} {args:List GV} {H':ae} {v:GV} (h:ground rec nm args H=some (v,H')) {vs:Array Value} (hH:aN w S μ H) {k b:Nat} (hk:k=H.length-1) (hp:0<H.length)
  (hm:μ nm 0=some b) (hvs:vs.size=args.length) (hrel: ∀j,j<args.length→ax w S μ k (vs.getD j undef) (args.getD j aG)):
  ∃q:Loop,w.heap[b]? =some (.loop q)∧vs.size=q.params.size∧
   RoundIn (Fw r) 0 P b q.fn ((q.params.zip vs).foldl (fun tmps (t,a)=>tmps.setIfInBounds t a) q.tmps) q.assign q.body w (rJ (H.length-1) H.length w S μ v H'):=by
 subst hk;unfold ground at h;split at h
 ·rename_i l hg;have hnl:nm.1<H.length:=ae.cj hg;obtain⟨b',q,h1,h2,h3,q1,q2,q3,q5,q6,q7,q8,q9⟩:=hH.fY _ _ hg _ _ hm;rw [hm]at h1;simp only [Option.some.injEq]at h1;subst h1;refine⟨q,h3, ?_⟩;split at h
  ·rename_i hready;split at h
   ·rename_i s hpar;have hargs: ∀j,j<(args.map canon).length→ax w S μ H.length (vs.toList.getD j undef) ((args.map canon).getD j aG):=fun j hj=>by
     have hj':j<args.length:=(by simpa using hj);have e:(args.map canon).getD j aG=canon (args.getD j aG):=(by simp [List.getD_eq_getElem?_getD,hj']);rw [e,←dP];exact mf ((hrel j hj').up (by omega))
    obtain⟨p1,p2⟩:=tI l.params _ vs.toList l.c8 s q.tmps (fun t=>(q9 t).up (by omega)) q8 (by simpa using hvs) hargs hpar;have hps:vs.size=q.params.size:=(by rw [q5];simp at p1;simp [hvs,p1]);refine⟨hps, ?_⟩;have hfold:((q.params.zip vs).foldl (fun tmps (t,a)=>tmps.setIfInBounds t a) q.tmps)=(l.params.zip vs.toList).foldl (fun tmps x=>tmps.setIfInBounds x.1 x.2) q.tmps:=by
     rw [←Array.foldl_toList,Array.toList_zip,q5]
    rw [hfold]
    have hst:il w.heap.size (some b) w S μ ⟨s,[]::H,l.nt⟩ {tmps:=(l.params.zip vs.toList).foldl (fun tmps x=>tmps.setIfInBounds x.1 x.2) q.tmps,defers:=[]}:=
     ⟨hH.push,p2,by rw [←q8];exact AS _ _,by simp,Nat.le_refl _,⟨fun d hd=>by simp at hd, .nil⟩,fun l hl=>by cases hl;exact⟨q,h3⟩⟩
    split at h
    ·rename_i st hra;have hwa:=hrec _ _ _ _ _ hra _ _ w S μ _ hst;split at h
     ·rename_i fr H1 hh1;split at h
      ·rename_i l1 hg1;split at h
       ·cases h
       rename_i hready1;have hready1:l1.state= .ready:=Classical.not_not.1 hready1;split at h
       ·rename_i e st' hrb;split at h
        ·rename_i fr2 H2 hh2;split at h
         ·rename_i l2 hg2;refine roundIn_of_wpIn trivial ?_;rw [q6];refine wpIn_mono hwa fun e' a1 w1 hq=> ?_;obtain⟨e1,e2,e3,S1,μ1,e4,e5⟩:=hq;simp only [dm]at e1;subst e1;simp only [List.length_cons,Nat.add_sub_cancel]at e2 e5;simp only [Exit.then];have hlen1:H1.length=H.length:=(by rw [hh1]at e2;simpa using e2);have hm1:μ1 nm 0=some b:=e5.mu nm 0 b (by omega) hm;have hH1:aN w1 S1 μ1 (fr::H1):=hh1▸e4.heap;have hg1':ae.get (fr::H1) nm=some (.loop l1):=(by rw [cA,if_neg (by omega)];exact hg1);obtain⟨b1,r1,k1,k2,k3,s1,s2,s3,s5,s6,s7,s8,s9⟩:=hH1.fY _ _ hg1' _ _ hm1;rw [hm1]at k1;simp only [Option.some.injEq]at k1;subst k1;refine⟨_,run_beginRound k3 (s1.trans hready1), ?_⟩;obtain⟨t1,t2⟩:=aN.rO (ℓ:=H.length) hH1 (x:= .busy) (p:=l1.pending) hg1' hm1 k3 s3;have hpend:({r1 with state:= .busy,pending:=l1.pending.map kC}:Loop)={r1 with state:= .busy}:=(by rw [←s2]);rw [hpend]at t1 t2;rw [wK (by omega)]at t1;have hst2:il w.heap.size (some b) (w1.putObj b (.loop {r1 with state:= .busy})) S1 μ1 ⟨st.s,fr::ae.set H1 nm (.loop {l1 with state:= .busy}),l.nt⟩ a1:=by
           refine⟨t1,fun t=> ?_, ?_,by simp,Nat.le_trans e4.low t2.size,e4.defs.ev t2,lK e4.round t2⟩
           ·have:=lL (k':=H.length) e4.c8 hH1 t2 (by rw [hh1];simp [hlen1]) (by rw [hh1];simp [hlen1]) t;simpa [ae.length_set,hlen1]using this
           ·rw [e4.nt];exact e3
          have hwb:=hrec _ _ _ _ _ hrb _ _ _ S1 μ1 _ hst2;rw [q7];refine wpIn_mono hwb fun e' a2 w2 hq=> ?_;obtain⟨f1,f2,f3,S2,μ2,f4,f5⟩:=hq;simp only [List.length_cons,Nat.add_sub_cancel,ae.length_set]at f2 f5;rw [hlen1]at f2 f5;have hlen2:H2.length=H.length:=(by rw [hh2]at f2;simpa using f2);have hm2:μ2 nm 0=some b:=f5.mu nm 0 b (by omega) hm1;have hH2:aN w2 S2 μ2 (fr2::H2):=hh2▸f4.heap;have hg2':ae.get (fr2::H2) nm=some (.loop l2):=(by rw [cA,if_neg (by omega)];exact hg2);obtain⟨b2,r2,m1,m2,m3,n1,n2,n3,n5,n6,n7,n8,n9⟩:=hH2.fY _ _ hg2' _ _ hm2;rw [hm2]at m1;simp only [Option.some.injEq]at m1;subst m1
          have fin: ∀(x:LoopState) (p:Option GX) (bo:Bool),p≠some .normal→v= .pure (.bool bo)→H'=ae.set H2 nm (.loop {l2 with state:=x,pending:=p})→
            rJ (H.length-1) H.length w S μ v H' (.returned (.bool bo)) (w2.putObj b (.loop {r2 with state:=x,pending:=p.map kC})):=by
           intro x p bo hpn hv hH';subst hv;subst hH';obtain⟨u1,u2⟩:=aN.rO (ℓ:=H.length) hH2 (x:=x) (p:=p) hg2' hm2 m3 hpn;rw [wK (by omega)]at u1;have d1:=oH u1;have d2:=uN (ℓ:=H.length-1) (L:=(ae.set H2 nm (.loop {l2 with state:=x,pending:=p})).length) u1 (by rw [ae.length_set];omega);exact⟨.bool bo,_,_,rfl, .pure _ _ (.bool bo),d1,((((e5.trans (t2.level (by omega))).trans f5).trans (u2.level (by omega))).level (by omega)).trans d2,by rw [ae.length_set];exact hlen2⟩
          cases e with
          |normal=>
           simp only [dm]at f1;subst f1;simp only [Option.some.injEq,Prod.mk.injEq]at h;exact⟨_,_,run_endRound none m3,fin .ready none true (by simp) h.1.symm h.2.symm⟩
          |ret=>
           simp only [dm]at f1;subst f1;simp only [Option.some.injEq,Prod.mk.injEq]at h;exact⟨_,_,run_endRound (some .ret) m3,fin .done (some .ret) false (by simp) h.1.symm h.2.symm⟩
          |exit id=>
           simp only [dm]at f1;subst f1;simp only [Option.some.injEq,Prod.mk.injEq]at h;exact⟨_,_,run_endRound (some (.exit id)) m3,fin .done (some (.exit id)) false (by simp) h.1.symm h.2.symm⟩
         ·cases h
        ·cases h
       ·cases h
      ·cases h
     ·cases h
    ·cases h
   ·cases h
  ·cases h
 ·cases h
end
end
section
section
variable {w w':World} {S S':Nat→Prop} {μ μ':Mu} {H:ae} {P:Program} {ℓ base:Nat} {r:Option Nat}
theorem Fr.uW (q p : Nat) : ∀ f : Fr, (f.del q).get p = if p = q then none else f.get p
  | [] => by simp [Fr.del, Fr.get]
  | (k, b) :: r => by
    unfold Fr.del
    split
    · rename_i h
      rw [Fr.uW q p r]
      by_cases e : p = q
      · simp [e]
      · have e2 : ¬ p = k := fun x => e (x.trans h.symm)
        simp [e, e2, Fr.get]
    · rename_i h
      simp only [Fr.get, Fr.uW q p r]
      by_cases e : p = k
      · have e2 : ¬ p = q := fun x => h (x.symm.trans e)
        simp [e, e2]
        intro x; exact absurd x.symm h
      · simp [e]
theorem kD (p:Nat): ∀(l:List Nat) (f:Fr),(ic l f).get p=if p∈l then none else f.get p
 | [],f=>by simp [ic]
 |q::r,f=>by
  rw [ic,kD p r];by_cases h:p∈r
  ·simp [h]
  ·simp only [h,if_false,Fr.uW,List.mem_cons,or_false]
theorem fP {nm:Nm}: ∀{l:List GV},gj nm l=true→ ∀j,fe nm (l.getD j aG)=true
 | [],_,j=>by simp [aG,fe]
 |g::r,h,j=>by
  simp only [gj,Bool.and_eq_true]at h
  cases j with
  |zero=>simpa using h.1
  |succ j=>simpa using fP h.2 j
theorem pK {nm:Nm}: ∀{l:List (List GV)},qz nm l=true→ ∀i j,fe nm ((l.getD i []).getD j aG)=true
 | [],_,i,j=>by simp [aG,fe]
 |g::r,h,i,j=>by
  simp only [qz,Bool.and_eq_true]at h
  cases i with
  |zero=>simpa using fP h.1 j
  |succ i=>simpa using pK h.2 i j
theorem ax.forget {ks:List Nm}{v:Value}{g:GV}(hm: ∀n t b,n.1≤ℓ→n∉ks→μ n t=some b→μ' n t=some b)(h:ax w S μ ℓ v g)(hn: ∀k∈ks,fe k g=true):ax w S μ' ℓ v g:=by
 induction h with
 |pure v p h=>exact .pure v p h
 |bF b o cs f hb hf h1 hr=>exact .bF b o cs f hb hf h1 hr
 |fO b o cs f hb hf h1 _ ih=>exact .fO b o cs f hb hf h1 fun j hj=>ih j hj fun k hk=>fP (by simpa only [fe]using hn k hk) j
 |aO a=>exact .aO a
 |lits b o cap es l f hb he hes hf h1 _ ih=>exact .lits b o cap es l f hb he hes hf h1 fun i j hi hj=>ih i j hi hj fun k hk=>pK (by simpa only [fe]using hn k hk) i j
 |aA nm off b h1 h2=>exact .aA nm off b h1 (hm _ _ _ h1 (fun hk=>by have:=hn nm hk;simp [fe]at this) h2)
 |bZ nm es top i off b h1 h2=>exact .bZ nm es top i off b h1 (hm _ _ _ h1 (fun hk=>by have:=hn nm hk;simp [fe]at this) h2)
 |ay nm es top lo len cap b n e h1 h2 hc ht hs hn'=>exact .ay nm es top lo len cap b n e h1 (hm _ _ _ h1 (fun hk=>by have:=hn nm hk;simp [fe]at this) h2) hc ht hs hn'
 |agg vs l h h1 _ ih=>exact .agg vs l h h1 fun j hj=>ih j hj fun k hk=>fP (by simpa only [fe]using hn k hk) j
 |tuple vs l h _ ih=>exact .tuple vs l h fun j hj=>ih j hj fun k hk=>fP (by simpa only [fe]using hn k hk) j
 |func f a c la lc h1 h2 _ _ ih1 ih2=>
  have h3: ∀k∈ks,gj k la=true∧gj k lc=true:=fun k hk=>(by simpa only [fe,Bool.and_eq_true]using hn k hk);exact .func f a c la lc h1 h2 (fun j hj=>ih1 j hj fun k hk=>fP (h3 k hk).1 j) (fun j hj=>ih2 j hj fun k hk=>fP (h3 k hk).2 j)
 |yield nm b h1 h2=>exact .yield nm b h1 (hm _ _ _ h1 (fun hk=>by have:=hn nm hk;simp [fe]at this) h2)
 |map nm b h1 h2=>exact .map nm b h1 (hm _ _ _ h1 (fun hk=>by have:=hn nm hk;simp [fe]at this) h2)
 |eT nm es i len cap b h1 h2 h3=>exact .eT nm es i len cap b h1 (hm _ _ _ h1 (fun hk=>by have:=hn nm hk;simp [fe]at this) h2) h3
 |fZ nm es i j off b h1 h2=>exact .fZ nm es i j off b h1 (hm _ _ _ h1 (fun hk=>by have:=hn nm hk;simp [fe]at this) h2)
theorem bz.forget {ks:List Nm}{vs:List Value}{gs:List GV}(hm: ∀n t b,n.1≤ℓ→n∉ks→μ n t=some b→μ' n t=some b)(h:bz w S μ ℓ vs gs)(hn: ∀k∈ks,gj k gs=true):bz w S μ' ℓ vs gs:=by
 induction h with
 |nil=>exact .nil
 |cons h1 h _ ih=>
  have h3: ∀k∈ks,_:=fun k hk=>(by simpa only [gj,Bool.and_eq_true]using hn k hk);exact .cons h1 (h.forget hm fun k hk=>(h3 k hk).1) (ih fun k hk=>(h3 k hk).2)
theorem rP {nm:Nm}: ∀{l:List (PV×GV)},uX nm l=true→ ∀j (h:j<l.length),fe nm l[j].2=true
 | [],_,j,h=>by simp at h
 |e::r,hn,j,h=>by
  simp only [uX,Bool.and_eq_true]at hn
  cases j with
  |zero=>simpa using hn.1
  |succ j=>simpa using rP hn.2 j (by simpa using h)
theorem eH.forget {ks:List Nm} {nm:Nm} {x:dW} (hm: ∀n t b,n.1≤nm.1→n∉ks→μ n t=some b→μ' n t=some b) (ho: ∀t,μ' nm t=μ nm t) (hn: ∀k∈ks,rf k x=true) (h:eH w S μ nm x)
  (hne:ks≠[]):eH w S μ' nm x:=by
 cases x with
 |box cs=>
  obtain⟨b,c,e,h1,h2,h3,h4⟩:=h;exact⟨b,c,e,by rw [ho];exact h1,h2,h3,h4.forget hm hn⟩
 |arr es elems vf ro=>
  obtain⟨h0,h1,h2,⟨b0,h3⟩,h4⟩:=h;exact⟨h0,h1,h2,⟨b0,by rw [ho];exact h3⟩,fun top b hb'=>h4 top b (by rw [ho]at hb';exact hb')⟩
 |map es=>
  obtain⟨b,ms,clock,h1,h2,h3,h4,h5⟩:=h;refine⟨b,ms,clock,by rw [ho];exact h1,h2,h3,h4,fun j hj=> ?_⟩;obtain⟨m,m1,m2,m3⟩:=h5 j hj;exact⟨m,m1,m2,m3.forget hm fun k hk=>rP (hn k hk) j hj⟩
 |loop l=>
  obtain⟨k,hk⟩:=List.exists_mem_of_ne_nil _ hne;have:=hn k hk;simp [rf]at this
 |nj es rows n=>exact cD.mono (fun _ h=>h) (fun _ _=>rfl) ho (fun _ _ _=>rfl) (fun _ _ _ h=>h) h
theorem kE {nm : Nm} {k : Nat} {x : dW} : ∀ {f : Fr}, kF nm f = true → f.get k = some x → rf nm x = true
  | [], _, h => by simp [Fr.get] at h
  | (q, b) :: r, hn, h => by
    simp only [kF, Bool.and_eq_true] at hn
    simp only [Fr.get] at h
    split at h
    · cases h; exact hn.1
    · exact kE hn.2 h
theorem pL {nm : Nm} (t : Nat) : ∀ {s : aS}, oN nm s = true → fe nm (look s t) = true
  | [], _ => by simp [look, aG, fe]
  | (q, v) :: r, hn => by
    simp only [oN, Bool.and_eq_true] at hn
    rw [iz]
    split
    · exact hn.1
    · exact pL t hn.2
theorem jJ {L:Nat}{s:aS}{fr:Fr}: ∀(f:Fr) (k:Nat),k∈ja L s fr f→oN (L,k) s=true∧kF (L,k) fr=true
 | [],k,h=>by simp [ja]at h
 |x::r,k,h=>by
  simp only [ja]at h;split at h
  ·rename_i hc;simp only [Bool.and_eq_true]at hc;rcases List.mem_cons.1 h with rfl|h
   ·exact⟨hc.1.2,hc.2⟩
   ·exact jJ r k h
  ·exact jJ r k h
theorem Gw {st st':bE}{a:Act}(h:il base r w S μ st a)(hs:LW st=some st'):
  st'.h.length=st.h.length∧st'.nt=st.nt∧ ∃μ',il base r w S μ' st' a∧Ev (st'.h.length-2) w S μ w S μ':=by
 unfold LW at hs;split at hs
 ·rename_i fr H hh;split at hs
  ·cases hs
  ·rename_i h0;simp only [Option.some.injEq]at hs;subst hs;generalize hd:ja H.length st.s fr fr=dead;have hH:aN w S μ (fr::H):=hh▸h.heap;have hsp: ∀k∈dead,oN (H.length,k) st.s=true∧kF (H.length,k) fr=true:=fun k hk=>jJ fr k (by rw [hd];exact hk)
   let gone:List Nm:=dead.map fun k=>(H.length,k)
   have hgone: ∀n∈gone,n.1=H.length∧n.2∈dead:=fun n hn=>by
    obtain⟨k,hk,e⟩:=List.mem_map.1 hn;subst e;exact⟨rfl,hk⟩
   have hgone': ∀n:Nm,n.1=H.length→n.2∈dead→n∈gone:=fun n h1 h2=>List.mem_map.2 ⟨n.2,h2,Prod.ext h1.symm rfl⟩
   let μ1:Mu:=fun n t=>if n∈gone then none else μ n t
   have a1: ∀n t b,μ1 n t=some b→n∉gone∧μ n t=some b:=fun n t b hn=>by
    simp only [μ1]at hn;split at hn
    ·cases hn
    ·exact⟨by assumption,hn⟩
   have b1: ∀n t,n∉gone→μ1 n t=μ n t:=fun n t hn=>(by simp only [μ1];rw [if_neg hn]);have hgets: ∀n:Nm,n∉gone→ae.get (ic dead fr::H) n=ae.get (fr::H) n:=fun n hn=>by
    simp only [cA];split
    ·rename_i hl;rw [kD,if_neg fun hm=>hn (hgone' n hl hm)]
    ·rfl
   have hE:Ev (H.length+1-2) w S μ w S μ1:=⟨rfl,rfl,rfl,Nat.le_refl _,fun _ h=>h,fun _ _ _=>rfl,fun _ _ h=>h,fun b r h=>⟨r,h⟩,fun n t b hl hm=>by
     rw [b1 _ _ (fun h=>by have:=(hgone _ h).1;omega)];exact hm,fun n t b hm _=>⟨n,t,(a1 _ _ _ hm).2⟩,fun b hb _=> .inl hb⟩
   refine⟨by simp [hh],rfl,μ1,⟨⟨fun n x hx t b hb=> ?_,fun n t b hb=> ?_,fun n n' t t' b h1 h2=>hH.fF _ _ _ _ _ (a1 _ _ _ h1).2 (a1 _ _ _ h2).2,fun n t b hb=>hH.lt _ _ _ (a1 _ _ _ hb).2,hH.slt⟩,fun t=> ?_,h.nt,by simp,h.low,h.defs.ev hE,h.round⟩,by simpa using hE⟩
   ·obtain⟨c2,c3⟩:=a1 _ _ _ hb;rw [hgets n c2]at hx;have hx0:=hH.fY n x hx t b c3;by_cases hne:gone=[]
    ·exact hx0.mono (fun _ h=>h) (fun _ _=>rfl) (fun _ _ h=>h) (fun n' t' b' hn hm=>by rw [b1 _ _ (by rw [hne];simp)];exact hm) (fun t=>b1 _ _ c2) (fun _ _ _=>rfl) (fun _ _ _ h=>h)
    ·by_cases hl:n.1=H.length
     ·refine hx0.forget (ks:=gone) (fun n' t' b' hn hng hm=>by rw [b1 _ _ hng];exact hm) (fun t=>b1 _ _ c2) (fun k hk=> ?_) hne;obtain⟨k1,k2⟩:=hgone k hk;rw [cA,if_pos hl]at hx;have:=(hsp k.2 k2).2;rw [show ((H.length,k.2):Nm)=k from Prod.ext k1.symm rfl]at this
      exact kE this hx
     ·have hlt:n.1<H.length:=by
       rw [cA,if_neg hl]at hx;exact ae.cj hx
      refine hx0.mono (fun _ h=>h) (fun _ _=>rfl) (fun _ _ h=>h) (fun n' t' b' hn hm=> ?_) (fun t=>b1 _ _ c2) (fun _ _ _=>rfl) (fun _ _ _ h=>h);rw [b1 _ _ (fun h=>by have:=(hgone _ h).1;omega)];exact hm
   ·obtain⟨c2,c3⟩:=a1 _ _ _ hb;obtain⟨x,hx⟩:=hH.je n t b c3;exact⟨x,by show ae.get (ic dead fr::H) n=some x;rw [hgets n c2];exact hx⟩
   ·have hv:=h.c8 t;rw [hh]at hv;refine hv.forget (ks:=gone) (fun n t b _ hn hm=>by rw [b1 _ _ hn];exact hm) fun k hk=> ?_;obtain⟨k1,k2⟩:=hgone k hk;have:=(hsp k.2 k2).1;rw [show ((H.length,k.2):Nm)=k from Prod.ext k1.symm rfl]at this
    exact pL t this
 ·cases hs
theorem CA (K:Ctx){fn:FuncId}{c:Code}{st st':bE}{a:Act}(h:il base r w S μ st a)(hs:tJ K fn c st=some st'):
  st'.h.length+1=st.h.length∧st'.nt=st.nt∧ ∃S' μ',il base r w S' μ' st' a∧Ev (st'.h.length-2) w S μ w S' μ':=by
 unfold tJ at hs;split at hs
 ·split at hs
  ·rename_i st1 h1;obtain⟨q1,q2,S',μ',q3,q4⟩:=oI h h1;obtain⟨p1,p2,μ2,p3,p4⟩:=Gw q3 hs;exact⟨by omega,p2.trans q2,S',μ2,p3,(q4.level (by omega)).trans p4⟩
  ·cases hs
 ·obtain⟨q1,q2,S',μ',q3,q4⟩:=oI h hs;exact⟨q1,q2,S',μ',q3,q4.level (by omega)⟩
theorem yp {j k k':Nat}(h:cN j k=cN j k'):k=k':=by unfold cN at h;omega
theorem m9 (j k:Nat):cN j k-(j+1)*1000000000000=k:=by unfold cN;omega
theorem tK (j k:Nat):(j+1)*1000000000000≤cN j k:=by unfold cN;omega
theorem pM {H:ae}{l j:Nat}: ∀{ks:List Nat},mm H l j ks=true→ ∀k∈ks,H.get (l,cN j k)=none
 | [],_,k,hk=>by simp at hk
 |q::r,h,k,hk=>by
  simp only [mm,Bool.and_eq_true]at h;rcases List.mem_cons.1 hk with rfl|hk
  ·simpa using h.1
  ·exact pM h.2 k hk
theorem na {H:ae}{L:Nat}{f0:Fr}: ∀{ks:List Nat},rQ H L f0 ks=true→ ∀k∈ks,H.get (L,k)=none∧kF (L,k) f0=true
 | [],_,k,hk=>by simp at hk
 |q::r,h,k,hk=>by
  simp only [rQ,Bool.and_eq_true]at h;rcases List.mem_cons.1 hk with rfl|hk
  ·exact⟨by simpa using h.1.1,h.1.2⟩
  ·exact na h.2 k hk
theorem pN {f0:Fr}{l j:Nat}: ∀(ks:List Nat) (H H':ae),ks.Nodup→l<H.length→rR f0 l j ks H=some H'→
  H'.length=H.length∧(∀k∈ks,∃es rows vf ro,f0.get k=some (.arr es rows vf ro)∧H'.get (l,cN j k)=some (.arr es rows vf ro))∧ ∀nm:Nm,(∀k∈ks,nm≠(l,cN j k))→H'.get nm=H.get nm
 | [],H,H',_,_,h=>by
  simp only [rR,Option.some.injEq]at h;subst h;exact⟨rfl,fun k hk=>by simp at hk,fun _ _=>rfl⟩
 |k::ks,H,H',hn,hl,h=>by
  obtain⟨n1,n2⟩:=List.nodup_cons.1 hn;simp only [rR]at h;split at h
  ·rename_i es rows vf ro h1;obtain⟨q1,q2,q3⟩:=pN ks _ H' n2 (by rw [ae.length_set];exact hl) h;have hne: ∀k'∈ks,((l,cN j k):Nm)≠(l,cN j k'):=fun k' hk' e=>by
    have:=yp (Prod.mk.inj e).2;subst this;exact n1 hk'
   refine⟨q1.trans (ae.length_set _ _ _),fun k' hk'=> ?_,fun nm hnm=> ?_⟩
   ·rcases List.mem_cons.1 hk' with rfl|hk'
    ·refine⟨es,rows,vf,ro,h1, ?_⟩;rw [q3 _ hne];exact ae.cw _ hl
    ·exact q2 k' hk'
   ·rw [q3 nm fun k' hk'=>hnm k' (List.mem_cons_of_mem _ hk')];exact ae.a9 _ (hnm k (List.mem_cons_self ..))
  ·cases h
theorem tL {k L l j:Nat} {names:List Nat} (hlk:l≤k) (h1: ∀q t b,q∈names→μ (L,q) t=some b→μ' (l,cN j q) t=some b) (h2: ∀nm t b,nm.1≠L→μ nm t=some b→μ' nm t=some b) {v:Value} {g g':GV}
  (h:ax w S μ k v g) (hl:mI L l j g=some g') (hr: ∀q∈fy L g,q∈names):ax w S μ' k v g':=by
 cases h with
 |pure v p h=>simp only [mI,Option.some.injEq]at hl;subst hl;exact .pure _ _ h
 |aO a=>simp only [mI,Option.some.injEq]at hl;subst hl;exact .aO a
 |ay nm es top lo len cap b n e q1 q2 q3 q4 q5 q6=>
  simp only [mI]at hl;split at hl
  ·rename_i e1;simp only [Option.some.injEq]at hl;subst hl;have e2:nm=(L,nm.2):=Prod.ext e1 rfl;refine .ay _ es top lo len cap b n e hlk ?_ q3 q4 q5 q6;rw [e2]at q2;exact h1 _ _ _ (hr _ (by simp [fy,e1])) q2
  ·rename_i e1;simp only [Option.some.injEq]at hl;subst hl;exact .ay nm es top lo len cap b n e q1 (h2 _ _ _ e1 q2) q3 q4 q5 q6
 |_=>simp [mI]at hl
theorem tM {L l j:Nat}: ∀{gs gs':List GV},wL L l j gs=some gs'→gs'.length=gs.length∧ ∀i,i<gs.length→mI L l j (gs.getD i aG)=some (gs'.getD i aG)
 | [],gs',h=>by simp only [wL,Option.some.injEq]at h;subst h;exact⟨rfl,fun i hi=>by simp at hi⟩
 |g::r,gs',h=>by
  simp only [wL]at h;split at h
  ·rename_i g' r' h1 h2;simp only [Option.some.injEq]at h;subst h;obtain⟨q1,q2⟩:=tM h2;refine⟨by simp [q1],fun i hi=> ?_⟩
   cases i with
   |zero=>simpa using h1
   |succ i=>simpa using q2 i (by simpa using hi)
  ·cases h
theorem Gx {H0 H1 H':ae}{b v1 v:GV}{u:Value}(hH:aN w S μ H0)(hv:ax w' S' μ' (H1.length-1) u v1)(h1:aN w' S' μ' H1)(he:Ev (H0.length-1) w S μ w' S' μ')(hl1:H1.length=H0.length)(h:zy H0 b (v1,H1)=some (v,H')):
  ∃μ2,ax w' S' μ2 (H'.length-1) u v∧aN w' S' μ2 H'∧Ev (H0.length-1) w S μ w' S' μ2∧H'.length=H0.length:=by
 unfold zy at h;split at h
 ·rename_i nm off f0 Hr hhd;simp only at hhd;subst hhd;simp only at h;generalize hks:dedup (refs Hr.length v1)=ks at h;have hnd:ks.Nodup:=hks▸gV _;generalize hj:(if mm (f0::Hr) nm.1 0 ks then 0 else 1)=j at h;split at h
  ·rename_i hc;simp only [Bool.and_eq_true,decide_eq_true_eq]at hc;obtain⟨⟨⟨c1,c2⟩,c3⟩,c4⟩:=hc;split at h
   ·rename_i v' H2 hlv hins;simp only [Option.some.injEq,Prod.mk.injEq]at h;obtain⟨rfl,rfl⟩:=h;generalize hl:nm.1=l at*;obtain⟨q1,q2,q3⟩:=pN ks _ H2 hnd (by simp;omega) hins;have hnew:=fun k hk=>(na c3 k hk);have hfree:=fun k hk=>pM c4 k hk
    let isT:Nm→Prop:=fun n=>n.1=l∧(j+1)*1000000000000≤n.2∧n.2-(j+1)*1000000000000∈ks
    let μ2:Mu:=fun n t=>if n.1=l∧(j+1)*1000000000000≤n.2∧n.2-(j+1)*1000000000000∈ks then μ' (Hr.length,n.2-(j+1)*1000000000000) t else if n.1=Hr.length∧n.2∈ks then none else μ' n t
    have tgt: ∀k t,k∈ks→μ2 (l,cN j k) t=μ' (Hr.length,k) t:=fun k t hk=>by
     have hc:l=l∧(j+1)*1000000000000≤cN j k∧cN j k-(j+1)*1000000000000∈ks:=⟨rfl,tK j k,by rw [m9];exact hk⟩;have e:μ2 (l,cN j k) t=μ' (Hr.length,cN j k-(j+1)*1000000000000) t:=if_pos hc;rw [e,m9]
    have tcase: ∀n:Nm,(∃k∈ks,n=(l,cN j k))∨((∀k∈ks,n≠(l,cN j k))∧ ∀t,μ2 n t=if n.1=Hr.length∧n.2∈ks then none else μ' n t):=fun n=>by
     by_cases hc:n.1=l∧(j+1)*1000000000000≤n.2∧n.2-(j+1)*1000000000000∈ks
     ·refine .inl ⟨_,hc.2.2,Prod.ext hc.1 ?_⟩;have:=hc.2.1;simp only [cN];omega
     ·refine .inr ⟨fun k hk e=>hc ?_,fun t=> ?_⟩
      ·subst e;exact⟨rfl,tK j k,by rw [m9];exact hk⟩
      ·simp only [μ2];rw [if_neg hc]
    have hnt: ∀n t b,μ' n t=some b→ ∀k∈ks,n≠(l,cN j k):=fun n t b hb k hk e=>by
     obtain⟨x,hx⟩:=h1.je _ _ _ hb;rw [e,hfree k hk]at hx;cases hx
    have up: ∀n t b,¬(n.1=Hr.length∧n.2∈ks)→μ' n t=some b→μ2 n t=some b:=fun n t b hn hb=>by
     rcases tcase n with ⟨k,hk,e⟩|⟨_,e⟩
     ·exact absurd e (hnt n t b hb k hk)
     ·rw [e,if_neg hn];exact hb
    have old: ∀n t b,(∀k∈ks,n≠(l,cN j k))→μ2 n t=some b→ ¬(n.1=Hr.length∧n.2∈ks)∧μ' n t=some b:=fun n t b hn hb=>by
     rcases tcase n with ⟨k,hk,e⟩|⟨_,e⟩
     ·exact absurd e (hn k hk)
     ·rw [e]at hb;split at hb
      ·cases hb
      ·exact⟨by assumption,hb⟩
    have hget: ∀n:Nm,(∀k∈ks,n≠(l,cN j k))→ ¬(n.1=Hr.length∧n.2∈ks)→H2.get n=ae.get (f0::Hr) n:=fun n hn hs=>by
     rw [q3 n hn];simp only [cA];split
     ·rename_i hl';rw [kD,if_neg fun hm=>hs ⟨hl',hm⟩]
     ·rfl
    have hlen:H2.length=Hr.length+1:=(by simpa using q1);have hL0:H0.length=Hr.length+1:=(by simpa using hl1.symm);refine⟨μ2, ?_,⟨fun n x hx t b hb=> ?_,fun n t b hb=> ?_,fun n n' t t' b g1 g2=> ?_,fun n t b hb=> ?_,h1.slt⟩, ?_,by omega⟩
    ·rw [show H2.length-1=Hr.length by omega]
     have hv':ax w' S' μ' Hr.length u v1:=(by simpa using hv);have k1: ∀q t b,q∈ks→μ' (Hr.length,q) t=some b→μ2 (l,cN j q) t=some b:=fun q t b hq hb=>(by rw [tgt q t hq];exact hb);have k2: ∀n t b,n.1≠Hr.length→μ' n t=some b→μ2 n t=some b:=fun n t b hn hb=>up n t b (fun h=>hn h.1) hb;have hin: ∀q∈refs Hr.length v1,q∈ks:=fun q hq=>by rw [←hks];exact(iA _).2 hq
     cases v1 with
     |agg l1=>
      simp only [wM]at hlv;split at hlv
      ·rename_i cs hcs;simp only [Option.some.injEq]at hlv;subst hlv;obtain⟨z1,z2⟩:=tM hcs
       cases hv' with
       |agg vs _ g1 g2 g3=>
        refine .agg vs cs (by omega) (fun i hi=>g2 i (by omega)) fun i hi=> ?_;have hi':i<l1.length:=(by omega);refine tL (by omega) k1 k2 (g3 i hi') (z2 i hi') fun q hq=>hin q ?_;have e2:l1.getD i aG=l1[i]:=(by simp [List.getD_eq_getElem?_getD,hi']);rw [e2]at hq;exact List.mem_flatMap.2 ⟨l1[i],List.getElem_mem hi',hq⟩
      ·cases hlv
     |tuple l1=>simp [wM,mI]at hlv
     |func f a c=>simp [wM,mI]at hlv
     |_=>exact tL (by omega) k1 k2 hv' (by simpa only [wM]using hlv) (by simpa only [refs,ij]using hin)
    ·rcases tcase n with ⟨k,hk,rfl⟩|⟨hn,_⟩
     ·obtain⟨es,rows,vf,ro,x1,x2⟩:=q2 k hk;rw [x2]at hx;cases hx;rw [tgt k t hk]at hb;obtain⟨z0,z1,z2,⟨b0,z3⟩,z4⟩:=h1.fY (Hr.length,k) _ (by rw [cA,if_pos rfl];exact x1) t b hb;exact⟨z0,z1,z2,⟨b0,by rw [tgt k _ hk];exact z3⟩,fun top b hb'=>z4 top b (by rw [tgt k _ hk]at hb';exact hb')⟩
     ·obtain⟨ns,hb'⟩:=old n t b hn hb;rw [hget n hn ns]at hx;have hx0:=h1.fY n x hx t b hb';have ho: ∀t,μ2 n t=μ' n t:=fun t=>by
       rcases tcase n with ⟨k,hk,e⟩|⟨_,e⟩
       ·exact absurd e (hn k hk)
       ·rw [e,if_neg ns]
      let gone:List Nm:=ks.map fun k=>(Hr.length,k)
      have hgm: ∀n:Nm,n∉gone→ ¬(n.1=Hr.length∧n.2∈ks):=fun n hn h=>hn (List.mem_map.2 ⟨n.2,h.2,Prod.ext h.1.symm rfl⟩);by_cases hne:gone=[]
      ·exact hx0.mono (fun _ h=>h) (fun _ _=>rfl) (fun _ _ h=>h) (fun n' t' b' _ hm=>up _ _ _ (hgm _ (by rw [hne];simp)) hm) ho (fun _ _ _=>rfl) (fun _ _ _ h=>h)
      ·by_cases hl2:n.1=Hr.length
       ·refine hx0.forget (ks:=gone) (fun n' t' b' _ hng hm=>up _ _ _ (hgm _ hng) hm) ho (fun k hk=> ?_) hne;obtain⟨q,hq,rfl⟩:=List.mem_map.1 hk;rw [cA,if_pos hl2]at hx;exact kE (hnew q hq).2 hx
       ·have hlt:n.1<Hr.length:=by
         rw [cA,if_neg hl2]at hx;exact ae.cj hx
        exact hx0.mono (fun _ h=>h) (fun _ _=>rfl) (fun _ _ h=>h) (fun n' t' b' hn' hm=>up _ _ _ (fun h=>by have:=h.1;omega) hm) ho (fun _ _ _=>rfl) (fun _ _ _ h=>h)
    ·rcases tcase n with ⟨k,hk,rfl⟩|⟨hn,_⟩
     ·obtain⟨es,rows,vf,ro,x1,x2⟩:=q2 k hk;exact⟨_,x2⟩
     ·obtain⟨ns,hb'⟩:=old n t b hn hb;obtain⟨x,hx⟩:=h1.je _ _ _ hb';exact⟨x,by rw [hget n hn ns];exact hx⟩
    ·rcases tcase n with ⟨k,hk,rfl⟩|⟨hn,_⟩
     ·rw [tgt k t hk]at g1;rcases tcase n' with ⟨k',hk',rfl⟩|⟨hn',_⟩
      ·rw [tgt k' t' hk']at g2;have:=(Prod.mk.inj (h1.fF _ _ _ _ _ g1 g2)).2;rw [this]
      ·obtain⟨ns,g2'⟩:=old n' t' b hn' g2;have:=h1.fF _ _ _ _ _ g1 g2';exact absurd ⟨by rw [←this],by rw [←this];exact hk⟩ ns
     ·obtain⟨ns,g1'⟩:=old n t b hn g1;rcases tcase n' with ⟨k',hk',rfl⟩|⟨hn',_⟩
      ·rw [tgt k' t' hk']at g2;have:=h1.fF _ _ _ _ _ g1' g2;exact absurd ⟨by rw [this],by rw [this];exact hk'⟩ ns
      ·obtain⟨_,g2'⟩:=old n' t' b hn' g2;exact h1.fF _ _ _ _ _ g1' g2'
    ·rcases tcase n with ⟨k,hk,rfl⟩|⟨hn,_⟩
     ·rw [tgt k t hk]at hb;exact h1.lt _ _ _ hb
     ·exact h1.lt _ _ _ (old n t b hn hb).2
    ·refine⟨he.os,he.tape,he.out,he.size,he.sub,he.same,he.zp,he.lp,fun n t b hnl hb=> ?_,fun n t b hb hlt=> ?_,he.sM⟩
     ·refine up n t b (fun hs=> ?_) (he.mu n t b hnl hb);obtain⟨x,hx⟩:=hH.je _ _ _ hb;have:=(hnew n.2 hs.2).1;rw [show ((Hr.length,n.2):Nm)=n from Prod.ext hs.1.symm rfl,hx]at this
      cases this
     ·rcases tcase n with ⟨k,hk,rfl⟩|⟨hn,_⟩
      ·rw [tgt k t hk]at hb;exact he.own _ _ _ hb hlt
      ·exact he.own _ _ _ (old n t b hn hb).2 hlt
   ·cases h
  ·cases h
 ·cases h
theorem AU {f0:Fr}{Hr:ae}{q:Nat}(h:aN w S μ (f0::Hr))(hn:kF (Hr.length,q) f0=true):
  aN w S (fun n t=>if n=(Hr.length,q)then none else μ n t) (ic [q] f0::Hr):=by
 have hup: ∀n t b,n≠(Hr.length,q)→μ n t=some b→(fun n t=>if n=((Hr.length,q):Nm)then none else μ n t) n t=some b:=fun n t b hne hb=>by
  simp only [if_neg hne];exact hb
 have hdn: ∀n t b,(fun n t=>if n=((Hr.length,q):Nm)then none else μ n t) n t=some b→n≠(Hr.length,q)∧μ n t=some b:=fun n t b hb=>by
  by_cases e:n=(Hr.length,q)
  ·simp [e]at hb
  ·simp only [if_neg e]at hb;exact⟨e,hb⟩
 have hget: ∀n:Nm,n≠(Hr.length,q)→ae.get (ic [q] f0::Hr) n=ae.get (f0::Hr) n:=fun n hne=>by
  simp only [cA];split
  ·rename_i hl;rw [kD,if_neg];simp only [List.mem_singleton];intro e;exact hne (Prod.ext hl e)
  ·rfl
 refine⟨fun n x hx t b hb=> ?_,fun n t b hb=> ?_,fun n n' t t' b h1 h2=> ?_,fun n t b hb=> ?_,h.slt⟩
 ·obtain⟨hne,hb⟩:=hdn n t b hb;rw [hget n hne]at hx;have hx0:=h.fY n x hx t b hb;by_cases hl:n.1=Hr.length
  ·refine hx0.forget (ks:=[(Hr.length,q)]) (fun n' t' b' _ hng hm=>hup _ _ _ (by simpa using hng) hm) (fun t=>if_neg hne) (fun k hk=> ?_) (by simp);simp only [List.mem_singleton]at hk;subst hk;rw [cA,if_pos hl]at hx;exact kE hn hx
  ·have hlt:n.1<Hr.length:=by
    rw [cA,if_neg hl]at hx;exact ae.cj hx
   refine eH.mono (nm:=n) (fun _ h=>h) (fun _ _=>rfl) (fun _ _ h=>h) (fun n' t' b' hn' hm=>hup n' t' b' (fun e=> ?_) hm) (fun t=>if_neg hne) (fun _ _ _=>rfl) (fun _ _ _ h=>h) hx0;subst e;have:Hr.length≤n.1:=hn';omega
 ·obtain⟨hne,hb⟩:=hdn n t b hb;obtain⟨y,hy⟩:=h.je _ _ _ hb;exact⟨y,by rw [hget n hne];exact hy⟩
 ·exact h.fF _ _ _ _ _ (hdn _ _ _ h1).2 (hdn _ _ _ h2).2
 ·exact h.lt _ _ _ (hdn _ _ _ hb).2
theorem wN {nm:Nm}{top b:Nat}{x:dW}(hH:aN w S μ H)(hl:nm.1<H.length)(hno: ∀n t,μ n t≠some b)(hb:b<w.heap.size)(hS: ¬S b)(hx:eH w S (μ.jF nm top b) nm x)(hnew: ∀b',μ nm top≠some b'):
  aN w S (μ.jF nm top b) (H.set nm x):=by
 have hcase: ∀n t b',μ.jF nm top b n t=some b'→(n=nm∧t=top∧b'=b)∨(μ n t=some b'∧b'≠b):=fun n t b' h=>by
  by_cases e:n=nm∧t=top
  ·obtain⟨rfl,rfl⟩:=e;rw [Mu.bc]at h;cases h;exact .inl ⟨rfl,rfl,rfl⟩
  ·have h2:μ.jF nm top b n t=μ n t:=(by unfold Mu.jF;rw [if_neg e]);rw [h2]at h;exact .inr ⟨h,fun e2=>hno n t (e2▸h)⟩
 have hmm: ∀n t b',μ n t=some b'→μ.jF nm top b n t=some b':=fun n t b' h=>by
  by_cases e:n=nm∧t=top
  ·obtain⟨rfl,rfl⟩:=e;exact absurd h (hnew _)
  ·unfold Mu.jF;rw [if_neg e];exact h
 refine⟨fun n y hy t b' hb'=> ?_,fun n t b' hb'=> ?_,fun n n' t t' b' h1 h2=> ?_,fun n t b' hb'=> ?_,hH.slt⟩
 ·by_cases e:n=nm
  ·subst e;rw [ae.cw _ hl]at hy;cases hy;exact hx
  ·rw [ae.a9 _ e]at hy;rw [Mu.cB μ _ _ _ e]at hb';exact(hH.fY n y hy t b' hb').mono (fun _ h=>h) (fun _ _=>rfl) (fun _ _ h=>h) (fun n t b _ h=>hmm n t b h) (fun t=>Mu.cB μ _ _ _ e) (fun _ _ _=>rfl) (fun _ _ _ h=>h)
 ·by_cases e:n=nm
  ·subst e;exact⟨x,ae.cw _ hl⟩
  ·rw [Mu.cB μ _ _ _ e]at hb';obtain⟨y,hy⟩:=hH.je _ _ _ hb';exact⟨y,by rw [ae.a9 _ e];exact hy⟩
 ·rcases hcase _ _ _ h1 with ⟨rfl,rfl,e1⟩|⟨g1,e1⟩
  ·rcases hcase _ _ _ h2 with ⟨e2,_,_⟩|⟨g2,e2⟩
   ·exact e2.symm
   ·exact absurd e1 e2
  ·rcases hcase _ _ _ h2 with ⟨_,_,e2⟩|⟨g2,e2⟩
   ·exact absurd e2 e1
   ·exact hH.fF _ _ _ _ _ g1 g2
 ·rcases hcase _ _ _ hb' with ⟨_,_,rfl⟩|⟨g,_⟩
  ·exact hb
  ·exact hH.lt _ _ _ g
theorem yq {H0 H1 H':ae} {b v1 v:GV} {u vb:Value} {key:Nat} (hH:aN w S μ H0) (hvb:ax w S μ (H0.length-1) vb b) (hv:ax w' S' μ' (H1.length-1) u v1) (h1:aN w' S' μ' H1) (he:Ev (H0.length-1) w S μ w' S' μ') (hl1:H1.length=H0.length)
  (h:nX H0 b key (v1,H1)=some (v,H')):
  ∃μ2,ax w' S' μ2 (H'.length-1) u v∧aN w' S' μ2 H'∧Ev (H0.length-1) w S μ w' S' μ2∧H'.length=H0.length:=by
 unfold nX at h;split at h
 ·rename_i nm off nm2 es top lo len f0 Hr hv1 hhd;simp only at hhd hv1;subst hhd;subst hv1;split at h
  ·rename_i hc;simp only [Bool.and_eq_true,decide_eq_true_eq]at hc;obtain⟨⟨⟨c1,c2⟩,c3⟩,c4⟩:=hc;obtain⟨k1,k2⟩:=na c4 nm2.2 (by simp);have enm:nm2=(Hr.length,nm2.2):=Prod.ext c1 rfl;split at h
   ·rename_i es' elems vf hg;split at h
    ·rename_i hcond;obtain⟨rfl,hvf,rfl,rfl,rfl,hpos0⟩:=hcond;split at h
     ·rename_i i H2 hadd;simp only [Option.some.injEq,Prod.mk.injEq]at h;obtain⟨rfl,rfl⟩:=h
      cases hv with
      |ay _ _ _ _ _ cap b n e p1 p2 p3 p4 p5 p6=>
      have hga:ae.get (f0::Hr) nm2=some (.arr es' elems vf false):=(by rw [cA,if_pos c1];exact hg);obtain⟨g0,g1,g2,g3,g4⟩:=h1.fY _ _ hga _ _ p2;obtain⟨t1,t2,t3,t4⟩:=g4 _ b p2;have t5:=(t4 hvf).2;have hrr:lH w' S' b es' elems:=⟨t2,t3 rfl,t5⟩;have hd:=AU (q:=nm2.2) h1 k2
      let μ1:Mu:=fun n t=>if n=((Hr.length,nm2.2):Nm)then none else μ' n t
      have hd:aN w' S' μ1 (ic [nm2.2] f0::Hr):=hd;have hmu1: ∀n t b,n.1≤H0.length-1→μ n t=some b→μ1 n t=some b:=fun n t b hn hb=>by
       have hne:n≠(Hr.length,nm2.2):=fun e=>by
        obtain⟨y,hy⟩:=hH.je _ _ _ hb;rw [e,k1]at hy;cases hy
       show (if n=((Hr.length,nm2.2):Nm)then none else μ' n t)=some b
       rw [if_neg hne];exact he.mu n t b hn hb
      have hvb1:ax w' S' μ1 (H0.length-1) vb (.aA nm off):=hvb.mono he.sub (fun b hb=>he.same b (hH.slt b hb) (.inl hb)) he.zp (fun n t b hn hb=>hmu1 n t b hn hb) (Nat.le_refl _);obtain⟨rows,n',hl,rfl,m,rfl⟩:=px g0 hd hvb1 hadd;have hno: ∀n t,μ1 n t≠some b:=fun n t hb=>by
       by_cases e:n=(Hr.length,nm2.2)
       ·simp [μ1,e]at hb
       ·simp only [μ1,if_neg e]at hb;exact e ((h1.fF _ _ _ _ _ hb p2).trans enm)
      have hbl:b<w'.heap.size:=h1.lt _ _ _ p2;have had:=wN (nm:=(nm.1,key)) (top:=mb rows.length) (x:= .nj es' (rows++[elems]) n') hd hl hno hbl (t3 rfl) (m.push (hno _) hrr g1) (fun b' hb'=>by have:=m.je _ _ hb';omega);refine⟨_, ?_,had, ?_, ?_⟩
      ·rw [Nat.zero_mul];exact .eT _ es' _ _ cap b (by rw [ae.length_set];simp at hl⊢;omega) (Mu.bc _ _ _ _) (by omega)
      ·refine⟨he.os,he.tape,he.out,he.size,he.sub,he.same,he.zp,he.lp,fun n t b' hn hb'=> ?_,fun n t b' hb' hs=> ?_,he.sM⟩
       ·have:=hmu1 n t b' hn hb';by_cases e:n=(nm.1,key)∧t=mb rows.length
        ·obtain⟨rfl,rfl⟩:=e;have:=m.je _ _ this;omega
        ·unfold Mu.jF;rw [if_neg e];exact this
       ·by_cases e:n=(nm.1,key)∧t=mb rows.length
        ·obtain⟨rfl,rfl⟩:=e;rw [Mu.bc]at hb';cases hb';exact he.own _ _ _ p2 hs
        ·have h2:μ1.jF (nm.1,key) (mb rows.length) b n t=μ1 n t:=(by unfold Mu.jF;rw [if_neg e]);rw [h2]at hb';by_cases e2:n=(Hr.length,nm2.2)
         ·simp [μ1,e2]at hb'
         ·simp only [μ1,if_neg e2]at hb';exact he.own _ _ _ hb' hs
      ·rw [ae.length_set];simp at hl1⊢;omega
     ·cases h
    ·cases h
   ·cases h
  ·cases h
 ·cases h
end
end
section
section
variable {w w':World} {S S':Nat→Prop} {μ μ':Mu} {H:ae} {P:Program} {ℓ base:Nat} {r:Option Nat}
theorem tN (K:Ctx) (hK:fE K) {rec:Rec} (hrec:jv K.P rec) {f:GV} {fv:Value} {args:List GV} {c:Nat} {H':ae} {v:GV} (h:j8 K rec f args c H=some (v,H')) (hf:ax w S μ (H.length-1) fv f)
  {vs:Array Value} (hH:aN w S μ H) (hvs:vs.size=args.length) (hrel: ∀j,j<args.length→ax w S μ (H.length-1) (vs.getD j undef) (args.getD j aG)):
  ∃d f' args',(Deferred.ofValue fv vs).run K.P w= .ok d w∧(invoke d.target d.args).run K.P w= .ok (.enter f' args') w∧CallsIn (Fw none) 0 K.P f' args' w (rJ (H.length-1) H.length w S μ v H'):=by
 unfold j8 at h;split at h
 ·rename_i f';have:=hf.pv;cases this;obtain⟨h1,h2⟩:=uV K hK hrec h hH hvs hrel;exact⟨{target:= .fn (.func f') #[],args:= #[]++vs},f',vs,rfl,by simp only [invoke,Array.empty_append,Array.append_empty];exact h1,h2⟩
 ·rename_i f' first cap
  cases hf with
  |func _ a cc _ _ e1 e2 e3 e4=>
  obtain⟨h1,h2⟩:=uV K hK hrec h (vs:=(a++vs)++cc) hH (by simp [e1,e2,hvs]) (fun j hj=>by
   simp only [List.length_append]at hj;have e:((a++vs)++cc).getD j undef=if j<a.size then a.getD j undef else if j<a.size+vs.size then vs.getD (j-a.size) undef else cc.getD (j-(a.size+vs.size)) undef:=by
    simp only [Array.getD_eq_getD_getElem?,Array.getElem?_append,Array.size_append];by_cases c1:j<a.size
    ·simp [c1,show j<a.size+vs.size by omega]
    ·by_cases c2:j<a.size+vs.size
     ·simp [c1,c2]
     ·simp [c1,c2]
   have e':(first++args++cap).getD j aG=if j<first.length then first.getD j aG else if j<first.length+args.length then args.getD (j-first.length) aG else cap.getD (j-(first.length+args.length)) aG:=by
    simp only [List.getD_eq_getElem?_getD,List.getElem?_append,List.length_append];by_cases c1:j<first.length
    ·simp [c1,show j<first.length+args.length by omega]
    ·by_cases c2:j<first.length+args.length
     ·simp [c1,c2]
     ·simp [c1,c2]
   rw [e,e',e1,hvs];split
   ·exact e3 j (by omega)
   ·split
    ·exact hrel _ (by omega)
    ·exact e4 _ (by omega))
  exact⟨{target:= .fn (.func f') cc,args:=a++vs},f',(a++vs)++cc,rfl,by simp only [invoke];exact h1,h2⟩
 ·cases h
theorem AV {o:Oper} {a:Act} {f:FuncId} {args:Array Value} {v:GV} {H':ae} {next:Act→World→Prop} {Q:Exit→Act→World→Prop} (hc:CallsIn (Fw none) 0 P f args w (rJ (H.length-1) H.length w S μ v H'))
  (hn: ∀u w' S' μ',ax w' S' μ' (H'.length-1) u v→aN w' S' μ' H'→Ev (H.length-1) w S μ w' S' μ'→H'.length=H.length→next (a.put o.dst u) w'):
  o.uponIn (Fw r) 0 P a next Q (.ok (.enter f args) w):=by
 rw [Oper.uponIn_enter];refine⟨fun h=>(by cases h),CallsIn.fw (CallsIn.mono hc fun e w' hd=> ?_)⟩;obtain⟨u,S',μ',rfl,h1,h2,h3,h4⟩:=hd;exact hn u w' S' μ' h1 h2 h3 h4
theorem yr {o:Oper} {a:Act} {b:Nat} {f:FuncId} {tmps:Array Value} {assign body:Code} {v:GV} {H':ae} {next:Act→World→Prop} {Q:Exit→Act→World→Prop}
  (hc:RoundIn (Fw r) 0 P b f tmps assign body w (rJ (H.length-1) H.length w S μ v H'))
  (hn: ∀u w' S' μ',ax w' S' μ' (H'.length-1) u v→aN w' S' μ' H'→Ev (H.length-1) w S μ w' S' μ'→H'.length=H.length→next (a.put o.dst u) w'):
  o.uponIn (Fw r) 0 P a next Q (.ok (.round b f tmps assign body) w):=by
 rw [Oper.uponIn_round];refine⟨fun h=>(by cases h),hc.mono fun e w' hd=> ?_⟩;obtain⟨u,S',μ',rfl,h1,h2,h3,h4⟩:=hd;exact hn u w' S' μ' h1 h2 h3 h4
theorem qA (K:Ctx) (hK:fE K) {rec:Rec} (hrec:jv K.P rec) {fn:FuncId} {o:Oper} {a:Act} {s:aS} {v:GV} {H':ae} (hH:aN w S μ H) (hp:0<H.length)
  (hs: ∀t,ax w S μ (H.length-1) (a.tmps.getD t undef) (look s t)) (h:cf K rec fn o s H=some (v,H')) {next:Act→World→Prop} {Q:Exit→Act→World→Prop}
  (hn: ∀u w' S' μ',ax w' S' μ' (H'.length-1) u v→aN w' S' μ' H'→Ev (H.length-1) w S μ w' S' μ'→H'.length=H.length→next (a.put o.dst u) w'):
  o.wpIn (Fw r) 0 K.P a w next Q:=by
 refine⟨fun _ _=>trivial, ?_⟩;unfold cf at h;split at h
 ·rename_i f args hgo;obtain⟨dst,op,type,pos,after,guard⟩:=o;unfold eP at hgo;simp only at hgo;split at hgo
  ·rename_i f0 args0 ats;simp only [Option.some.injEq,Prod.mk.injEq]at hgo;obtain⟨rfl,rfl⟩:=hgo;rw [Oper.semAt_eq _ _ _ (fun c=>by simp)];have hfv:=iU hs f0;obtain⟨g1,g2⟩:=kr hs args0
   have core: ∀(v1:GV) (H1:ae),cV K rec (ev s f0) (args0.toList.map (ev s)) (dst.getD 0) H=some (v1,H1)→
     (∀u w' S' μ',ax w' S' μ' (H1.length-1) u v1→aN w' S' μ' H1→Ev (H.length-1) w S μ w' S' μ'→H1.length=H.length→next (a.put dst u) w')→
     Oper.uponIn (Fw r) 0 K.P {dst:=dst,op:= .call {callee:= .value f0,args:=args0,argTypes:=ats},type:=type,pos:=pos,after:=after,guard:=guard} a next Q
      ((execOp a.eval {dst:=dst,op:= .call {callee:= .value f0,args:=args0,argTypes:=ats},type:=type,pos:=pos,after:=after,guard:=guard}).run K.P w):=by
    clear h hn;intro v1 H1 h hn;unfold cV at h;split at h
    ·rename_i nm hev;rw [hev]at hfv;generalize hfe:a.eval f0=fv at hfv
     cases hfv with
     |yield _ b hl hm=>
     obtain⟨q,r1,r2,r3⟩:=Cz (r:=r) hrec h hH rfl hp hm (vs:=args0.map a.eval) g1 g2
     have hrun:(execOp a.eval {dst:=dst,op:= .call {callee:= .value f0,args:=args0,argTypes:=ats},type:=type,pos:=pos,after:=after,guard:=guard}).run K.P w
       = .ok (.round b q.fn ((q.params.zip (args0.map a.eval)).foldl (fun tmps (t,a)=>tmps.setIfInBounds t a) q.tmps) q.assign q.body) w:=by
      simp only [execOp,resolve,hfe,Deferred.ofValue,Sem.run_bind,Sem.run_pure,Result.andThen_ok,invoke,Array.empty_append];exact run_yield r1 r2
     rw [hrun];exact yr r3 hn
    ·obtain⟨d,f',args',r1,r2,r3⟩:=tN K hK hrec h hfv hH (vs:=args0.map a.eval) g1 g2
     have hrun:(execOp a.eval {dst:=dst,op:= .call {callee:= .value f0,args:=args0,argTypes:=ats},type:=type,pos:=pos,after:=after,guard:=guard}).run K.P w
       = .ok (.enter f' args') w:=by
      simp only [execOp,resolve,Sem.run_bind,r1,Result.andThen_ok,r2]
     rw [hrun];exact AV r3 hn
   simp only at h;split at h
   ·exact core _ _ h hn
   ·split at h
    ·rename_i x hx;obtain⟨v1,H1⟩:=x;refine core _ _ hx fun u w' S' μ' k1 k2 k3 k4=> ?_;split at h
     ·obtain⟨μ2,z1,z2,z3,z4⟩:=Gx hH k1 k2 k3 k4 h;exact hn u w' S' μ2 z1 z2 z3 z4
     ·rename_i tb _ _ _ _ _;obtain⟨μ2,z1,z2,z3,z4⟩:=yq hH (hs tb) k1 k2 k3 k4 h;exact hn u w' S' μ2 z1 z2 z3 z4
    ·cases h
  ·cases hgo
 ·rename_i hgo;have hok:=AD (ℓ:=H.length-1) K hK hH hs h;rw [Oper.semAt_eq _ _ _ (fun c e=>by unfold dw at h;rw [e]at h;cases h)];obtain⟨nx,u,w',S',μ',hr,hnx,hv,hh,he,hl⟩:=hok;rw [hr];rcases hnx with rfl|⟨rfl,rfl⟩
  ·rw [Oper.uponIn_value];exact hn u w' S' μ' hv hh he hl
  ·rw [Oper.uponIn_skip];exact hn undef w' S' μ' hv hh he hl
theorem uY (K:Ctx)(hK:fE K){rec:Rec}(hrec:jv K.P rec){fn:FuncId}{ops:Array Oper}{Q:Exit→Act→World→Prop}{st':bE}:
  ∀(rest:List Oper) (i:Nat) (st:bE) (a:Act) (w:World) (S:Nat→Prop) (μ:Mu),ops.toList.drop i=rest→nb K rec fn ops.toList rest st=some st'→il base r w S μ st a→
  (∀a' w' S' μ',il base r w' S' μ' st' a'→Ev (st.h.length-1) w S μ w' S' μ'→st'.h.length=st.h.length→st'.nt=st.nt→Q .normal a' w')→
  wpOpsIn (Fw r) 0 K.P ops Q (List.range' i rest.length) a w
 | [],i,st,a,w,S,μ,hd,h,hst,hq=>by
  simp only [nb,Option.some.injEq]at h;subst h;exact hq a w S μ hst (.refl _ _ _ _) rfl rfl
 |o::rest,i,st,a,w,S,μ,hd,h,hst,hq=>by
  have hi:ops[i]? =some o:=by
   have:(ops.toList.drop i)[0]? =some o:=(by rw [hd];rfl);rw [List.getElem?_drop]at this;simpa using this
  have hd':ops.toList.drop (i+1)=rest:=by
   have:(ops.toList.drop i).drop 1=rest:=by rw [hd];rfl
   rwa [List.drop_drop]at this
  rw [List.length_cons,List.range'_succ];simp only [wpOpsIn,hi];simp only [nb]at h;split at h
  ·rename_i hw;have hwant:=oG hst.c8 hw;simp only [Array.toArray_toList]at hwant;rw [hwant];simp only [Bool.false_eq_true,if_false];refine⟨fun _ _=>trivial, ?_⟩;split at h
   ·rename_i st1 hput;obtain⟨p1,p2,p3,p4,p5⟩:=me hst.c8 hst.nt tn rfl rfl hput;refine uY K hK hrec rest (i+1) st1 _ w S μ hd' h ⟨p4▸hst.heap,fun t=>by rw [p4];exact p1 t,by rw [p2,p3],p4▸hst.pos,hst.low,p5▸hst.defs,hst.round⟩ fun a' w' S' μ' q1 q2 q3 q4=> ?_;rw [p4]at q2 q3;exact hq a' w' S' μ' q1 q2 q3 (q4.trans p3)
   ·cases h
  ·rename_i hw;have hwant:=oG hst.c8 hw;simp only [Array.toArray_toList]at hwant;rw [hwant];simp only [if_true];split at h
   ·rename_i v H1 hstep;split at h
    ·rename_i st1 hput;refine qA K hK hrec hst.heap hst.pos hst.c8 hstep fun u w' S' μ' hv hh he hl=> ?_;have hs': ∀t,ax w' S' μ' (H1.length-1) (a.tmps.getD t undef) (look st.s t):=by
      rw [hl];exact lL hst.c8 hst.heap he (Nat.le_refl _) (Nat.le_refl _)
     obtain⟨p1,p2,p3,p4,p5⟩:=me (st:={st with h:=H1}) hs' hst.nt hv rfl rfl hput;simp only at p4
     refine uY K hK hrec rest (i+1) st1 _ w' S' μ' hd' h ⟨p4▸hh,fun t=>by rw [p4];exact p1 t,by rw [p2,p3],by rw [p4,hl];exact hst.pos,Nat.le_trans hst.low he.size,p5▸hst.defs.ev he,lK hst.round he⟩
      fun a' w'' S'' μ'' q1 q2 q3 q4=> ?_
     rw [p4,hl]at q2 q3;exact hq a' w'' S'' μ'' q1 (he.trans q2) q3 (q4.trans p3)
    ·cases h
   ·cases h
  ·cases h
end
end
section
theorem least {p:Nat→Prop}(h: ∃m,p m): ∃m,p m∧ ∀k,p k→m≤k:=by
 obtain⟨m,hm⟩:=h
 induction m using Nat.strongRecOn with
 |_ m ih=>
  by_cases hx: ∃k,k<m∧p k
  ·obtain⟨k,hk,hpk⟩:=hx;exact ih k hk hpk
  ·exact⟨m,hm,fun k hk=>Nat.le_of_not_lt fun hlt=>hx ⟨k,hlt,hk⟩⟩
section
variable {F:Fence} {n:Nat} {P:Program} {Q:Exit→Act→World→Prop} {a:Act} {w:World}
theorem fU {b:Frame}{k:List Item}{cs:List Frame}{c:Code}:step P (lone (b.atR a (.code (.scope c)::k)) cs w)= .next (lone (b.atR a (.code c:: .inScope c::k)) cs w):=
 step_lone_go (by simp [stepG,stepG.exec,Frame.atR])
theorem sO {b:Frame}{k:List Item}{cs:List Frame}{c:Code}:step P (lone (b.atR a (.inScope c::k)) cs w)= .next (lone (b.atR a k) cs w):=
 step_lone_go (by simp [stepG,stepG.exec,Frame.atR])
theorem yt {c:Code}(hg: ∀l a w,¬Q (.goto l) a w)(h:c.wpIn F n P Q a w):(Code.scope c).wpIn F n P Q a w:=by
 intro b k cs hro hb hr;have h0:(lone (b.atR a (.code (.scope c)::k)) cs w).fenced P F:=fenced_calm hb hr rfl;obtain⟨e,a₁,w₁,hq,harr⟩:=h b (.inScope c::k) cs hro hb hr
 cases e with
 |normal=>exact⟨.normal,a₁,w₁,hq, .head h0 fU (StepsIn.trans harr (.one (fenced_calm hb hr rfl) sO))⟩
 |exit id'=>
  have hx:exitTo id' (.inScope c::k)=exitTo id' k:=by simp [exitTo]
  exact⟨.exit id',a₁,w₁,hq,fun k' hk=> .head h0 fU (harr.1 k' (by rw [hx];exact hk)),
   fun hr' hk=>let ⟨k₁,h1,h2⟩:=harr.2 hr' (by rw [hx];exact hk);⟨k₁,h1, .head h0 fU h2⟩⟩
 |goto l=>exact absurd hq (hg _ _ _)
 |ret=>exact⟨_,a₁,w₁,hq, .of_steps (.one h0 fU) harr⟩
 |panic ch=>exact⟨_,a₁,w₁,hq, .of_steps (.one h0 fU) harr⟩
 |outgrown=>exact⟨_,a₁,w₁,hq, .of_steps (.one h0 fU) harr⟩
end
def wO (K:Ctx):Prop:= ∀rec,jv K.P rec→ ∀fn id ops st e st',cr K rec fn (.region id ops true) st=some (e,st')→ ∀base r w S μ a,il base r w S μ st a→
 (Code.region id ops true).wpIn (Fw r) 0 K.P (jg base r st w S μ e st') a w
section
variable {w w1:World} {S S1:Nat→Prop} {μ μ1:Mu} {base:Nat} {r:Option Nat} {st st1 st':bE} {a a1:Act} {e:GX}
theorem jg.of {e':Exit}(he:Ev (st.h.length-2) w S μ w1 S1 μ1)(hl:st1.h.length=st.h.length)(hn:st1.nt=st.nt){a':Act}{w':World}(h:jg base r st1 w1 S1 μ1 e st' e' a' w'):jg base r st w S μ e st' e' a' w':=by
 obtain⟨q1,q2,q3,S',μ',q4,q5⟩:=h;rw [hl]at q5;exact⟨q1,q2.trans hl,q3.trans hn,S',μ',q4,he.trans q5⟩
theorem jg.refl (h:il base r w S μ st a):jg base r st w S μ e st (dm e) a w:=⟨rfl,rfl,rfl,S,μ,h, .refl _ _ _ _⟩
theorem il.push (h:il base r w S μ st a)(ks:Option (List Nat)):il base r w S μ {st with s:=jQ ks st.s,h:=[]::st.h} a:=
 ⟨h.heap.push,fun t=>by
  have hp:=h.pos;have: ∀t,ax w S μ (st.h.length-1) (a.tmps.getD t undef) (look (jQ ks st.s) t):=by
   intro t
   cases ks with
   |none=>exact h.c8 t
   |some l=>exact rB h.c8 l t
  exact(this t).up (by simp),h.nt,by simp,h.low,h.defs,h.round⟩
theorem Gy (K:Ctx){n:Nat}(ih: ∀m,m≤n→jv K.P (cC K m)){fn:FuncId}{c:Code}(h:cC K (n+1) fn (.loop c) st=some (e,st'))(hst:il base r w S μ st a):
  (Code.loop c).wpIn (Fw r) 0 K.P (jg base r st w S μ e st') a w:=by
 let p:Act→World→Nat→Prop:=fun a1 w1 m=>m≤n+1∧ ∃st1 S1 μ1,cC K m fn (.loop c) st1=some (e,st')∧il base r w1 S1 μ1 st1 a1∧Ev (st.h.length-2) w S μ w1 S1 μ1∧st1.h.length=st.h.length∧st1.nt=st.nt
 have hmin: ∀a1 w1,(∃m,p a1 w1 m)→ ∃m,p a1 w1 m∧ ∀k,p a1 w1 k→m≤k:=fun a1 w1 h=>least h
 classical
 let meas:Act→World→Nat:=fun a1 w1=>if hx: ∃m,p a1 w1 m then Classical.choose (hmin a1 w1 hx)else 0
 have hmeas: ∀a1 w1,(hx: ∃m,p a1 w1 m)→p a1 w1 (meas a1 w1)∧ ∀k,p a1 w1 k→meas a1 w1≤k:=fun a1 w1 hx=>by
  have:=Classical.choose_spec (hmin a1 w1 hx);simp only [meas,dif_pos hx];exact this
 refine wpIn_loop (fun a1 w1=> ∃m,p a1 w1 m) meas ⟨n+1,Nat.le_refl _,st,S,μ,h,hst, .refl _ _ _ _,rfl,rfl⟩ fun a1 w1 hI=> ?_;obtain⟨hp,_⟩:=hmeas a1 w1 hI;generalize hm0:meas a1 w1=m at hp;obtain⟨hle,st1,S1,μ1,hg,hst1,hev,hl,hnt⟩:=hp
 cases m with
 |zero=>simp [cC]at hg
 |succ m=>
  have hg':cr K (cC K m) fn (.loop c) st1=some (e,st'):=hg;simp only [cr]at hg';have hrec:=ih m (by omega);split at hg'
  ·rename_i st2 hc;split at hg'
   ·rename_i st3 hsc;have hwp:=hrec fn c _ _ _ hc base r w1 S1 μ1 a1 (hst1.push _);refine wpIn_mono hwp fun e' a2 w2 hq=> ?_;obtain⟨q1,q2,q3,S2,μ2,q4,q5⟩:=hq;simp only [dm]at q1;subst q1;simp only [List.length_cons,Nat.add_sub_cancel]at q2 q5;simp only [Exit.then];obtain⟨s1,s2,S3,μ3,s3,s4⟩:=CA K q4 hsc;have hpp:p a2 w2 m:=⟨by omega,st3,S3,μ3,hg',s3,(hev.trans (q5.level (by omega))).trans (s4.level (by omega)),by omega,by rw [s2,q3];exact hnt⟩;obtain⟨_,hm2⟩:=hmeas a2 w2 ⟨m,hpp⟩;exact⟨⟨m,hpp⟩,Nat.lt_of_le_of_lt (hm2 m hpp) (by omega)⟩
   ·cases hg'
  ·rename_i e2 st2 hne hc;split at hg'
   ·rename_i st3 hsc;simp only [Option.some.injEq,Prod.mk.injEq]at hg';obtain⟨rfl,rfl⟩:=hg';have hwp:=hrec fn c _ _ _ hc base r w1 S1 μ1 a1 (hst1.push _);refine wpIn_mono hwp fun e' a2 w2 hq=> ?_;obtain⟨q1,q2,q3,S2,μ2,q4,q5⟩:=hq;simp only [List.length_cons,Nat.add_sub_cancel]at q2 q5;obtain⟨s1,s2,S3,μ3,s3,s4⟩:=oI q4 hsc;have hpost:jg base r st w S μ e2 st3 e' a2 w2:=⟨q1,by omega,by rw [s2,q3];exact hnt,S3,μ3,s3,(hev.trans (q5.level (by omega))).trans (s4.level (by omega))⟩
    cases e2 with
    |normal=>exact absurd rfl hne
    |exit id=>simp only [dm]at q1;subst q1;exact hpost
    |ret=>simp only [dm]at q1;subst q1;exact hpost
   ·cases hg'
  ·cases hg'
theorem CB (K:Ctx)(hK:fE K){rec:Rec}(hrec:jv K.P rec){fn:FuncId}{f:Operand}{ps:Array Tmp}{assign body:Code}(h:cr K rec fn (.rangeFunc f ps assign body) st=some (e,st'))(hst:il base r w S μ st a):
  (Code.rangeFunc f ps assign body).wpIn (Fw r) 0 K.P (jg base r st w S μ e st') a w:=by
 have hpos:=hst.pos;refine wpIn_rangeFunc fun fn' _=> ?_;simp only [cr]at h;split at h
 ·rename_i nm H1 hnew;obtain⟨rfl,hl,hg,rfl⟩:=gT hnew;split at h
  ·rename_i v H2 hcall;split at h
   ·rename_i l hgl;split at h
    ·cases h
    ·rename_i hbusy
     have laid: ∃(b:Nat) (mark:List Deferred) (w1:World) (μ1:Mu),(Instr.enterLoop fn' a.tmps ps assign body r).run K.P w= .ok (b,mark) w1∧
       aN w1 S μ1 (st.h.set (st.h.length-1,10000000+aL body) (.loop {c8:=st.s,nt:=st.nt,params:=ps.toList,assign:=assign,body:=body,fn:=fn,state:= .ready,pending:=none}))∧
       Ev (st.h.length-1) w S μ w1 S μ1∧μ1 (st.h.length-1,10000000+aL body) 0=some b∧pB base w1 S μ1 (mark++a.defers):=by
      have fY: ∀(w0:World) (hH0:aN w0 S μ st.h) (hE0:Ev (st.h.length-1) w S μ w0 S μ) (q:Loop),q.state= .ready→q.pending=none→q.params=ps→q.assign=assign→q.body=body→q.tmps=a.tmps→
        eH (w0.alloc (.loop q)) S (μ.jF (st.h.length-1,10000000+aL body) 0 w0.heap.size) (st.h.length-1,10000000+aL body)
         (.loop {c8:=st.s,nt:=st.nt,params:=ps.toList,assign:=assign,body:=body,fn:=fn,state:= .ready,pending:=none}):=by
       intro w0 hH0 hE0 q a1 a2 a3 a4 a5 a6;refine⟨w0.heap.size,q,Mu.bc _ _ _ _,fun hs=>by have:=hH0.slt _ hs;omega,cu _ _,a1,by rw [a2];rfl,by simp,by rw [a3],a4,a5,by rw [a6];exact hst.nt,fun t=> ?_⟩;have h1:=hE0.val hst.heap.slt (Nat.le_refl _) (hst.c8 t);rw [a6];exact h1.mono (fun _ h=>h) (fun b hb=>bC _ _ b (hH0.slt b hb)) (eE _ _) (fun n t b _ h=>zr hH0 hg _ _ n t b h) (Nat.le_refl _)
      cases r with
      |none=>
       obtain⟨s1,s2⟩:=hst.heap.skip (st.h.length-1) (.deferred (some []));obtain⟨n1,n2⟩:=s1.new (st.h.length-1) hg hl (.loop {state:= .ready,pending:=none,fn:=fn',tmps:=a.tmps,params:=ps,assign,body,defers:=w.heap.size}) 0 _ (fY _ s1 s2 _ rfl rfl rfl rfl rfl rfl);rw [World.size_alloc]at n1 n2;have hd:=hst.defs.ev (s2.trans n2);refine⟨_,_,_,_,run_enterLoop_outer fn' a.tmps ps assign body,n1,s2.trans n2,Mu.bc _ _ _ _,⟨fun d hdm=> ?_, ?_⟩⟩
       ·rcases List.mem_append.1 hdm with hdm|hdm
        ·simp only [List.mem_singleton]at hdm;subst hdm;refine⟨w.heap.size,rfl,hst.low, ?_,fun hs=> ?_,fun nm t hm=> ?_⟩
         ·rw [bC _ _ _ (by rw [bM];omega)];exact cu _ _
         ·have:=hst.heap.slt _ hs;omega
         ·by_cases en:nm=(st.h.length-1,10000000+aL body)
          ·subst en;by_cases et:t=0
           ·subst et;rw [Mu.bc]at hm;simp at hm
           ·rw [Mu.bX _ _ _ et]at hm;have:=hst.heap.lt _ _ _ hm;omega
          ·rw [Mu.cB _ _ _ _ en]at hm;have:=hst.heap.lt _ _ _ hm;omega
        ·exact hd.each d hdm
       ·refine List.pairwise_cons.2 ⟨fun d hdm=> ?_,hd.apart⟩;obtain⟨q,g1,g2,g3,_⟩:=hst.defs.each d hdm;have hlt:q<w.heap.size:=(Array.getElem?_eq_some_iff.1 g3).1;intro e;rw [g1]at e;simp only [Target.collected.injEq]at e;omega
      |some l0=>
       obtain⟨q0,hq0⟩:=hst.round l0 rfl;obtain⟨n1,n2⟩:=hst.heap.new (st.h.length-1) hg hl (.loop {state:= .ready,pending:=none,fn:=fn',tmps:=a.tmps,params:=ps,assign,body,defers:=q0.defers}) 0 _ (fY _ hst.heap (.refl _ _ _ _) _ rfl rfl rfl rfl rfl rfl);exact⟨_,_,_,_,run_enterLoop_inner hq0 fn' a.tmps ps assign body,n1,n2,Mu.bc _ _ _ _,hst.defs.ev n2⟩
     obtain⟨b,mark,w1,μ1,e1,hH1,hE1,hm1,hD1⟩:=laid;have hlen1:(st.h.set (st.h.length-1,10000000+aL body) (.loop {c8:=st.s,nt:=st.nt,params:=ps.toList,assign:=assign,body:=body,fn:=fn,state:= .ready,pending:=none})).length=st.h.length:=ae.length_set _ _ _;have hs1:=lL (k':=st.h.length-1) hst.c8 hst.heap hE1 (Nat.le_refl _) (Nat.le_refl _);obtain⟨d,f',args',r1,r2,r3⟩:=tN K hK hrec hcall (by rw [hlen1];exact iU hs1 f) (vs:= #[.func (.yield b) #[] #[]]) hH1 rfl (fun j hj=>by
      have:j=0:=(by simp at hj;omega);subst this;rw [hlen1];exact .yield _ b (Nat.le_refl _) hm1)
     refine⟨b,mark,w1,d,w1,f',args',w1,e1, ?_,fun _ _=>trivial,r2,fun h=>(by cases h),CallsIn.fw (CallsIn.mono r3 fun en w3 hd=> ?_)⟩
     ·simp only [resolve,rangeCall,List.map_toArray,List.map_cons,List.map_nil,Act.eval];exact r1
     ·obtain⟨u,S3,μ3,rfl,c1,c2,c3,c4⟩:=hd;rw [hlen1]at c3 c4;have hm3:μ3 (st.h.length-1,10000000+aL body) 0=some b:=c3.mu _ _ _ (Nat.le_refl _) hm1;obtain⟨b3,q,k1,k2,k3,s1,s2,s3,s5,s6,s7,s8,s9⟩:=c2.fY _ _ hgl _ _ hm3;rw [hm3]at k1;simp only [Option.some.injEq]at k1;subst k1;obtain⟨t1,t2⟩:=aN.rO (ℓ:=st.h.length-1) c2 (x:= .exhausted) (p:=l.pending) hgl hm3 k3 s3;have hpend:({q with state:= .exhausted,pending:=l.pending.map kC}:Loop)={q with state:= .exhausted}:=(by rw [←s2]);rw [hpend]at t1 t2;obtain⟨pend,hpd⟩: ∃p,p=q.pending:=⟨_,rfl⟩;refine⟨pend,_,(run_endLoop k3 (by rw [s1];exact hbusy)).trans (by rw [hpd]), ?_⟩;have hpendl:({l with state:= .exhausted,pending:=l.pending}:dR)={l with state:= .exhausted}:=rfl;rw [hpendl]at t1;have hEall:=(hE1.trans c3).trans t2;have hfin:il base r (w3.putObj b (.loop {q with state:= .exhausted})) S3 μ3 {st with h:=H2.set (st.h.length-1,10000000+aL body) (.loop {l with state:= .exhausted})} {a with defers:=mark++a.defers}:=by
       refine⟨t1,fun t=> ?_,hst.nt,by simp only [ae.length_set];omega,Nat.le_trans hst.low hEall.size,(hD1.ev c3).ev t2,lK hst.round hEall⟩;simp only [ae.length_set,c4];exact lL (k':=st.h.length-1) hst.c8 hst.heap hEall (Nat.le_refl _) (Nat.le_refl _) t
      have hp2:=hpd.trans s2;clear hpd;split at h
      ·rename_i hpn;simp only [Option.some.injEq,Prod.mk.injEq]at h;obtain⟨rfl,rfl⟩:=h;have hp3:pend=none:=(by rw [hp2,hpn];rfl);subst hp3;exact⟨rfl,by simp only [ae.length_set];exact c4,rfl,S3,μ3,hfin,hEall.level (by omega)⟩
      ·rename_i e2 hpn;simp only [Option.some.injEq,Prod.mk.injEq]at h;obtain⟨rfl,rfl⟩:=h;rw [hpn]at s3;have hp3:pend=some (kC e2):=(by rw [hp2,hpn];rfl);subst hp3
       have hpost:jg base r st w S μ e2 {st with h:=H2.set (st.h.length-1,10000000+aL body) (.loop {l with state:= .exhausted})} (dm e2) {a with defers:=mark++a.defers} (w3.putObj b (.loop {q with state:= .exhausted})):=
        ⟨rfl,by simp only [ae.length_set];exact c4,rfl,S3,μ3,hfin,hEall.level (by omega)⟩
       cases e2 with
       |normal=>exact absurd rfl s3
       |exit id=>exact wpIn_exit hpost
       |ret=>exact wpIn_ret hpost
   ·cases h
  ·cases h
 ·cases h
theorem CC (K : Ctx) (hK : fE K) (hD : wO K) : ∀ n, jv K.P (cC K n) := by
  intro n
  induction n using Nat.strongRecOn with
  | _ n ih =>
    intro fn c st e st' h base r w S μ a hst
    cases n with
    | zero => simp [cC] at h
    | succ n =>
      have hrec := ih n (Nat.lt_succ_self n)
      cases c with
      | loop c => exact Gy K (fun m hm => ih m (by omega)) h hst
      | rangeFunc f ps assign body => exact CB K hK hrec h hst
      | skip =>
        simp only [cC, cr, Option.some.injEq, Prod.mk.injEq] at h
        obtain ⟨rfl, rfl⟩ := h
        exact wpIn_skip (jg.refl hst)
      | label l =>
        simp only [cC, cr, Option.some.injEq, Prod.mk.injEq] at h
        obtain ⟨rfl, rfl⟩ := h
        exact wpIn_label (jg.refl hst)
      | exit id =>
        simp only [cC, cr, Option.some.injEq, Prod.mk.injEq] at h
        obtain ⟨rfl, rfl⟩ := h
        exact wpIn_exit (jg.refl (e := .exit id) hst)
      | ret =>
        simp only [cC, cr, Option.some.injEq, Prod.mk.injEq] at h
        obtain ⟨rfl, rfl⟩ := h
        exact wpIn_ret (jg.refl (e := .ret) hst)
      | region id ops draws =>
        cases draws with
        | true => exact hD _ hrec fn id ops st e st' h base r w S μ a hst
        | false =>
          simp only [cC, cr] at h
          split at h
          · rename_i st1 hops
            simp only [Option.some.injEq, Prod.mk.injEq] at h
            obtain ⟨rfl, rfl⟩ := h
            refine wpIn_region ?_
            have := uY K hK hrec (fn := fn) (ops := ops) (Q := jg base r st w S μ .normal st1) ops.toList 0 st a w S μ rfl hops hst fun a' w' S' μ' q1 q2 q3 q4 => ⟨rfl, q3, q4, S', μ', q1, q2.level (by omega)⟩
            rw [List.range_eq_range']
            simpa using this
          · cases h
      | seq x y =>
        simp only [cC, cr] at h
        refine wpIn_seq ?_
        split at h
        · rename_i st1 hx
          refine wpIn_mono (hrec fn x st _ _ hx base r w S μ a hst) fun e' a1 w1 hq => ?_
          obtain ⟨q1, q2, q3, S1, μ1, q4, q5⟩ := hq
          simp only [dm] at q1; subst q1
          simp only [Exit.then]
          exact wpIn_mono (hrec fn y st1 _ _ h base r w1 S1 μ1 a1 q4) fun e' a2 w2 hq => jg.of q5 q2 q3 hq
        · rename_i hne
          have hx : cC K n fn x st = some (e, st') := h
          refine wpIn_mono (hrec fn x st _ _ hx base r w S μ a hst) fun e' a1 w1 hq => ?_
          have q1 := hq.1
          cases e with
          | normal => exact absurd hx (hne st')
          | exit id => simp only [dm] at q1; subst q1; exact hq
          | ret => simp only [dm] at q1; subst q1; exact hq
      | cond c x y =>
        simp only [cC, cr] at h
        split at h
        · rename_i b hb
          have hc := iU hst.c8 c
          rw [hb] at hc
          refine wpIn_cond hc.jP ?_
          cases b with
          | true => exact hrec fn x st _ _ (by simpa using h) base r w S μ a hst
          | false => exact hrec fn y st _ _ (by simpa using h) base r w S μ a hst
        · cases h
      | block id c =>
        simp only [cC, cr] at h
        refine wpIn_block ?_
        split at h
        · rename_i id' st1 hc
          refine wpIn_mono (hrec fn c st _ _ hc base r w S μ a hst) fun e' a1 w1 hq => ?_
          have q1 := hq.1
          simp only [dm] at q1; subst q1
          simp only [Exit.inBlock]
          split at h
          · rename_i o8
            simp only [Option.some.injEq, Prod.mk.injEq] at h
            obtain ⟨rfl, rfl⟩ := h
            rw [if_pos o8]
            obtain ⟨_, q⟩ := hq
            exact ⟨rfl, q⟩
          · rename_i o8
            simp only [Option.some.injEq, Prod.mk.injEq] at h
            obtain ⟨rfl, rfl⟩ := h
            rw [if_neg o8]; exact hq
        · rename_i hne
          have hx : cC K n fn c st = some (e, st') := h
          refine wpIn_mono (hrec fn c st _ _ hx base r w S μ a hst) fun e' a1 w1 hq => ?_
          have q1 := hq.1
          cases e with
          | exit id => exact absurd hx (hne id st')
          | normal => simp only [dm] at q1; subst q1; exact hq
          | ret => simp only [dm] at q1; subst q1; exact hq
      | scope c =>
        simp only [cC, cr] at h
        refine yt (fun l a w hq => by
          have := hq.1
          cases e <;> simp [dm] at this) ?_
        refine wpIn_mono (hrec fn c st _ _ h base r w S μ a hst) fun e' a1 w1 hq => ?_
        have q1 := hq.1
        cases e with
        | normal => simp only [dm] at q1; subst q1; exact hq
        | exit id => simp only [dm] at q1; subst q1; exact hq
        | ret => simp only [dm] at q1; subst q1; exact hq
      | _ => simp [cC, cr] at h
end
end
section
section
variable (K:Ctx) {fn:FuncId} {o:Oper}
theorem wP {s s':aS}{x:Operand}(h: ∀t,x= .tmp t→look s t=look s' t):ev s x=ev s' x:=by
 cases x with
 |tmp t=>exact h t rfl
 |_=>rfl
theorem rS {l:List Operand}{t:Nat}(h:Operand.tmp t∈l):t∈tmpsOf l:=by
 unfold tmpsOf;exact List.mem_filterMap.2 ⟨_,h,rfl⟩
theorem jR {s s':aS}{l:List Operand}(h: ∀x∈l,ev s x=ev s' x):l.map (ev s)=l.map (ev s'):=List.map_congr_left h
theorem rT {s s':aS}{l:List (Nat×Operand)}(h: ∀x∈l.map (·.2),ev s x=ev s' x):l.map (qo s)=l.map (qo s'):=
 List.map_congr_left fun x hx=>by simp only [qo];rw [h x.2 (List.mem_map.2 ⟨x,hx,rfl⟩)]
theorem AW {s s':aS}{H:ae}(h: ∀t,t∈gy K fn o→look s t=look s' t):dw K fn o s H=dw K fn o s' H:=by
 have hev: ∀x∈o.op.operands.toList,ev s x=ev s' x:=fun x hx=>wP fun t ht=>h t (by
  unfold gy;exact List.mem_append_left _ (List.mem_append_left _ (rS (ht▸hx))))
 have hup: ∀d t,o.dst=some d→K.up fn d= .box t→look s t=look s' t:=fun d t hd hu=>h t (by
  unfold gy;refine List.mem_append_left _ (List.mem_append_right _ ?_);simp [hd,hu])
 clear h;obtain⟨dst,op,type,pos,after,guard⟩:=o;simp only at hev hup;unfold dw;cases op<;>simp only [Op.operands,Array.toList_append,List.mem_append,Array.toList_map]at hev<;>try rfl
 case move x=>simp only [hev x (by simp)]
 case assign x=>simp only [hev x (by simp)]
 case pick c x y=>simp only [hev c (by simp),hev x (by simp),hev y (by simp)]
 case box t x=>simp only [hev x (by simp)]
 case build t ps=>simp only [rT hev]
 case buildSlice t n ps=>simp only [rT hev]
 case load t a=>simp only [hev a (by simp)]
 case store t a x=>simp only [hev a (by simp),hev x (by simp)]
 case nilCheck x=>simp only [hev x (by simp)]
 case binOp op t x y d=>simp only [zo,hev x (by simp),hev y (by simp)]
 case unOp op t x=>simp only [hev x (by simp)]
 case convert a b x=>simp only [hev x (by simp)]
 case makeFunc f a c=>
  cases f with
  |func f=>
   have h1:a.toList.map (ev s)=a.toList.map (ev s'):=jR fun x hx=>hev x (.inl hx);have h2:c.toList.map (ev s)=c.toList.map (ev s'):=jR fun x hx=>hev x (.inr hx);simp only [h1,h2]
  |_=>rfl
 case makeMap t r=>cases r<;>rfl
 case makeSlice t l c=>simp only [hev l (by simp),hev c (by simp)]
 case slice t x lo hi mx=>
  have h1:lo.map (ev s)=lo.map (ev s'):=by cases lo<;>simp_all
  have h2:hi.map (ev s)=hi.map (ev s'):=by cases hi<;>simp_all
  have h3:mx.map (ev s)=mx.map (ev s'):=by cases mx<;>simp_all
  simp only [hev x (by simp),h1,h2,h3]
 case fieldAddr t x f=>simp only [hev x (by simp)]
 case field t x f=>simp only [hev x (by simp)]
 case indexAddr t x i=>simp only [hev x (by simp),hev i (by simp)]
 case index t x i=>simp only [hev x (by simp),hev i (by simp)]
 case lookup t x k ok=>simp only [hev x (by simp),hev k (by simp)]
 case mapUpdate t m k v=>simp only [hev m (by simp),hev k (by simp),hev v (by simp)]
 case insert t m k v=>simp only [hev m (by simp),hev k (by simp),hev v (by simp)]
 case extract t i=>simp only [hev t (by simp)]
 case call c=>
  have hargs: ∀x∈c.args.toList,ev s x=ev s' x:=fun x hx=>hev x (by simp [Call.operands,hx])
  have hget: ∀(i:Nat) x,c.args[i]? =some x→ev s x=ev s' x:=fun i x hx=>hargs x (by
   have:=Array.mem_of_getElem? hx;exact Array.mem_toList_iff.2 this)
  obtain⟨callee,args,argTypes⟩:=c;simp only at hargs hget
  cases callee with
  |builtin b=>
   cases b<;>simp only<;>try rfl
   ·
    cases h1:argTypes[0]? with
    |none=>rfl
    |some t=>
    cases h2:args[0]? with
    |none=>rfl
    |some x=>
    cases h3:args[1]? with
    |none=>rfl
    |some y=>
    cases h4:dst with
    |none=>rfl
    |some d=>
    have hu:gH H s (K.up fn d)=gH H s' (K.up fn d):=by
     unfold gH
     cases hk:K.up fn d with
     |scopes n=>rfl
     |box q=>simp only;rw [hup d q h4 hk]
    have hu2:mB s (K.up fn d)=mB s' (K.up fn d):=by
     unfold mB
     cases hk:K.up fn d with
     |scopes n=>rfl
     |box q=>simp only;rw [hup d q h4 hk]
    simp only [hget 0 x h2,hget 1 y h3,hu,hu2]
   ·
    cases h1:argTypes[0]? with
    |none=>rfl
    |some t=>
    cases h2:args[0]? with
    |none=>rfl
    |some x=>simp only [hget 0 x h2]
   ·
    cases h1:argTypes[0]? with
    |none=>rfl
    |some t=>
    cases h2:args[0]? with
    |none=>rfl
    |some x=>simp only [hget 0 x h2]
   ·rw [jR hargs]
   ·rw [jR hargs]
  |value f=>rfl
  |invoke r m=>rfl
theorem pO {s:aS}{H H':ae}{v:GV}(hp:bN K fn o=true)(h:dw K fn o s H=some (v,H')):H'=H∧(AX o=false→ ∀H2,dw K fn o s H2=some (v,H2)):=by
 obtain⟨dst,op,type,pos,after,guard⟩:=o;unfold bN at hp;unfold AX;unfold dw at h⊢;cases op<;>simp only at hp h⊢ <;>try (cases hp;done)
 case makeFunc f a c=>
  cases f<;>simp only at h⊢
  case func=>
   simp only [Option.some.injEq,Prod.mk.injEq]at h;exact⟨h.2.symm,fun _ H2=>by rw [h.1]⟩
  all_goals cases h
 case buildSlice t n ps=>
  repeat' split at h
  all_goals try (cases h;done)
  all_goals try (exfalso;simp_all;done)
  all_goals
   simp only [Option.some.injEq,Prod.mk.injEq]at h;obtain⟨rfl,rfl⟩:=h;refine⟨rfl,fun _ H2=> ?_⟩
   simp_all
 case build t ps=>
  repeat' split at h
  all_goals try (cases h;done)
  all_goals
   simp only [Option.some.injEq,Prod.mk.injEq]at h;obtain⟨rfl,rfl⟩:=h;refine⟨rfl,fun _ H2=> ?_⟩
   simp_all
 case load=>
  repeat' split at h
  all_goals try (cases h;done)
  simp only [Option.some.injEq,Prod.mk.injEq]at h;exact⟨h.2.symm,fun h=>by cases h⟩
 case lookup=>
  repeat' split at h
  all_goals try (cases h;done)
  simp only [Option.some.injEq,Prod.mk.injEq]at h;exact⟨h.2.symm,fun h=>by cases h⟩
 case call c=>
  obtain⟨callee,args,argTypes⟩:=c
  cases callee with
  |builtin b=>
   cases b<;>simp only at hp h⊢ <;>try (cases hp;done)
   all_goals
    repeat' split at h
    all_goals try (cases h;done)
    simp only [Option.some.injEq,Prod.mk.injEq]at h;obtain⟨rfl,rfl⟩:=h;refine⟨rfl,fun hr H2=> ?_⟩;first|(cases hr;done)|simp_all
  |value f=>cases hp
  |invoke r m=>cases hp
 all_goals
  repeat' split at h
  all_goals try (cases h;done)
  all_goals
   simp only [Option.some.injEq,Prod.mk.injEq]at h;obtain⟨rfl,rfl⟩:=h;refine⟨rfl,fun _ H2=> ?_⟩;first|rfl|simp_all
theorem wQ {s:aS}{H H':ae}{v:GV}(hp:bN K fn o=true)(h:dw K fn o s H=some (v,H')):H'=H:=(pO K hp h).1
theorem yu {s:aS}{H H' H2:ae}{v:GV}(hp:bN K fn o=true)(hr:AX o=false)(h:dw K fn o s H=some (v,H')):dw K fn o s H2=some (v,H2):=(pO K hp h).2 hr H2
end
end
section
structure TS where
 s:aS
 b:ae
 f:ae
def jh (s:aS):Option Tmp→GV→aS
 |none,_=>s
 |some d,v=>(d,v)::s
theorem CD {st st':bE}{d:Option Tmp}{v:GV}(h:st.put d v=some st'):st'.s=jh st.s d v∧st'.h=st.h∧st'.nt=st.nt∧ ∀t,d=some t→t<st.nt:=by
 cases d with
 |none=>simp only [bE.put,Option.some.injEq]at h;subst h;exact⟨rfl,rfl,rfl,fun t h=>by cases h⟩
 |some d=>
  simp only [bE.put]at h;split at h
  ·rename_i hd;simp only [Option.some.injEq]at h;subst h;exact⟨rfl,rfl,rfl,fun t h=>by cases h;exact hd⟩
  ·cases h
section
variable (K:Ctx) (rec:Rec) (fn:FuncId) (all:List Oper) (pre:Array Nat) (st0:bE)
def kU (o:Oper)(x:TS):Option (Nat×GV×ae):=
 match cR all x.s o with
 |some false=>some (0,jG,x.f)
 |some true=>
  if bN K fn o then (match dw K fn o x.s x.b with|some (v,_)=>some (1,v,x.f)|none=>none)
  else (match cf K rec fn o x.s x.f with|some (v,H)=>some (if b7 o then 2 else 3,v,H)|none=>none)
 |none=>none
def dT:Nat→TS
 |0=>⟨st0.s,st0.h,st0.h⟩
 |j+1=>
  match all[j]? with
  |some o=>(match kU K rec fn all o (dT j)with|some (k,v,H)=>⟨jh (dT j).s o.dst v,if k=3 then H else (dT j).b,H⟩|none=>dT j)
  |none=>dT j
def dk (j:Nat):Nat:=match all[j]? with|some o=>(match kU K rec fn all o (dT K rec fn all st0 j)with|some (k,_,_)=>k|none=>0)|none=>0
def dv (j:Nat):GV:=match all[j]? with|some o=>(match kU K rec fn all o (dT K rec fn all st0 j)with|some (_,v,_)=>v|none=>aG)|none=>aG
structure jb (nt j:Nat)(o:Oper):Prop where
 kind:kU K rec fn all o (dT K rec fn all st0 j)=some (dk K rec fn all st0 j,dv K rec fn all st0 j,(dT K rec fn all st0 (j+1)).f)
 dst: ∀d,o.dst=some d→d<nt
 ww:dk K rec fn all st0 j=3→ ∀x,x<j→dk K rec fn all st0 x=3→(pre.getD j 0).testBit x=true
 rw:dk K rec fn all st0 j=1→AX o=true→ ∀x,x<j→dk K rec fn all st0 x=3→(pre.getD j 0).testBit x=true∨sameAt K fn o (dT K rec fn all st0 j).s (dv K rec fn all st0 j) (dT K rec fn all st0 x).b=true
 wr:dk K rec fn all st0 j=3→ ∀q,q<j→dk K rec fn all st0 q=1→ ∀oq,all[q]? =some oq→AX oq=true→
  (pre.getD j 0).testBit q=true∨sameAt K fn oq (dT K rec fn all st0 q).s (dv K rec fn all st0 q) (dT K rec fn all st0 (j+1)).f=true
theorem uZ {j:Nat}{o:Oper}{k:Nat}{v:GV}{H:ae}(ho:all[j]? =some o)(hk:kU K rec fn all o (dT K rec fn all st0 j)=some (k,v,H)):
  dT K rec fn all st0 (j+1)=⟨jh (dT K rec fn all st0 j).s o.dst v,if k=3 then H else (dT K rec fn all st0 j).b,H⟩∧dk K rec fn all st0 j=k∧dv K rec fn all st0 j=v:=by
 refine⟨?_, ?_, ?_⟩
 ·simp only [dT,ho,hk]
 ·simp only [dk,ho,hk]
 ·simp only [dv,ho,hk]
theorem wR {st' : bE} : ∀ (rest : List Oper) (i : Nat) (wl : List (Nat × ae)) (rl : List yv) (hb : ae) (st : bE), all.drop i = rest → (dT K rec fn all st0 i).s = st.s → (dT K rec fn all st0 i).b = hb →
    (dT K rec fn all st0 i).f = st.h → st.nt = st0.nt → (∀ x, x < i → dk K rec fn all st0 x = 3 → (x, (dT K rec fn all st0 x).b) ∈ wl) →
    (∀ q, q < i → dk K rec fn all st0 q = 1 → ∀ o, all[q]? = some o → AX o = true → (⟨q, o, (dT K rec fn all st0 q).s, dv K rec fn all st0 q⟩ : yv) ∈ rl) →
    ff K rec fn all pre i rest wl rl hb st = some st' →
    (∀ j o, i ≤ j → all[j]? = some o → jb K rec fn all pre st0 st0.nt j o) ∧ st'.s = (dT K rec fn all st0 all.length).s ∧ st'.h = (dT K rec fn all st0 all.length).f ∧ st'.nt = st0.nt := by
  intro rest
  induction rest with
  | nil =>
    intro i wl rl hb st hd hs hbb hf hnt hwl hrl h
    simp only [ff, Option.some.injEq] at h; subst h
    have hlen : all.length ≤ i := List.drop_eq_nil_iff.1 hd
    have hT : ∀ j, all.length ≤ j → dT K rec fn all st0 j = dT K rec fn all st0 all.length := by
      intro j hj
      induction j with
      | zero => have : all.length = 0 := by omega
                rw [this]
      | succ j ih =>
        by_cases e : all.length = j + 1
        · rw [e]
        · have hn : all[j]? = none := List.getElem?_eq_none (by omega)
          rw [show dT K rec fn all st0 (j + 1) = dT K rec fn all st0 j by simp only [dT, hn]]
          exact ih (by omega)
    refine ⟨fun j o hij ho => ?_, ?_, ?_, hnt⟩
    · have := (List.getElem?_eq_some_iff.1 ho).1; omega
    · rw [← hT i hlen, hs]
    · rw [← hT i hlen, hf]
  | cons o r ih =>
    intro i wl rl hb st hd hs hbb hf hnt hwl hrl h
    have ho : all[i]? = some o := by
      have : (all.drop i)[0]? = some o := by rw [hd]; rfl
      rw [List.getElem?_drop] at this
      simpa using this
    have hd' : all.drop (i + 1) = r := by
      have : (all.drop i).drop 1 = r := by rw [hd]; rfl
      rwa [List.drop_drop] at this
    have go : ∀ (k : Nat) (v : GV) (H : ae) (wl' : List (Nat × ae)) (rl' : List yv) (st1 : bE), kU K rec fn all o (dT K rec fn all st0 i) = some (k, v, H) →
        bE.put { st with h := H } o.dst v = some st1 → (∀ x, x ∈ wl → x ∈ wl') → (∀ x, x ∈ rl → x ∈ rl') → (k = 3 → (i, hb) ∈ wl') → (k = 1 → AX o = true → (⟨i, o, st.s, v⟩ : yv) ∈ rl') →
        (k = 3 → ∀ x, x ∈ wl → (pre.getD i 0).testBit x.1 = true) →
        (k = 1 → AX o = true → ∀ x, x ∈ wl → (pre.getD i 0).testBit x.1 = true ∨ sameAt K fn o st.s v x.2 = true) →
        (k = 3 → ∀ q, q ∈ rl → (pre.getD i 0).testBit q.i = true ∨ sameAt K fn q.o q.s q.v H = true) →
        ff K rec fn all pre (i + 1) r wl' rl' (if k = 3 then H else hb) st1 = some st' →
        (∀ j o, i ≤ j → all[j]? = some o → jb K rec fn all pre st0 st0.nt j o) ∧ st'.s = (dT K rec fn all st0 all.length).s ∧ st'.h = (dT K rec fn all st0 all.length).f ∧ st'.nt = st0.nt := by
      intro k v H wl' rl' st1 hk hput hw' hr' hwi hri c1 c2 c3 hg
      obtain ⟨e1, e2, e3⟩ := uZ K rec fn all st0 ho hk
      obtain ⟨p1, p2, p3, p4⟩ := CD hput
      simp only at p1 p2 p3 p4
      obtain ⟨g1, g2⟩ := ih (i + 1) wl' rl' (if k = 3 then H else hb) st1 hd' (by rw [e1, p1, hs]) (by rw [e1, hbb]) (by rw [e1, p2]) (by rw [p3, hnt])
        (fun x hx hkx => by
          rcases Nat.lt_or_ge x i with h' | h'
          · exact hw' _ (hwl x h' hkx)
          · obtain rfl : x = i := by omega
            rw [hbb]; exact hwi (by rw [← e2, hkx]))
        (fun q hq hkq oq hoq hR => by
          rcases Nat.lt_or_ge q i with h' | h'
          · exact hr' _ (hrl q h' hkq oq hoq hR)
          · obtain rfl : q = i := by omega
            rw [ho] at hoq; cases hoq
            rw [hs, e3]; exact hri (by rw [← e2, hkq]) hR) hg
      refine ⟨fun j oj hij hoj => ?_, g2⟩
      by_cases e : i = j
      · subst e
        rw [ho] at hoj; cases hoj
        have e4 : (dT K rec fn all st0 (i + 1)).f = H := by rw [e1]
        exact ⟨by rw [e2, e3, e4]; exact hk, fun d hd => hnt ▸ p4 d hd, fun h3 x hx hkx => c1 (by rw [← e2, h3]) _ (hwl x hx hkx),
          fun h1 hR x hx hkx => by rw [hs, e3]; exact c2 (by rw [← e2, h1]) hR _ (hwl x hx hkx),
          fun h3 q hq hkq oq hoq hR => by rw [e4]; exact c3 (by rw [← e2, h3]) _ (hrl q hq hkq oq hoq hR)⟩
      · exact g1 j oj (by omega) hoj
    simp only [ff] at h
    have hst : st = { st with h := st.h } := rfl
    split at h
    · rename_i hw
      split at h
      · rename_i st1 hput
        refine go 0 jG st.h wl rl st1 ?_ hput (fun _ h => h) (fun _ h => h) (by omega) (by omega) (by omega) (by omega) (by omega) (by simpa using h)
        simp only [kU, hs, hw, hf]
      · cases h
    · rename_i hw
      split at h
      · rename_i hp
        split at h
        · rename_i v Hx hop
          have hk : kU K rec fn all o (dT K rec fn all st0 i) = some (1, v, st.h) := by simp only [kU, hs, hw, hp, hbb, hop, hf, if_true]
          split at h
          · rename_i st1 hput
            split at h
            · rename_i hR
              split at h
              · rename_i hall
                refine go 1 v st.h wl _ st1 hk hput (fun _ h => h) (fun _ h => List.mem_cons_of_mem _ h) (by omega) (fun _ _ => List.mem_cons_self ..) (by omega) (fun _ _ x hx => ?_) (by omega) (by simpa using h)
                have := List.all_eq_true.1 hall x hx
                simpa using this
              · cases h
            · rename_i hR
              exact go 1 v st.h wl rl st1 hk hput (fun _ h => h) (fun _ h => h) (by omega) (fun _ h => absurd h hR) (by omega) (fun _ h => absurd h hR) (by omega) (by simpa using h)
          · cases h
        · cases h
      · rename_i hp
        split at h
        · rename_i v H hstep
          split at h
          · rename_i st1 hput
            have hk : kU K rec fn all o (dT K rec fn all st0 i) = some (if b7 o then 2 else 3, v, H) := by simp only [kU, hs, hw, hp, hf, hstep, if_false, Bool.false_eq_true]
            split at h
            · rename_i ha
              rw [if_pos ha] at hk
              exact go 2 v H wl rl st1 hk hput (fun _ h => h) (fun _ h => h) (by omega) (by omega) (by omega) (by omega) (by omega) (by simpa using h)
            · rename_i ha
              rw [if_neg ha] at hk
              split at h
              · rename_i hall
                simp only [Bool.and_eq_true] at hall
                refine go 3 v H _ rl st1 hk hput (fun _ h => List.mem_cons_of_mem _ h) (fun _ h => h) (fun _ => List.mem_cons_self ..) (by omega) (fun _ x hx => ?_) (by omega) (fun _ q hq => ?_) (by simpa using h)
                · exact List.all_eq_true.1 hall.1 x hx
                · have := List.all_eq_true.1 hall.2 q hq
                  simpa using this
              · cases h
          · cases h
        · cases h
    · cases h
theorem zz (nt:Nat)(hok: ∀j o,all[j]? =some o→jb K rec fn all pre st0 nt j o)(hnd:nd (all.filterMap (·.dst))=true): ∀(i t:Nat),i≤all.length→
  (∃j o,j<i∧all[j]? =some o∧o.dst=some t∧look (dT K rec fn all st0 i).s t=dv K rec fn all st0 j)∨
  ((∀j o,j<i→all[j]? =some o→o.dst≠some t)∧look (dT K rec fn all st0 i).s t=look st0.s t):=by
 intro i
 induction i with
 |zero=>intro t _;exact .inr ⟨fun j o h=>by omega,rfl⟩
 |succ i ih=>
  intro t hi;have ho:all[i]? =some all[i]:=List.getElem?_eq_getElem (by omega);obtain⟨e1,e2,e3⟩:=uZ K rec fn all st0 ho (hok i _ ho).kind;rw [e1];simp only;by_cases hd:all[i].dst=some t
  ·refine .inl ⟨i,_,by omega,ho,hd, ?_⟩;rw [hd];simp [jh,look]
  ·have hl:look (jh (dT K rec fn all st0 i).s all[i].dst (dv K rec fn all st0 i)) t=look (dT K rec fn all st0 i).s t:=by
    cases hdd:all[i].dst with
    |none=>rfl
    |some d=>simp only [jh,look];rw [if_neg (fun e=>hd (by rw [hdd,e]))]
   rw [hl];rcases ih t (by omega)with ⟨j,o,h1,h2,h3,h4⟩|⟨h1,h2⟩
   ·exact .inl ⟨j,o,by omega,h2,h3,h4⟩
   ·refine .inr ⟨fun j o hj hoj=> ?_,h2⟩;by_cases e:j=i
    ·subst e;rw [ho]at hoj;cases hoj;exact hd
    ·exact h1 j o (by omega) hoj
end
end
section
section
variable {ops:Array Oper}
theorem tP (g:Nat→Nat): ∀(l:List Edge) (s0 b:Nat),(l.foldl (fun s e=>if Region.binds .any e then s|||2^e.on|||g e.on else s) s0).testBit b=true→
  s0.testBit b=true∨ ∃e∈l,Region.binds .any e=true∧(e.on=b∨(g e.on).testBit b=true)
 | [],s0,b,h=> .inl h
 |e::l,s0,b,h=>by
  rw [List.foldl_cons]at h;rcases tP g l _ b h with h1|⟨e',he',h1⟩
  ·by_cases hb:Region.binds .any e=true
   ·rw [if_pos hb,Nat.testBit_or,Nat.testBit_or,Nat.testBit_two_pow]at h1;simp only [Bool.or_eq_true,decide_eq_true_eq]at h1;rcases h1 with (h1|h1)|h1
    ·exact .inl h1
    ·exact .inr ⟨e,List.mem_cons_self ..,hb, .inl h1⟩
    ·exact .inr ⟨e,List.mem_cons_self ..,hb, .inr h1⟩
   ·rw [if_neg hb]at h1;exact .inl h1
  ·exact .inr ⟨e',List.mem_cons_of_mem _ he',h1⟩
theorem wS (ops:Array Oper)(j b:Nat)(h:((Region.before ops).getD j 0).testBit b=true):
  ∃o e,ops[j]? =some o∧e∈o.after∧Region.binds .any e=true∧(e.on=b∨(e.on<j∧((Region.before ops).getD e.on 0).testBit b=true)):=by
 have key:(Region.before ops).size=ops.size∧ ∀j,j<ops.size→ ∀b,((Region.before ops).getD j 0).testBit b=true→
   ∃o e,ops[j]? =some o∧e∈o.after∧Region.binds .any e=true∧(e.on=b∨(e.on<j∧((Region.before ops).getD e.on 0).testBit b=true)):=by
  unfold Region.before
  refine Array.foldl_induction (motive:=fun(i:Nat) (acc:Array Nat)=>acc.size=i∧ ∀j,j<i→ ∀b,(acc.getD j 0).testBit b=true→
   ∃o e,ops[j]? =some o∧e∈o.after∧Region.binds .any e=true∧(e.on=b∨(e.on<j∧(acc.getD e.on 0).testBit b=true))) ⟨rfl,fun j hj=>by omega⟩ ?_
  intro i acc ⟨h1,h2⟩;refine⟨by simp [h1],fun j hj b hb=> ?_⟩;have hold: ∀x k,k<i.val→(acc.push x).getD k 0=acc.getD k 0:=fun x k hk=>by
   simp only [Array.getD_eq_getD_getElem?,Array.getElem?_push];rw [if_neg (by omega)]
  by_cases e:j=i.val
  ·subst e;have hx: ∀x,(acc.push x).getD i.val 0=x:=fun x=>by
    simp only [Array.getD_eq_getD_getElem?,Array.getElem?_push];rw [if_pos h1.symm];rfl
   rw [hx,←Array.foldl_toList]at hb;rcases tP (fun k=>acc.getD k 0) _ _ _ hb with hb|⟨e,he,hbe,hb⟩
   ·simp at hb
   ·refine⟨ops[i.val],e,by simp,by simpa using he,hbe, ?_⟩;rcases hb with hb|hb
    ·exact .inl hb
    ·refine .inr ?_;have hlt:e.on<i.val:=by
      rcases Nat.lt_or_ge e.on i.val with h'|h'
      ·exact h'
      ·exfalso;have:acc.getD e.on 0=0:=by
        rw [Array.getD_eq_getD_getElem?,Array.getElem?_eq_none (by omega)];rfl
       rw [this]at hb;simp at hb
     exact⟨hlt,by rw [hold _ _ hlt];exact hb⟩
  ·have hj':j<i.val:=(by omega);rw [hold _ _ hj']at hb;obtain⟨o,e,q1,q2,q3,q4⟩:=h2 j hj' b hb;refine⟨o,e,q1,q2,q3, ?_⟩;rcases q4 with q4|⟨q4,q5⟩
   ·exact .inl q4
   ·exact .inr ⟨q4,by rw [hold _ _ (by omega)];exact q5⟩
 rcases Nat.lt_or_ge j ops.size with hj|hj
 ·exact key.2 j hj b h
 ·exfalso;rw [Array.getD_eq_getD_getElem?,Array.getElem?_eq_none (by rw [key.1];exact hj)]at h;simp at h
def yw (ops:Array Oper)(listed:Array Bool):Prop:= ∀j o,ops[j]? =some o→listed.getD j false=true→ ∀e∈o.after,Region.binds .any e=true→listed.getD e.on false=true
theorem gM {listed:Array Bool}(hc:yw ops listed): ∀(j b:Nat),((Region.before ops).getD j 0).testBit b=true→(∀o,ops[j]? =some o→ ∀e∈o.after,Region.binds .any e=true→listed.getD e.on false=true)→listed.getD b false=true:=by
 intro j
 induction j using Nat.strongRecOn with
 |_ j ih=>
  intro b hb hr;obtain⟨o,e,h1,h2,h3,h4⟩:=wS ops j b hb;have hl:=hr o h1 e h2 h3;rcases h4 with rfl|⟨h4,h5⟩
  ·exact hl
  ·exact ih e.on h4 b h5 fun o' ho' e' he' hb'=>hc e.on o' ho' hl e' he' hb'
theorem mJ {listed:Array Bool}(hc:yw ops listed){j b:Nat}(hj:listed.getD j false=true)(hb:((Region.before ops).getD j 0).testBit b=true):listed.getD b false=true:=
 gM hc j b hb fun o ho e he hbe=>hc j o ho hj e he hbe
theorem yx {listed:Array Bool}(hsz:listed.size=ops.size)(hback: ∀j o,ops[j]? =some o→ ∀e∈o.after,Region.binds .any e=true→e.on<j)(h:Region.ready .any ops listed=[]):
  ∀j,j<ops.size→listed.getD j false=true:=by
 intro j
 induction j using Nat.strongRecOn with
 |_ j ih=>
  intro hj
  cases hl:listed.getD j false with
  |true=>rfl
  |false=>
   exfalso;have:j∈Region.ready .any ops listed:=by
    rw [mem_ready];refine⟨?_,ops[j],by simp,fun e he hb=> ?_⟩
    ·rw [Array.getD_eq_getD_getElem?]at hl⊢;rw [Array.getElem?_eq_getElem (by omega)]at hl⊢;exact hl
    ·have:=hback j ops[j] (by simp) e he hb;exact ih _ this (by omega)
   rw [h]at this;cases this
def jc (listed:Array Bool)(n:Nat):Nat:=((List.range n).filter fun j=> !listed.getD j false).length
theorem filter_lt {α:Type}{p q:α→Bool}{x:α}(h: ∀y,q y=true→p y=true)(hp:p x=true)(hq:q x=false): ∀l:List α,x∈l→(l.filter q).length<(l.filter p).length
 | [],hx=>by cases hx
 |y::l,hx=>by
  have hle: ∀l:List α,(l.filter q).length≤(l.filter p).length:=by
   intro l
   induction l with
   |nil=>simp
   |cons z l ih=>
    simp only [List.filter_cons]
    cases hqz:q z with
    |true=>simp [h z hqz,ih]
    |false=>cases hpz:p z<;>simp<;>omega
  rcases List.mem_cons.1 hx with rfl|hx
  ·simp only [List.filter_cons,hp,hq];have:=hle l;simp;omega
  ·have:=filter_lt h hp hq l hx;simp only [List.filter_cons]
   cases hqz:q y with
   |true=>simp [h y hqz];exact this
   |false=>cases hpz:p y<;>simp<;>omega
theorem rU {listed:Array Bool}{i j:Nat}(hi:i<listed.size):(listed.setIfInBounds i true).getD j false=true↔j=i∨listed.getD j false=true:=by
 by_cases e:j=i
 ·subst e;simp [hi]
 ·rw [getD_set_ne false (Ne.symm e)];simp [e]
theorem wT {listed:Array Bool}{i n:Nat}(hi:i<n)(hs:listed.size=n)(h:listed.getD i false=false):jc (listed.setIfInBounds i true) n<jc listed n:=by
 unfold jc;refine filter_lt (x:=i) (fun y hy=> ?_) (by simp [h]) ?_ _ (by simpa using hi)
 ·simp only [Bool.not_eq_true']at hy⊢
  cases hl:listed.getD y false with
  |false=>rfl
  |true=>
   have:=(rU (listed:=listed) (i:=i) (j:=y) (by omega)).2 (.inr hl);rw [this]at hy;cases hy
 ·have:=(rU (listed:=listed) (i:=i) (j:=i) (by omega)).2 (.inl rfl);simp [this]
theorem sP {listed:Array Bool}{n:Nat}(h:jc listed n=0): ∀j,j<n→listed.getD j false=true:=by
 unfold jc at h;intro j hj
 cases hl:listed.getD j false with
 |true=>rfl
 |false=>
  exfalso;have:j∈(List.range n).filter fun j=> !listed.getD j false:=List.mem_filter.2 ⟨by simpa using hj,by rw [hl];rfl⟩;rw [List.length_eq_zero_iff.1 h]at this;cases this
end
section
variable (K:Ctx) {fn:FuncId} {all:List Oper} {pre:Array Nat}
theorem wU: ∀l:List Nat,nd l=true→l.Nodup
 | [],_=>List.nodup_nil
 |x::r,h=>by
  simp only [nd,Bool.and_eq_true,Bool.not_eq_true']at h;refine List.nodup_cons.2 ⟨fun hx=> ?_,wU r h.2⟩;have:r.contains x=true:=(by simpa using hx);rw [this]at h;exact absurd h.1 (by simp)
theorem Gz (h:nd (all.filterMap (·.dst))=true): ∀{i j:Nat} {oi oj:Oper} {d:Nat},all[i]? =some oi→all[j]? =some oj→oi.dst=some d→oj.dst=some d→i=j:=by
 have hn:=wU _ h;clear h
 induction all with
 |nil=>intro i j oi oj d hi;simp at hi
 |cons o r ih=>
  have hmem: ∀(k:Nat) (ok:Oper) d,r[k]? =some ok→ok.dst=some d→d∈r.filterMap (·.dst):=fun k ok d hk hd=>
   List.mem_filterMap.2 ⟨ok,List.mem_of_getElem? hk,hd⟩
  have hn':(r.filterMap (·.dst)).Nodup:=by
   cases ho:o.dst with
   |none=>simpa [List.filterMap_cons,ho]using hn
   |some d=>rw [List.filterMap_cons,ho]at hn;exact(List.nodup_cons.1 hn).2
  have hne: ∀d,o.dst=some d→d∉r.filterMap (·.dst):=fun d hd=>by
   rw [List.filterMap_cons,hd]at hn;exact(List.nodup_cons.1 hn).1
  intro i j oi oj d hi hj hdi hdj
  cases i with
  |zero=>
   cases j with
   |zero=>rfl
   |succ j=>
    simp at hi hj;subst hi;exact absurd (hmem j oj d hj hdj) (hne d hdi)
  |succ i=>
   cases j with
   |zero=>
    simp at hi hj;subst hj;exact absurd (hmem i oi d hi hdi) (hne d hdj)
   |succ j=>
    simp at hi hj;rw [ih hn' hi hj hdi hdj]
structure rV (K:Ctx)(fn:FuncId)(all:List Oper)(pre:Array Nat):Prop where
 nodup:nd (all.filterMap (·.dst))=true
 back: ∀(j:Nat) (o:Oper),all[j]? =some o→ ∀e∈o.after,Region.binds .any e=true→e.on<j
 dep: ∀(i j:Nat) (oi oj:Oper) (d:Nat),all[i]? =some oi→all[j]? =some oj→oi.dst=some d→(d∈gy K fn oj∨d∈jS all oj)→i=j∨(i<j∧(pre.getD j 0).testBit i=true)∨(j<i∧(pre.getD i 0).testBit j=true)
 T9: ∀(i j:Nat) (oi oj:Oper) (d:Nat),all[i]? =some oi→all[j]? =some oj→oi.dst=some d→b7 oi=true→d∉jS all oj
 Ua: ∀(i j:Nat) (oi oj:Oper) (d:Nat),all[i]? =some oi→all[j]? =some oj→oi.dst=some d→b7 oi=true→d∈gy K fn oj→bN K fn oj=false∧b7 oj=false
 Ub: ∀(i j:Nat) (oi oj:Oper),all[i]? =some oi→all[j]? =some oj→b7 oi=true→bN K fn oj=false→b7 oj=false→i<j→(pre.getD j 0).testBit i=true
theorem fV {o:Oper}(h:b7 o=true): ∃d t,o.dst=some d∧o.op= .alloc t∧o.guard=none:=by
 obtain⟨dst,op,type,pos,after,guard⟩:=o;unfold b7 at h;split at h
 ·rename_i t d h1 h2 h3;exact⟨_,_,h2,h1,h3⟩
 ·cases h
theorem mem_zipIdx' {α:Type}{l:List α}{i:Nat}{x:α}(h:l[i]? =some x):(x,i)∈l.zipIdx:=by
 rw [List.mem_zipIdx_iff_getElem?];exact h
theorem wV (h:u0 K fn all pre=true):rV K fn all pre:=by
 unfold u0 at h;simp only [Bool.and_eq_true]at h;obtain⟨h1,h2⟩:=h;have hdep: ∀(i j:Nat) (oi oj:Oper),all[i]? =some oi→all[j]? =some oj→tQ K fn all pre oj j oi i=true:=fun i j oi oj hi hj=>by
  have:=List.all_eq_true.1 h2 _ (mem_zipIdx' hj);simp only [Bool.and_eq_true]at this;exact List.all_eq_true.1 this.2 _ (mem_zipIdx' hi)
 refine⟨h1,fun j o hj e he hb=> ?_,fun i j oi oj d hi hj hd hD=> ?_,fun i j oi oj d hi hj hd ha hD=> ?_,fun i j oi oj d hi hj hd ha hD=> ?_,fun i j oi oj hi hj ha hp hna hlt=> ?_⟩
 ·have:=List.all_eq_true.1 h2 _ (mem_zipIdx' hj);simp only [Bool.and_eq_true]at this;have:=Array.all_eq_true_iff_forall_mem.1 this.1 e he;simpa [hb]using this
 ·have:=hdep i j oi oj hi hj;unfold tQ at this;simp only [hd,Bool.and_eq_true,Bool.or_eq_true,Bool.not_eq_true',beq_iff_eq,decide_eq_true_eq]at this;have hc:((gy K fn oj).contains d||(jS all oj).contains d)=true:=by
   rcases hD with hD|hD
   ·have:(gy K fn oj).contains d=true:=(by simpa using hD);rw [this];rfl
   ·have:(jS all oj).contains d=true:=(by simpa using hD);rw [this];simp
  rcases this.1.1 with ((h'|h')|h')|h'
  ·rw [hc]at h';cases h'
  ·exact .inl h'
  ·exact .inr (.inl h')
  ·exact .inr (.inr h')
 ·have:=hdep i j oi oj hi hj;unfold tQ at this;simp only [hd,ha,Bool.and_eq_true,Bool.or_eq_true,Bool.not_eq_true',Bool.not_true,Bool.false_eq_true,false_or]at this;have hc:(jS all oj).contains d=true:=(by simpa using hD);rw [hc]at this;exact absurd this.1.2.1 (by simp)
 ·have:=hdep i j oi oj hi hj;unfold tQ at this;simp only [hd,ha,Bool.and_eq_true,Bool.or_eq_true,Bool.not_eq_true',Bool.not_true,Bool.false_eq_true,false_or]at this;have hc:(gy K fn oj).contains d=true:=(by simpa using hD);rcases this.1.2.2 with h'|h'
  ·rw [hc]at h';cases h'
  ·exact h'
 ·have:=hdep i j oi oj hi hj;unfold tQ at this;simp only [ha,hp,hna,Bool.and_eq_true,Bool.or_eq_true,Bool.not_eq_true',Bool.not_true,Bool.false_eq_true,false_or,decide_eq_true_eq]at this;rcases this.2 with h'|h'
  ·omega
  ·exact h'
theorem sQ {s s':aS}{o:Oper}(h: ∀t,t∈jS all o→look s t=look s' t):cR all s o=cR all s' o:=by
 unfold cR;unfold jS at h
 cases hg:o.guard with
 |none=>rfl
 |some x=>
  obtain⟨j,want⟩:=x;simp only [hg]at h⊢
  cases hj:all[j]? with
  |none=>rfl
  |some oj=>
   simp only [hj]at h⊢
   cases hd:oj.dst with
   |none=>rfl
   |some d=>simp only;rw [h d (by simp [hd])]
theorem wW {o:Oper}{f:Operand}{args:List Operand}(h:eP o=some (f,args)): ∀x∈f::args,x∈o.op.operands.toList:=by
 obtain⟨dst,op,type,pos,after,guard⟩:=o;unfold eP at h;simp only at h;split at h
 ·rename_i f0 args0 ats;simp only [Option.some.injEq,Prod.mk.injEq]at h;obtain⟨rfl,rfl⟩:=h;intro x hx;simp only [Op.operands,Call.operands];simpa using hx
 ·cases h
theorem pP {rec:Rec}{o:Oper}{s s':aS}{H:ae}(h: ∀t,t∈gy K fn o→look s t=look s' t):cf K rec fn o s H=cf K rec fn o s' H:=by
 unfold cf
 cases hg:eP o with
 |none=>exact AW K h
 |some x=>
  obtain⟨f,args⟩:=x
  have hx: ∀x∈f::args,ev s x=ev s' x:=fun x hx=>wP fun t ht=>h t (by
   unfold gy;exact List.mem_append_left _ (List.mem_append_left _ (rS (ht▸wW hg x hx))))
  simp only;rw [hx f (List.mem_cons_self ..),jR fun x h=>hx x (List.mem_cons_of_mem _ h)]
  cases hl:K.lift fn (o.dst.getD 0)with
  |none=>rfl
  |some t=>
   have e:look s t=look s' t:=h t (by
    unfold gy;exact List.mem_append_right _ (by rw [hl];simp))
   simp only [e]
theorem fg (s:aS)(t:Nat): ∀l:List Nat,t∈l→look (bu s l) t=look s t
 |x::r,h=>by
  simp only [bu,look];split
  ·rename_i e;rw [e]
  ·rename_i e;exact fg s t r ((List.mem_cons.1 h).resolve_left e)
theorem rY {w:World}{S:Nat→Prop}{μ:Mu}{a:Act}{s:aS}{k:Nat}(D:List Nat)(h: ∀t,t∈D→ax w S μ k (a.tmps.getD t undef) (look s t)): ∀t,ax w S μ k (a.tmps.getD t undef) (look (bu s D) t):=by
 intro t;by_cases ht:t∈D
 ·rw [fg s t D ht];exact h t ht
 ·have:look (bu s D) t=aG:=by
   clear h
   induction D with
   |nil=>rfl
   |cons x r ih=>
    simp only [bu,look];have hne:t≠x:=fun e=>ht (by rw [e];exact List.mem_cons_self ..);rw [if_neg hne];exact ih fun h=>ht (List.mem_cons_of_mem _ h)
  rw [this];exact cW _
end
theorem aN.wN {w:World} {S:Nat→Prop} {μ:Mu} {H:ae} (hH:aN w S μ H) {nm:Nm} (hg:H.get nm=none) (hl:nm.1<H.length) {b:Nat} (hb:b<w.heap.size) (hno: ∀n t,μ n t≠some b) {x:dW}
  (hx:eH w S (μ.jF nm 0 b) nm x):aN w S (μ.jF nm 0 b) (H.set nm x):=by
 have hnm: ∀t c,μ nm t≠some c:=fun t c h=>(by obtain⟨y,hy⟩:=hH.je _ _ _ h;rw [hg]at hy;cases hy);have cases': ∀n t c,μ.jF nm 0 b n t=some c→(n=nm∧t=0∧c=b)∨(n≠nm∧μ n t=some c):=fun n t c h=>by
  by_cases e:n=nm
  ·subst e;by_cases et:t=0
   ·subst et;rw [Mu.bc]at h;cases h;exact .inl ⟨rfl,rfl,rfl⟩
   ·rw [Mu.bX μ _ _ et]at h;exact absurd h (hnm t c)
  ·rw [Mu.cB μ _ _ _ e]at h;exact .inr ⟨e,h⟩
 refine⟨fun n y hy t c hc=> ?_,fun n t c hc=> ?_,fun n n' t t' c hc hc'=> ?_,fun n t c hc=> ?_,hH.slt⟩
 ·by_cases e:n=nm
  ·subst e;rw [ae.cw _ hl]at hy;cases hy;exact hx
  ·rw [ae.a9 _ e]at hy;rw [Mu.cB μ _ _ _ e]at hc;exact(hH.fY n y hy t c hc).mono (fun _ h=>h) (fun _ _=>rfl) (fun _ _ h=>h) (fun n' t b' _ h=>zr hH hg _ _ n' t b' h) (fun t=>Mu.cB μ _ _ _ e) (fun _ _ _=>rfl) (fun _ _ _ h=>h)
 ·by_cases e:n=nm
  ·subst e;exact⟨x,ae.cw _ hl⟩
  ·rw [Mu.cB μ _ _ _ e]at hc;obtain⟨y,hy⟩:=hH.je n t c hc;exact⟨y,by rw [ae.a9 _ e];exact hy⟩
 ·rcases cases' n t c hc with ⟨h1,h2,h3⟩|⟨h1,h2⟩<;>rcases cases' n' t' c hc' with ⟨k1,k2,k3⟩|⟨k1,k2⟩
  ·rw [h1,k1]
  ·subst h3;exact absurd k2 (hno _ _)
  ·subst k3;exact absurd h2 (hno _ _)
  ·exact hH.fF _ _ _ _ _ h2 k2
 ·rcases cases' n t c hc with ⟨h1,h2,h3⟩|⟨h1,h2⟩
  ·subst h3;exact hb
  ·exact hH.lt _ _ _ h2
theorem Ev.wN {ℓ : Nat} {w0 w : World} {S0 S : Nat → Prop} {μ0 μ : Mu} (h : Ev ℓ w0 S0 μ0 w S μ) {nm : Nm} {b : Nat} (hnm : ∀ t c, μ nm t ≠ some c) (hb : w0.heap.size ≤ b) : Ev ℓ w0 S0 μ0 w S (μ.jF nm 0 b) :=
  { h with
    mu := fun n t c hl hm => by
      have := h.mu n t c hl hm
      by_cases e : n = nm
      · subst e; exact absurd this (hnm _ _)
      · rw [Mu.cB μ _ _ _ e]; exact this
    own := fun n t c hm hc => by
      by_cases e : n = nm
      · subst e
        by_cases et : t = 0
        · subst et; rw [Mu.bc] at hm; cases hm; omega
        · rw [Mu.bX μ _ _ et] at hm; exact absurd hm (hnm _ _)
      · rw [Mu.cB μ _ _ _ e] at hm; exact h.own n t c hm hc }
end
end Go.Gh
