/- Texts joined: the evaluator over ghost values, its soundness, the walks. Spaces struck and names made short by a program, for the size. -/
import Derived.Test.YtkcmcjohoockcaaGc8b
import Derived.Test.YtkcmcjohoockcaaGc8j
import Derived.ChangeKeysEq
import Derived.Test.YtkcmcjohoockcaaGc8e
import Derived.Test.YtkcmcjohoockcaaGc8f
namespace Go.Gh
open Go.Proofs
set_option linter.unusedVariables false
set_option linter.unusedSimpArgs false
set_option linter.unnecessarySimpa false
set_option maxRecDepth 100000
set_option maxHeartbeats 8000000
section
open Go.WideShapes
def jx (f:TypeId→Option (List SK)):List TypeId→Option (List SK)
 | []=>some []
 |t::r=>match f t,jx f r with|some a,some b=>some (a++b)|_,_=>none
def eQ (P:Program):Nat→TypeId→Option (List SK)
 |0,_=>none
 |n+1,t=>
  match P.underlying t with
  |some .bool=>if P.cellsOf t=1 then some [.bool]else none
  |some (.int k)=>if P.cellsOf t=1 then some [.int k]else none
  |some .string=>if P.cellsOf t=1 then some [.str]else none
  |some (.struct fs)=>if du P (P.cellsOf t) 0 (fs.toList.map fun f=>(f.offset,f.type)) && fs.toList.all (·.name != "_") && !P.stoodInHeld t then jx (eQ P n) (fs.toList.map (·.type))else none
  |some (.array m e)=>if decide (0<m) && du P (P.cellsOf t) 0 ((List.range m).map fun i=>(i*P.cellsOf e,e))then jx (eQ P n) ((List.range m).map fun _=>e)else none
  |_=>none
def valOf (P:Program)(t:TypeId)(l:List Value):Value:=
 match P.underlying t with
 |some (.struct _)|some (.array _ _)=> .agg l.toArray
 |_=>l.headD undef
theorem kG: ∀(k1 k2:List SK) (a b:List PV) (q:Bool),bK (k1++k2) a b=some q→
  ∃q1 q2,bK k1 (a.take k1.length) (b.take k1.length)=some q1∧bK k2 (a.drop k1.length) (b.drop k1.length)=some q2∧q=(q1 && q2)
 | [],k2,a,b,q,h=>⟨true,q,rfl,h,by simp⟩
 |s::ks,k2,[],b,q,h=>by cases s<;>cases b<;>simp [bK]at h
 |s::ks,k2,x::a,[],q,h=>by cases s<;>cases x<;>simp [bK]at h
 |s::ks,k2,x::a,y::b,q,h=>by
  have key: ∀q',bK (ks++k2) a b=some q'→ ∃q1 q2,bK ks (a.take ks.length) (b.take ks.length)=some q1∧bK k2 (a.drop ks.length) (b.drop ks.length)=some q2∧q'=(q1 && q2):=
   fun q' h=>kG ks k2 a b q' h
  cases s with
  |int k=>
   cases x<;>cases y<;>simp only [List.cons_append,bK]at h
   all_goals first|(cases h;done)|skip
   split at h
   ·rename_i hk;split at h
    ·rename_i q' hq';obtain⟨q1,q2,e1,e2,rfl⟩:=key q' hq';simp only [Option.some.injEq]at h;exact⟨_,q2,by simp only [List.length_cons,List.take_succ_cons,bK,hk,and_self,if_true,e1];rfl,by simpa using e2,by rw [←h,Bool.and_assoc]⟩
    ·cases h
   ·cases h
  |bool=>
   cases x<;>cases y<;>simp only [List.cons_append,bK]at h
   all_goals first|(cases h;done)|skip
   split at h
   ·rename_i q' hq';obtain⟨q1,q2,e1,e2,rfl⟩:=key q' hq';simp only [Option.some.injEq]at h;exact⟨_,q2,by simp only [List.length_cons,List.take_succ_cons,bK,e1];rfl,by simpa using e2,by rw [←h,Bool.and_assoc]⟩
   ·cases h
  |str=>
   cases x<;>cases y<;>simp only [List.cons_append,bK]at h
   all_goals first|(cases h;done)|skip
   split at h
   ·rename_i q' hq';obtain⟨q1,q2,e1,e2,rfl⟩:=key q' hq';simp only [Option.some.injEq]at h;exact⟨_,q2,by simp only [List.length_cons,List.take_succ_cons,bK,e1];rfl,by simpa using e2,by rw [←h,Bool.and_assoc]⟩
   ·cases h
theorem gE: ∀(k:List SK) (a b:List PV) (q:Bool),bK k a b=some q→a.length=k.length∧b.length=k.length
 | [],a,b,q,h=>by cases a<;>cases b<;>simp_all [bK]
 |s::ks,[],b,q,h=>by cases s<;>cases b<;>simp [bK]at h
 |s::ks,x::a,[],q,h=>by cases s<;>cases x<;>simp [bK]at h
 |s::ks,x::a,y::b,q,h=>by
  have key: ∀q',bK ks a b=some q'→(x::a).length=(s::ks).length∧(y::b).length=(s::ks).length:=fun q' h=>by
   have:=gE ks a b q' h;simp [this.1,this.2]
  cases s with
  |int k=>
   cases x<;>cases y<;>simp only [bK]at h
   all_goals first|(cases h;done)|skip
   split at h
   ·split at h
    ·rename_i q' hq';exact key q' hq'
    ·cases h
   ·cases h
  |bool=>
   cases x<;>cases y<;>simp only [bK]at h
   all_goals first|(cases h;done)|skip
   split at h
   ·rename_i q' hq';exact key q' hq'
   ·cases h
  |str=>
   cases x<;>cases y<;>simp only [bK]at h
   all_goals first|(cases h;done)|skip
   split at h
   ·rename_i q' hq';exact key q' hq'
   ·cases h
section
variable {P:Program}
theorem fQ {f:TypeId→Option (List SK)}{t:TypeId}{r:List TypeId}{ks:List SK}(h:jx f (t::r)=some ks): ∃a b,f t=some a∧jx f r=some b∧ks=a++b:=by
 simp only [jx]at h;split at h
 ·rename_i a b h1 h2;simp only [Option.some.injEq]at h;exact⟨a,b,h1,h2,h.symm⟩
 ·cases h
theorem nf {n : Nat} (hf : ∀ t ks, eQ P n t = some ks → ks.length = P.cellsOf t) : ∀ (l : List (Nat × TypeId)) (o tot : Nat) (ks : List SK), du P tot o l = true → jx (eQ P n) (l.map (·.2)) = some ks → o + ks.length = tot
  | [], o, tot, ks, h, hk => by
    simp only [List.map_nil, jx, Option.some.injEq] at hk
    subst hk
    simpa [du] using h
  | (off, t) :: r, o, tot, ks, h, hk => by
    simp only [du, Bool.and_eq_true, beq_iff_eq] at h
    obtain ⟨a, b, h1, h2, rfl⟩ := fQ (by simpa using hk)
    have := nf hf r _ _ _ h.2 h2
    rw [List.length_append, hf t a h1]
    omega
theorem jT : ∀ (l : List (Nat × TypeId)) (o tot : Nat), du P tot o l = true → o ≤ tot
  | [], o, tot, h => by simp only [du, beq_iff_eq] at h; omega
  | (off, t) :: r, o, tot, h => by
    simp only [du, Bool.and_eq_true, beq_iff_eq] at h
    have := jT r _ _ h.2
    omega
theorem fW: ∀(n:Nat) (t:TypeId) (ks:List SK),eQ P n t=some ks→ks.length=P.cellsOf t
 |0,t,ks,h=>by simp [eQ]at h
 |n+1,t,ks,h=>by
  unfold eQ at h;split at h
  ·split at h
   ·rename_i e;simp at h;subst h;simp [e]
   ·cases h
  ·split at h
   ·rename_i e;simp at h;subst h;simp [e]
   ·cases h
  ·split at h
   ·rename_i e;simp at h;subst h;simp [e]
   ·cases h
  ·split at h
   ·rename_i hc;simp only [Bool.and_eq_true]at hc;have:=nf (fW n) _ 0 _ ks hc.1.1 (by rw [List.map_map];exact h);omega
   ·cases h
  ·split at h
   ·rename_i hc;simp only [Bool.and_eq_true]at hc;have:=nf (fW n) _ 0 _ ks hc.2 (by rw [List.map_map];exact h);omega
   ·cases h
  ·cases h
theorem tR {n:Nat}{t:TypeId}{ks:List SK}(h:eQ P n t=some ks): ∃kd,P.underlying t=some kd:=by
 cases n with
 |zero=>simp [eQ]at h
 |succ n=>
  cases hu:P.underlying t with
  |none=>simp [eQ,hu]at h
  |some kd=>exact⟨kd,rfl⟩
theorem fo (w:World){n:Nat}{t:TypeId}{ks:List SK}(h:eQ P n t=some ks)(xs:List Value)(off:Nat)(hlen:off+P.cellsOf t≤xs.length):
  (part t xs.toArray off).run P w= .ok (valOf P t ((xs.drop off).take (P.cellsOf t))) w:=by
 cases n with
 |zero=>simp [eQ]at h
 |succ n=>
  unfold eQ at h;have hone:P.cellsOf t=1→((xs.drop off).take (P.cellsOf t)).headD undef=xs.getD off undef∧off<xs.length:=by
   intro e;rw [e]at hlen⊢;refine⟨?_,by omega⟩;simp [List.headD_eq_head?_getD,List.head?_take,List.head?_drop,List.getD_eq_getElem?_getD]
  have hagg: ∀kd,P.underlying t=some kd→(∃fs,kd= .struct fs)∨(∃m e,kd= .array m e)→(part t xs.toArray off).run P w= .ok (.agg ((xs.drop off).take (P.cellsOf t)).toArray) w:=by
   intro kd hu hk;obtain⟨i,hi⟩:=info_of_underlying hu;have e:xs.toArray.extract off (off+P.cellsOf t)=((xs.drop off).take (P.cellsOf t)).toArray:=by
    apply Array.toList_inj.1;simp [Array.toList_extract,List.extract]
   rcases hk with ⟨fs,rfl⟩|⟨m,e',rfl⟩<;>simp [part,isAgg,run_underlying hu,run_sizeOf w hi,e]
  unfold valOf;split at h
  ·rename_i ht;split at h
   ·rename_i e;rw [(hone e).1];have:=(hone e).2;simp [part,isAgg,run_underlying ht,this,List.getD_eq_getElem?_getD,ht]
   ·cases h
  ·rename_i ht;split at h
   ·rename_i e;rw [(hone e).1];have:=(hone e).2;simp [part,isAgg,run_underlying ht,this,List.getD_eq_getElem?_getD,ht]
   ·cases h
  ·rename_i ht;split at h
   ·rename_i e;rw [(hone e).1];have:=(hone e).2;simp [part,isAgg,run_underlying ht,this,List.getD_eq_getElem?_getD,ht]
   ·cases h
  ·rename_i fs ht;simp only [ht];exact hagg _ ht (.inl ⟨_,rfl⟩)
  ·rename_i m e ht;simp only [ht];exact hagg _ ht (.inr ⟨_,_,rfl⟩)
  ·cases h
def CG (P:Program)(n d:Nat)(t:TypeId):Prop:= ∀ks,eQ P n t=some ks→ ∀(a b:List PV) (q:Bool),bK ks a b=some q→
 ∀w,(Op.equalIn d t (valOf P t (a.map bQ)) (valOf P t (b.map bQ))).run P w= .ok q w
def Uc (P:Program)(n d:Nat)(t:TypeId):Prop:= ∀ks,eQ P n t=some ks→ ∀(a:List PV),a.length=ks.length→ ∀e w,(Instr.checkKey e d t (valOf P t (a.map bQ))).run P w= .ok () w
theorem jy {n d:Nat}(ih: ∀t,CG P n d t): ∀(fs:List Field) (o:Nat) (ks:List SK) (a b:List PV) (q:Bool),du P a.length o (fs.map fun f=>(f.offset,f.type))=true→(fs.all (·.name != "_"))=true→
  jx (eQ P n) (fs.map (·.type))=some ks→a.length=b.length→bK ks (a.drop o) (b.drop o)=some q→ ∀w,(Op.eqFields d (a.map bQ).toArray (b.map bQ).toArray fs).run P w= .ok q w
 | [],o,ks,a,b,q,hc,hn,hk,hl,he,w=>by
  simp only [List.map_nil,jx,Option.some.injEq]at hk;subst hk;have hl1:=gE _ _ _ _ he;have e1:a.drop o=[]:=List.length_eq_zero_iff.1 hl1.1;have e2:b.drop o=[]:=List.length_eq_zero_iff.1 hl1.2;rw [e1,e2]at he;simp only [bK,Option.some.injEq]at he;subst he;simp [Op.eqFields]
 |f::fs,o,ks,a,b,q,hc,hn,hk,hl,he,w=>by
  simp only [List.map_cons,du,Bool.and_eq_true,beq_iff_eq]at hc;obtain⟨rfl,hc⟩:=hc;simp only [List.all_cons,Bool.and_eq_true,bne_iff_ne,ne_eq]at hn;obtain⟨k1,k2,h1,h2,rfl⟩:=fQ (by simpa using hk);obtain⟨q1,q2,g1,g2,rfl⟩:=kG k1 k2 _ _ q he;have hk1:=fW n _ _ h1;have hle:=jT _ _ _ hc;have hkl:=gE _ _ _ _ he;simp only [List.length_drop,List.length_append]at hkl;rw [List.drop_drop,List.drop_drop]at g2;rw [hk1]at g1 g2;have p1:=fo w h1 (a.map bQ) f.offset (by simp;omega);have p2:=fo w h1 (b.map bQ) f.offset (by simp;omega);rw [←List.map_drop,←List.map_take]at p1 p2;have p3:=ih f.type k1 h1 _ _ q1 g1 w;have rest:=jy ih fs _ k2 a b q2 hc (by simpa using hn.2) h2 hl g2 w;simp only [Op.eqFields,hn.1,ne_eq,not_false_eq_true,if_true,Sem.run_bind,p1,p2,p3,Result.andThen_ok];cases q1
  ·simp
  ·simpa using rest
theorem jU {n d:Nat}{e:TypeId}(ih: ∀t,CG P n d t): ∀(is:List Nat) (o:Nat) (ks:List SK) (a b:List PV) (q:Bool),du P a.length o (is.map fun i=>(i*P.cellsOf e,e))=true→
  jx (eQ P n) (is.map fun _=>e)=some ks→a.length=b.length→bK ks (a.drop o) (b.drop o)=some q→ ∀w,(Op.eqItems d e (P.cellsOf e) (a.map bQ).toArray (b.map bQ).toArray is).run P w= .ok q w
 | [],o,ks,a,b,q,hc,hk,hl,he,w=>by
  simp only [List.map_nil,jx,Option.some.injEq]at hk;subst hk;have hl1:=gE _ _ _ _ he;have e1:a.drop o=[]:=List.length_eq_zero_iff.1 hl1.1;have e2:b.drop o=[]:=List.length_eq_zero_iff.1 hl1.2;rw [e1,e2]at he;simp only [bK,Option.some.injEq]at he;subst he;simp [Op.eqItems]
 |i::is,o,ks,a,b,q,hc,hk,hl,he,w=>by
  simp only [List.map_cons,du,Bool.and_eq_true,beq_iff_eq]at hc;obtain⟨rfl,hc⟩:=hc;obtain⟨k1,k2,h1,h2,rfl⟩:=fQ (by simpa using hk);obtain⟨q1,q2,g1,g2,rfl⟩:=kG k1 k2 _ _ q he;have hk1:=fW n _ _ h1;have hle:=jT _ _ _ hc;have hkl:=gE _ _ _ _ he;simp only [List.length_drop,List.length_append]at hkl;rw [List.drop_drop,List.drop_drop]at g2;rw [hk1]at g1 g2;have p1:=fo w h1 (a.map bQ) (i*P.cellsOf e) (by simp;omega);have p2:=fo w h1 (b.map bQ) (i*P.cellsOf e) (by simp;omega);rw [←List.map_drop,←List.map_take]at p1 p2;have p3:=ih e k1 h1 _ _ q1 g1 w;have rest:=jU ih is _ k2 a b q2 hc h2 hl g2 w;simp only [Op.eqItems,Sem.run_bind,p1,p2,p3,Result.andThen_ok];cases q1
  ·simp
  ·simpa using rest
theorem tS (d:Nat): ∀(n:Nat) (t:TypeId),CG P n (d+n) t
 |0,t=>fun ks h=>by simp [eQ]at h
 |n+1,t=>fun ks h a b q he w=>by
  have ih:=fun t=>tS d n t;have hl:=fW _ _ _ h;have hl2:=gE _ _ _ _ he;unfold eQ at h;unfold valOf;rw [show d+(n+1)=(d+n)+1 from rfl]
  split at h
  ·rename_i ht;split at h
   ·simp only [Option.some.injEq]at h;subst h
    match a,b,he with
    | [.bool x],[.bool y],he=>
     simp only [bK,Option.some.injEq,Bool.and_true]at he;simp only [List.map_cons,List.map_nil,List.headD_cons,bQ,ht];rw [run_equalIn_bool' w _ _ _ _ ht,he]
   ·cases h
  ·rename_i k ht;split at h
   ·simp only [Option.some.injEq]at h;subst h
    match a,b,he with
    | [.int k1 x],[.int k2 y],he=>
     simp only [bK]at he;split at he
     ·rename_i hk;simp only [Option.some.injEq,Bool.and_true]at he;obtain⟨rfl,rfl⟩:=hk;simp only [List.map_cons,List.map_nil,List.headD_cons,bQ,ht];rw [run_equalIn_int w _ _ _ _ _ _ ht,‹(x==y)=q›]
     ·cases he
   ·cases h
  ·rename_i ht;split at h
   ·simp only [Option.some.injEq]at h;subst h
    match a,b,he with
    | [.str x],[.str y],he=>
     simp only [bK,Option.some.injEq,Bool.and_true]at he;simp only [List.map_cons,List.map_nil,List.headD_cons,bQ,ht];rw [run_equalIn_string w _ _ _ _ ht];simp [ByteArray.toList_eq,he]
   ·cases h
  ·rename_i fs ht;split at h
   ·rename_i hc;simp only [Bool.and_eq_true,Bool.not_eq_true']at hc;have hfo:P.fieldsOf t=fs:=(by simp [Program.fieldsOf,ht]);simp only [ht];rw [run_equalIn_struct w _ _ _ _ (by rw [hfo];exact ht) hc.2,hfo];exact jy ih fs.toList 0 ks a b q (by rw [hl2.1,hl];exact hc.1.1) hc.1.2 h (by omega) (by simpa using he) w
   ·cases h
  ·rename_i m e ht;split at h
   ·rename_i hc;simp only [Bool.and_eq_true,decide_eq_true_eq]at hc;have hinf: ∃i,P.info? e=some i:=by
     obtain⟨m,rfl⟩: ∃m',m=m'+1:=⟨m-1,by omega⟩;rw [List.range_succ_eq_map,List.map_cons]at h;obtain⟨k1,_,h1,_⟩:=fQ h;obtain⟨kd,hu⟩:=tR h1;exact info_of_underlying hu
    obtain⟨i,hi⟩:=hinf;simp only [ht];rw [run_equalIn_array w _ _ _ ht hi];exact jU ih (List.range m) 0 ks a b q (by rw [hl2.1,hl];exact hc.2) h (by omega) (by simpa using he) w
   ·cases h
  ·cases h
theorem tT (d:Nat): ∀(n:Nat) (t:TypeId),Uc P n (d+n) t
 |0,t=>fun ks h=>by simp [eQ]at h
 |n+1,t=>fun ks h a hal e w=>by
  have ih:=fun t=>tT d n t;have hl:=fW _ _ _ h;unfold eQ at h;unfold valOf;rw [show d+(n+1)=(d+n)+1 from rfl,Instr.checkKey]
  split at h
  ·rename_i ht;simp only [ht,Sem.run_bind,run_underlying ht,Result.andThen_ok,Sem.run_pure]
  ·rename_i k ht;simp only [ht,Sem.run_bind,run_underlying ht,Result.andThen_ok,Sem.run_pure]
  ·rename_i ht;simp only [ht,Sem.run_bind,run_underlying ht,Result.andThen_ok,Sem.run_pure]
  ·rename_i fs ht;split at h
   ·rename_i hc;simp only [Bool.and_eq_true,Bool.not_eq_true']at hc;simp only [ht,Sem.run_bind,run_underlying ht,Result.andThen_ok];rw [←Array.forIn_toList]
    have key: ∀(L:List Field) (o:Nat) (ks:List SK),du P a.length o (L.map fun f=>(f.offset,f.type))=true→(L.all (·.name != "_"))=true→jx (eQ P n) (L.map (·.type))=some ks→
      (forIn L PUnit.unit (fun f (_:PUnit)=>if f.name≠ "_" then (do
       let p←part f.type (a.map bQ).toArray f.offset
       Instr.checkKey e (d+n) f.type p
       pure (ForInStep.yield PUnit.unit))else pure (ForInStep.yield PUnit.unit)):Sem PUnit).run P w= .ok PUnit.unit w:=by
     intro L
     induction L with
     |nil=>intro o ks _ _ _;simp
     |cons f L ihL=>
      intro o ks hc hn hk;simp only [List.map_cons,du,Bool.and_eq_true,beq_iff_eq]at hc;obtain⟨rfl,hc⟩:=hc;simp only [List.all_cons,Bool.and_eq_true,bne_iff_ne,ne_eq]at hn;obtain⟨k1,k2,h1,h2,rfl⟩:=fQ (by simpa using hk);have hk1:=fW n _ _ h1;have hle:=jT _ _ _ hc;have p1:=fo w h1 (a.map bQ) f.offset (by simp;omega);rw [←List.map_drop,←List.map_take]at p1;have p2:=ih f.type k1 h1 ((a.drop f.offset).take (P.cellsOf f.type)) (by simp;omega) e w;have:=ihL _ _ hc (by simpa using hn.2) h2;simp only [List.forIn_cons,Sem.run_bind,hn.1,ne_eq,not_false_eq_true,if_true,p1,p2,Result.andThen_ok,Sem.run_pure];exact this
    have:=key fs.toList 0 ks (by rw [hal,hl];exact hc.1.1) hc.1.2 h;rw [this];rfl
   ·cases h
  ·rename_i m el ht;split at h
   ·rename_i hc;simp only [Bool.and_eq_true,decide_eq_true_eq]at hc;have hinf: ∃i,P.info? el=some i:=by
     obtain⟨m,rfl⟩: ∃m',m=m'+1:=⟨m-1,by omega⟩;rw [List.range_succ_eq_map,List.map_cons]at h;obtain⟨k1,_,h1,_⟩:=fQ h;obtain⟨kd,hu⟩:=tR h1;exact info_of_underlying hu
    obtain⟨i,hi⟩:=hinf;simp only [ht,Sem.run_bind,run_underlying ht,Result.andThen_ok];simp only [Std.Legacy.Range.forIn_eq_forIn_range',Std.Legacy.Range.size,Nat.sub_zero,Nat.add_one_sub_one,Nat.div_one];rw [←List.range_eq_range']
    have key: ∀(L:List Nat) (o:Nat) (ks:List SK),du P a.length o (L.map fun i=>(i*P.cellsOf el,el))=true→jx (eQ P n) (L.map fun _=>el)=some ks→
      (forIn L PUnit.unit (fun i (_:PUnit)=>do
       Instr.checkKey e (d+n) el (←part el (a.map bQ).toArray (i*(←sizeOf el)))
       pure (ForInStep.yield PUnit.unit)):Sem PUnit).run P w= .ok PUnit.unit w:=by
     intro L
     induction L with
     |nil=>intro o ks _ _;simp
     |cons j L ihL=>
      intro o ks hc hk;simp only [List.map_cons,du,Bool.and_eq_true,beq_iff_eq]at hc;obtain⟨rfl,hc⟩:=hc;obtain⟨k1,k2,h1,h2,rfl⟩:=fQ (by simpa using hk);have hk1:=fW n _ _ h1;have hle:=jT _ _ _ hc;have p1:=fo w h1 (a.map bQ) (j*P.cellsOf el) (by simp;omega);rw [←List.map_drop,←List.map_take]at p1;have p2:=ih el k1 h1 ((a.drop (j*P.cellsOf el)).take (P.cellsOf el)) (by simp;omega) e w;have:=ihL _ _ hc h2;simp only [List.forIn_cons,Sem.run_bind,run_sizeOf w hi,p1,p2,Result.andThen_ok,Sem.run_pure];exact this
    have:=key (List.range m) 0 ks (by rw [hal,hl];exact hc.2) h;rw [this];rfl
   ·cases h
  ·cases h
theorem GA {t:TypeId}{ks:List SK}(n:Nat)(hn:n≤10000)(hg:P.eqGuardType P.depth t=false)(hk:eQ P n t=some ks)(ha:dC P t=some true):LU P t ks:=by
 refine⟨hg,fun a b q h w=>⟨?_,fun e=> ?_⟩⟩
 ·have h1:=tS (P:=P) (10000-n) n t ks hk a b q h w;rw [Nat.sub_add_cancel hn]at h1;unfold valOf at h1;unfold dC at ha;split at ha<;>rename_i hu<;>first|(rw [hu]at h1;exact h1)|(cases ha)
 ·have h1:=tT (P:=P) (10000-n) n t ks hk a (gE _ _ _ _ h).1 e w;rw [Nat.sub_add_cancel hn]at h1;unfold valOf at h1;unfold dC at ha;split at ha<;>rename_i hu<;>first|(rw [hu]at h1;exact h1)|(cases ha)
end
end
section
theorem rZ (P:Program)(w:World)(d:Nat){t e:TypeId}{b:Option Addr}{len cap:Nat}(hu:P.underlying t=some (.slice e)):(Op.equalIn (d+1) t (.slice b len cap) (.slice none 0 0)).run P w= .ok b.isNone w:=by
 cases b<;>simp [Op.equalIn,aC w hu]
theorem CH (P:Program)(w:World){t e:TypeId}{b:Option Addr}{len cap:Nat}(hu:P.underlying t=some (.slice e)):(binOp .eql t (.slice b len cap) (.slice none 0 0)).run P w= .ok (.bool b.isNone) w:=by
 have:=rZ P w 9999 (b:=b) (len:=len) (cap:=cap) hu;simp only [binOp];simp only [Op.equal,Op.maxDepth,Sem.run_bind,this,Result.andThen_ok,Sem.run_pure]
section
variable {w:World}
theorem CI (K:Ctx) (hK:fE K) {n id:Nat} {f:FuncId} {g:Func} {A X D:Code} {t0 t1 t2:TypeId} {p3 p4:String} {a3 a4:Array Edge} {t t' e:TypeId} {st1 stX stD:bE}
  (hf:K.P.funcs[f]? =some g)
  (hb:g.body=some (.seq A (.seq (.seq (.region id #[⟨some 3, .move (.tmp 0),t0,p3,a3,none⟩,⟨some 4, .binOp .eql t (.tmp 3) (.const (.slice none 0 0)) t',t1,p4,a4,none⟩] false) (.cond (.tmp 4) X .skip)) D)))
  (hname:(g.name== "runtime.NumGoroutine")=false) (hnt:g.ntmps=8) (ht:K.P.underlying t=some (.slice e))
  (hA:cC K n f A ⟨[(0, .pure (.slice []))],[[],[]],8⟩=some (.normal,st1)) (h0:look st1.s 0= .pure (.slice []))
  (hX:cC K n f X ⟨(4, .pure (.bool true))::(3, .pure (.slice []))::st1.s,st1.h,8⟩=some (.ret,stX)) (hD:cC K n f D ⟨(4, .pure (.bool false))::(3, .pure (.slice []))::st1.s,st1.h,8⟩=some (.ret,stD))
  (rX:dB K g stX=some [.aO]) (rD:dB K g stD=some [.aO]):uR K.P f:=by
 intro w av cap;have hS:aN w (fun b=>b<w.heap.size) (fun _ _=>none) ([[],[]]:ae):=⟨fun nm x hx t b hb=>by simp at hb,fun nm t b hb=>by simp at hb,fun nm nm' t t' b h1 h2=>by simp at h1,fun nm t b hb=>by simp at hb,fun b hb=>hb⟩;have hst:il w.heap.size none w (fun b=>b<w.heap.size) (fun _ _=>none) ⟨[(0, .pure (.slice []))],[[],[]],8⟩ {tmps:= #[.slice av 0 cap]++Array.replicate 7 undef,defers:=[]}:=by
  refine⟨hS,fun q=> ?_,by simp,by simp,Nat.le_refl _,⟨fun d hd=>by simp at hd, .nil⟩,fun l hl=>by cases hl⟩;rw [tD];simp only [look];split
  ·rename_i e;subst e;exact .pure _ _ (.dJ _ _)
  ·exact cW _
 refine⟨by simp only [callFunc,Sem.run_bind,run_program,Result.andThen,hf,hname,hb];rfl, ?_⟩
 have fin: ∀(st:bE),dB K g st=some [.aO]→ ∀(e':Exit) (a':Act) (w':World),jg w.heap.size none ⟨[(0, .pure (.slice []))],[[],[]],8⟩ w (fun b=>b<w.heap.size) (fun _ _=>none) .ret st e' a' w'→
   e'= .ret∧LeavesInM (Fw none) 0 K.P g a'.tmps (fun e w'=>(∃a',e= .returned (.slice a' 0 0))∧w'.os=w.os∧w'.tape=w.tape∧w'.output=w.output∧w.heap.size≤w'.heap.size∧ ∀b,b<w.heap.size→w'.heap[b]? =w.heap[b]?) a'.defers .returning w':=by
  intro st hres e' a' w' hq;obtain⟨q1,q2,q3,S',μ',q4,q5⟩:=hq;refine⟨q1,rK (s:=st.s) (k:=st.h.length-1) a'.defers w' q4.defs q4.heap q5 (Nat.le_refl _) q4.c8 fun w2 h2 e2 s2=> ?_⟩;obtain⟨u,u1,u2⟩:=pG K h2 s2 hres;refine⟨u,u1, ?_,e2.os,e2.tape,e2.out,e2.size,fun b hb=>e2.same b hb (.inl hb)⟩;have u3:ax w2 S' μ' (st.h.length-1) u .aO:=u2
  cases u3 with
  |aO a=>exact⟨a,rfl⟩
 have hn8:g.ntmps-(#[Value.slice av 0 cap]:Array Value).size=7:=(by rw [hnt];rfl);refine callsIn_of_wp_marks hf hb trivial ?_;rw [hn8];refine wpIn_seq (wpIn_mono (gY K hK n f A _ _ _ hA _ none w _ _ _ hst) fun e' a1 w1 hq1=> ?_);obtain⟨q1,q2,q3,S1,μ1,q4,q5⟩:=hq1;simp only [dm]at q1;subst q1;simp only [Exit.then];have hv:=q4.c8 0;rw [h0]at hv;obtain⟨base,cap1,hbase,_⟩:=hv.pv.iw;have hlen:st1.h.length=2:=q2;refine wpIn_seq (wpIn_seq (wpIn_region ?_));have hsz:a1.tmps.size=8:=q4.nt.trans q3;have hr:List.range (#[(⟨some 3, .move (.tmp 0),t0,p3,a3,none⟩:Oper),⟨some 4, .binOp .eql t (.tmp 3) (.const (.slice none 0 0)) t',t1,p4,a4,none⟩]:Array Oper).size=[0,1]:=rfl;rw [hr];simp only [wpOpsIn];simp only [List.getElem?_toArray,List.getElem?_cons_zero,List.getElem?_cons_succ,Region.wanted,if_true];refine qA K hK (gY K hK n) q4.heap q4.pos q4.c8 (v:= .pure (.slice [])) (H':=st1.h) (fn:=f) (o:=⟨some 3, .move (.tmp 0),t0,p3,a3,none⟩) (s:=st1.s) (by simp [cf,eP,dw,ev,h0]) fun u3 w2 S2 μ2 hv3 hh3 he3 hl3=> ?_;obtain⟨base3,cap3,hu3,_⟩:=hv3.pv.iw;have hu3:u3= .slice base3 0 cap3:=hu3;subst hu3;have hs1: ∀q,ax w2 S2 μ2 (st1.h.length-1) (a1.tmps.getD q undef) (look st1.s q):=lL q4.c8 q4.heap he3 (Nat.le_refl _) (Nat.le_refl _);obtain⟨z1,z2,z3,z4,z5⟩:=me (st:=⟨st1.s,st1.h,8⟩) (st':=⟨(3, .pure (.slice []))::st1.s,st1.h,8⟩) hs1 hsz hv3 rfl rfl (dst:=some 3) (by simp [bE.put]);refine⟨fun _ _=>trivial, ?_⟩;rw [Oper.semAt_eq _ _ _ (fun c e=>by cases e)];have he0:(a1.put (some 3) (.slice base3 0 cap3)).eval (.tmp 3)= .slice base3 0 cap3:=by
  show (a1.put (some 3) (.slice base3 0 cap3)).tmps.getD 3 undef=_
  rw [gU _ _ _ _ (by omega)];simp
 have hrun:(execOp (a1.put (some 3) (.slice base3 0 cap3)).eval ⟨some 4, .binOp .eql t (.tmp 3) (.const (.slice none 0 0)) t',t1,p4,a4,none⟩).run K.P w2= .ok (.value (.bool base3.isNone)) w2:=by
  have hc:(a1.put (some 3) (.slice base3 0 cap3)).eval (.const (.slice none 0 0))= .slice none 0 0:=rfl;have hg:(eqGuard .eql t (.tmp 3) (.const (.slice none 0 0)) (.slice base3 0 cap3) (.slice none 0 0)).run K.P w2= .ok () w2:=(by simp [eqGuard]);simp only [execOp,he0,hc,Sem.run_bind,hg,Result.andThen_ok,CH K.P w2 ht,Sem.run_pure]
 rw [hrun,Oper.uponIn_value];simp only;have hb4:ax w2 S2 μ2 (st1.h.length-1) (.bool base3.isNone) (.pure (.bool base3.isNone)):= .pure _ _ (.bool _);obtain⟨y1,y2,y3,y4,y5⟩:=me (st:=⟨(3, .pure (.slice []))::st1.s,st1.h,8⟩) (st':=⟨(4, .pure (.bool base3.isNone))::(3, .pure (.slice []))::st1.s,st1.h,8⟩) z1 (z2.trans rfl) hb4 rfl rfl (dst:=some 4) (by simp [bE.put])
 have hst2:il w.heap.size none w2 S2 μ2 ⟨(4, .pure (.bool base3.isNone))::(3, .pure (.slice []))::st1.s,st1.h,8⟩ ((a1.put (some 3) (.slice base3 0 cap3)).put (some 4) (.bool base3.isNone)):=
  ⟨hh3,y1,y2.trans rfl,q4.pos,Nat.le_trans q4.low he3.size,by rw [y5,z5];exact q4.defs.ev he3,fun l hl=>by cases hl⟩
 have hc4:((a1.put (some 3) (.slice base3 0 cap3)).put (some 4) (.bool base3.isNone)).eval (.tmp 4)= .bool base3.isNone:=by
  show ((a1.put (some 3) (.slice base3 0 cap3)).put (some 4) (.bool base3.isNone)).tmps.getD 4 undef=_
  rw [gU _ _ _ _ (by rw [z2];simp)];simp
 have hE:=q5.trans (he3.level (by simp [hlen]));simp only [Exit.then];refine wpIn_cond hc4 ?_
 have out: ∀(st:bE) (e':Exit) (a':Act) (w':World),jg w.heap.size none ⟨(4, .pure (.bool base3.isNone))::(3, .pure (.slice []))::st1.s,st1.h,8⟩ w2 S2 μ2 .ret st e' a' w'→
   jg w.heap.size none ⟨[(0, .pure (.slice []))],[[],[]],8⟩ w (fun b=>b<w.heap.size) (fun _ _=>none) .ret st e' a' w':=fun st e' a' w' hq=>by
  obtain⟨k1,k2,k3,S',μ',k4,k5⟩:=hq;exact⟨k1,k2.trans hlen,k3,S',μ',k4,hE.trans (k5.level (by simp [hlen]))⟩
 cases hbn:base3.isNone with
 |true=>
  simp only [if_true];rw [hbn]at hst2 out;refine wpIn_mono (gY K hK n f X _ _ _ hX _ none w2 _ _ _ hst2) fun e' a' w' hq=> ?_;obtain⟨k1,k2⟩:=fin stX rX e' a' w' (out _ _ _ _ hq);subst k1;exact k2
 |false=>
  simp only [Bool.false_eq_true,if_false];rw [hbn]at hst2 out;refine wpIn_skip ?_;simp only [Exit.then];refine wpIn_mono (gY K hK n f D _ _ _ hD _ none w2 _ _ _ hst2) fun e' a' w' hq=> ?_;obtain⟨k1,k2⟩:=fin stD rD e' a' w' (out _ _ _ _ hq);subst k1;exact k2
def qB:Option (List GV)→Bool
 |some [.aO]=>true
 |_=>false
def UH:GV→Bool
 | .pure (.slice [])=>true
 |_=>false
def CJ (K:Ctx)(n:Nat)(f:FuncId)(g:Func)(A X D:Code)(t:TypeId):Bool:=
 match cC K n f A ⟨[(0, .pure (.slice []))],[[],[]],8⟩with
 |some (.normal,st1)=>
  UH (look st1.s 0) && (cU K.P t).isSome &&
  (match cC K n f X ⟨(4, .pure (.bool true))::(3, .pure (.slice []))::st1.s,st1.h,8⟩with|some (.ret,st)=>qB (dB K g st)|_=>false) &&
  (match cC K n f D ⟨(4, .pure (.bool false))::(3, .pure (.slice []))::st1.s,st1.h,8⟩with|some (.ret,st)=>qB (dB K g st)|_=>false)
 |_=>false
theorem r5 {x:Option (List GV)}(h:qB x=true):x=some [.aO]:=by
 unfold qB at h;split at h
 ·rfl
 ·cases h
theorem iB (K:Ctx) (hK:fE K) {n id:Nat} {f:FuncId} {g:Func} {A X D:Code} {t0 t1:TypeId} {p3 p4:String} {a3 a4:Array Edge} {t t':TypeId}
  (hf:K.P.funcs[f]? =some g)
  (hb:g.body=some (.seq A (.seq (.seq (.region id #[⟨some 3, .move (.tmp 0),t0,p3,a3,none⟩,⟨some 4, .binOp .eql t (.tmp 3) (.const (.slice none 0 0)) t',t1,p4,a4,none⟩] false) (.cond (.tmp 4) X .skip)) D)))
  (hname:(g.name== "runtime.NumGoroutine")=false) (hnt:g.ntmps=8) (h:CJ K n f g A X D t=true):uR K.P f:=by
 unfold CJ at h;split at h
 ·rename_i st1 hA;simp only [Bool.and_eq_true]at h;obtain⟨⟨⟨h0,ht⟩,hX⟩,hD⟩:=h;obtain⟨e,he⟩:=Option.isSome_iff_exists.1 ht;have h0':look st1.s 0= .pure (.slice []):=by
   unfold UH at h0;split at h0
   ·assumption
   ·cases h0
  split at hX
  ·rename_i stX eX;split at hD
   ·rename_i stD eD;exact CI K hK (t2:=0) hf hb hname hnt (cJ he) hA h0' eX eD (r5 hX) (r5 hD)
   ·cases hD
  ·cases hX
 ·cases h
end
end
section
open Go.ChangeShapes Go.WideShapes Go.RowKit Go.ChangeAt
section
variable {P:Program} {H:Type} {enc:TypeId×Value→H}
theorem mK (hl:laidOutB P=true){W W':World}(hb:Below W.heap.size W W'): ∀(ts:List TypeId) (vs:List Value) (ds:List (DataW H)) (ps:List MemPlace),(∀t∈ts,P.readableRec t=true∧t<P.types.size)→
  DataW.TrodAll enc P W 0 (fun _=>true) true ts vs ds ps→DataW.TrodAll enc P W' 0 (fun b=>decide (b<W.heap.size)) true ts vs ds ps
 | [],vs,ds,ps,_,h=>by
  obtain⟨rfl,rfl,rfl⟩:=trodAll_nil h;exact trodAll_mk0
 |t::ts,vs,ds,ps,ht,h=>by
  obtain⟨v,vs',d,ds',p,q,rfl,rfl,rfl,h1,h2⟩:=trodAll_cons h;obtain⟨a1,a2⟩:=ht t (List.mem_cons_self ..);have hlt: ∀x∈p,x.block<W.heap.size:=(by obtain⟨m,hm⟩:=h1;exact DataW.trod_lt m _ _ _ hm);exact trodAll_cons_mk (Below.trod hl a1 a2 h1 hb hlt) (mK hl hb ts vs' ds' q (fun t ht'=>ht t (List.mem_cons_of_mem _ ht')) h2)
theorem wX {w:World}{base:Nat}{n:Nat}: ∀(ts:List TypeId) (vs:List Value) (ds:List (DataW H)) (ps:List MemPlace),(∀t∈ts,gN P n t=true)→
  (∀(j:Nat) t v,ts[j]? =some t→vs[j]? =some v→Value.okWide P w .any base t v)→
  DataW.TrodAll enc P w 0 (fun _=>true) true ts vs ds ps→ds.length=ts.length∧ ∃pvs,zA P n ts pvs∧pvs.length=vs.length∧ ∀j,j<vs.length→ax w (S0 w) GB 0 (vs.getD j undef) (.pure (pvs.getD j .dead))
 | [],vs,ds,ps,_,_,h=>by
  obtain⟨rfl,rfl,rfl⟩:=trodAll_nil h;exact⟨rfl,[],trivial,rfl,by simp⟩
 |t::ts,vs,ds,ps,ht,hok,h=>by
  obtain⟨v,vs',d,ds',p,q,rfl,rfl,rfl,h1,h2⟩:=trodAll_cons h;obtain⟨hl,pvs,a1,a2,a3⟩:=wX ts vs' ds' q (fun t ht'=>ht t (List.mem_cons_of_mem _ ht')) (fun j t v h1 h2=>hok (j+1) t v (by simpa using h1) (by simpa using h2)) h2;obtain⟨pv,b1,b2⟩:=GC (ht t (List.mem_cons_self ..)) (hok 0 t v rfl rfl) h1;refine⟨by simp [hl],pv::pvs,⟨b2,a1⟩,by simp [a2],fun j hj=> ?_⟩
  cases j with
  |zero=>exact b1
  |succ j=>exact a3 j (by simpa using hj)
end
theorem Re (w:World):aN w (S0 w) GB [[]]:=
 ⟨fun nm x hx=>by simp [ae.get,Fr.get]at hx,fun nm t b h=>by simp [GB]at h,fun nm nm' t t' b h=>by simp [GB]at h,fun nm t b h=>by simp [GB]at h,fun b h=>h⟩
theorem wY {w w':World}{S':Nat→Prop}{μ':Mu}{l:Nat}(h:Ev l w (S0 w) GB w' S' μ'):Below w.heap.size w w':=
 ⟨h.os,h.tape,h.out,h.size,fun k hk=>h.same k hk (.inl hk)⟩
theorem AY {K:Ctx} (hK:fE K) {f:FuncId} {pvs:List PV} {H':ae} (h:aK K (aE K) f (pvs.map .pure) 0 [[]]=some (.pure (.bool true),H')) {w:World} {vs:Array Value}
  (hl:pvs.length=vs.size) (hrel: ∀j,j<vs.size→ax w (S0 w) GB 0 (vs.getD j undef) (.pure (pvs.getD j .dead))):
  Calls K.P f vs w fun e w'=>e= .returned (.bool true)∧Below w.heap.size w w':=by
 obtain⟨_,h2⟩:=uV K hK (wZ K hK) h (Re w) (vs:=vs) (by simp [hl]) (fun j hj=>by
  have hj':j<pvs.length:=(by simpa using hj);have e:(pvs.map GV.pure).getD j aG= .pure (pvs.getD j .dead):=(by simp [List.getD_eq_getElem?_getD,hj']);rw [e];exact hrel j (by omega))
 refine(callsIn_wide (n:=0).1 h2).mono fun e w' hd=> ?_;obtain⟨u,S',μ',rfl,hv,_,hev,_⟩:=hd
 cases hv with
 |pure _ _ hp=>
  cases hp;exact⟨rfl,wY hev⟩
theorem yy {H:Type} {enc:TypeId×Value→H} {C:Checked} {os:Os} {f:FuncId} {fn:Func} {s:ChangeSpec} {conds:List PathCond} {K:Ctx} (hK:fE K) (hP:K.P=C.prog) (n:Nat)
  (own:ownKnob C.prog.godebug=none) (started:os.Started) (noInit:C.prog.inits.idxOf? f=none) (hlaid:laidOutB C.prog=true) (hfn:C.prog.funcs[f]? =some fn)
  (hv:s.vars=[]) (hs: ∀ds:List (DataW H),ds.length=fn.params.toList.length→s.fn H ds={results:=[.lit (.bool true)],args:=ds})
  {tb:TypeId} (hr:fn.resultTypes= #[tb]) (htb:C.prog.underlying tb=some .bool)
  (hpl:(fn.params.toList.all fun t=>gN C.prog n t && C.prog.readableRec t && decide (t<C.prog.types.size))=true)
  (witness: ∃(w:World) (tape:Tape) (i:Input),w.os=os∧(w.forCall tape i).Shaped C.prog∧i.vars=[]∧Input.okWide C.prog (w.forCall tape i) .any w.heap.size f i∧
   s.pre6 enc C.prog fn conds false (w.forCall tape i).memory i.args∧({}:Assume).holds C.prog (lone (Frame.enter C.prog f i.args .normal) [] (w.forCall tape i)))
  (hlaw: ∀pvs:List PV,zA C.prog n fn.params.toList pvs→ ∃H',aK K (aE K) f (pvs.map .pure) 0 [[]]=some (.pure (.bool true),H')):
  ReturnsInHanded {} C os f .any (s.pre6 enc C.prog fn conds false) (s.post enc C.prog fn false true false false):=by
 refine returnsInHanded_of_change own started noInit hfn witness ?_;intro W base args ds gs before hval hW hcnd _;have hW':=hW;obtain⟨p,q,hA,hV,rfl,hfz,hnd⟩:=hW;simp only [List.all_eq_true,Bool.and_eq_true,decide_eq_true_eq]at hpl;rw [hv]at hV;obtain⟨rfl,rfl⟩:=trodVars_none hV;obtain⟨hdl,pvs,a1,a2,a3⟩:=wX fn.params.toList args.toList ds p (fun t ht=>(hpl t ht).1.1) (fun j t v h1 h2=>hval j t v (by simpa using h1) (by simpa using h2)) hA;obtain⟨H',hg⟩:=hlaw pvs a1;have hc:=AY hK hg (w:=W) (vs:=args) (by simpa using a2) (fun j hj=>by
  have:=a3 j (by simpa using hj);simpa [List.getD_eq_getElem?_getD]using this)
 rw [hP]at hc;refine hc.mono fun e W' ⟨he,bel⟩=> ?_;subst he;have hfn':s.fn H (ds++[])={results:=[.lit (.bool true)],args:=ds}:=(by rw [List.append_nil];exact hs ds hdl);refine⟨_,rfl,ds,[],p++[],[],p,[],hW', ?_, ?_, ?_,bel.frame _,fun h=>by cases h⟩
 ·rw [hfn',hr];exact trodAll_mk1 (shut_bool htb _)
 ·rw [hfn'];exact mK hlaid bel _ _ _ _ (fun t ht=>⟨(hpl t ht).1.2,(hpl t ht).2⟩) hA
 ·rw [hfn',hv];rfl
end
theorem I9 (cl:List Nat)(t:Nat)(ks:List SK)(h:(EW cl).eqs t=some ks):LU Try.prog t ks:=by
 have h':qJ t=some ks:=h;unfold qJ at h';split at h';all_goals first|(cases h';exact GA (P:=Try.prog) 5 (by omega) (by kernel_rfl) (by kernel_rfl) (by kernel_rfl))|cases h'
theorem oO:fE (EW []) where
 vw:=fun f h=>by
  have:([]:List Nat).contains f=true:=h;simp at this
 eqs:=I9 []
 mixed:=by kernel_rfl
theorem Rf:fE KC where
 vw:=fun f h=>by
  have h1:EV.contains f=true:=h;simp only [EV,List.contains_cons,List.contains_nil,Bool.or_false,Bool.or_eq_true,beq_iff_eq]at h1;rcases h1 with rfl|rfl|rfl|rfl|rfl|rfl
  ·exact iB (EW []) oO (n:=20) (g:=Try.f75) Try.func75 rfl rfl rfl (by kernel_rfl)
  ·exact iB (EW []) oO (n:=20) (g:=Try.f76) Try.func76 rfl rfl rfl (by kernel_rfl)
  ·exact iB (EW []) oO (n:=20) (g:=Try.f77) Try.func77 rfl rfl rfl (by kernel_rfl)
  ·exact iB (EW []) oO (n:=20) (g:=Try.f78) Try.func78 rfl rfl rfl (by kernel_rfl)
  ·exact iB (EW []) oO (n:=20) (g:=Try.f79) Try.func79 rfl rfl rfl (by kernel_rfl)
  ·exact iB (EW []) oO (n:=20) (g:=Try.f80) Try.func80 rfl rfl rfl (by kernel_rfl)
 eqs:=I9 EV
 mixed:=by kernel_rfl
end Go.Gh
