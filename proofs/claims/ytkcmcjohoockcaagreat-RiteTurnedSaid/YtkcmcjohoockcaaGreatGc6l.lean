/- Texts joined: the evaluator over ghost values, its soundness, the walks. Spaces struck and names made short by a program, for the size. -/
import Derived.Test.YtkcmcjohoockcaaGreatGc6e
import Derived.ProofKit
import Derived.OpenShut
import Derived.ChangeOld
import Derived.Below
import Derived.Carry
import Derived.Test.YtkcmcjohoockcaaGreatGc6b
import Derived.ChangeKeysEq
import Derived.Test.YtkcmcjohoockcaaGreatGc6f
namespace Go.Gh
open Go.Proofs
set_option linter.unusedVariables false
set_option linter.unusedSimpArgs false
set_option linter.unnecessarySimpa false
set_option maxRecDepth 100000
set_option maxHeartbeats 8000000
section
open Go.ChangeShapes Go.WideShapes Go.RowKit Go.ChangeAt
def zX (P:Program):Nat→TypeId→List PV→Prop
 |0,_,_=>False
 |n+1,t,ps=>
  match P.underlying t with
  |some .bool=> ∃b,ps=[.bool b]
  |some (.int k)=> ∃m,(Lit.int k m).wf=true∧ps=[.int k m]
  |some .string=> ∃l:List UInt8,l.length≤maxLen∧ps=[.str l]
  |some (.slice e)=> ∃rows,rows.length≤maxLen∧(∀r∈rows,r.length=P.cellsOf e∧zX P n e r)∧ps=[.slice rows]
  |some (.struct fs)=>ps.length=P.cellsOf t∧ ∀f∈fs.toList,zX P n f.type ((ps.drop f.offset).take (P.cellsOf f.type))
  |some (.array m e)=>ps.length=P.cellsOf t∧ ∀i,i<m→zX P n e ((ps.drop (i*P.cellsOf e)).take (P.cellsOf e))
  |_=>False
def fa (P:Program)(tot:Nat):Nat→List (Nat×TypeId)→Bool
 |o,[]=>o==tot
 |o,(off,t)::r=>off==o && fa P tot (o+P.cellsOf t) r
def jU (P:Program):Nat→TypeId→Bool
 |0,_=>false
 |n+1,t=>
  match P.underlying t with
  |some .bool|some (.int _)|some .string=>true
  |some (.slice e)=>decide (0<P.cellsOf e) && jU P n e
  |some (.struct fs)=>fa P (P.cellsOf t) 0 (fs.toList.map fun f=>(f.offset,f.type)) && fs.toList.all fun f=>jU P n f.type
  |some (.array m e)=>fa P (P.cellsOf t) 0 ((List.range m).map fun i=>(i*P.cellsOf e,e)) && jU P n e
  |_=>false
def S0 (w:World):Nat→Prop:=fun b=>b<w.heap.size
def wB (w:World)(cs:List Value)(ps:List PV):Prop:=ps.length=cs.length∧ ∀j,j<cs.length→(cs.getD j undef).oneCell'=true∧b9 w (S0 w) (cs.getD j undef) (ps.getD j .dead)
theorem wB.append {w:World}{a b:List Value}{p q:List PV}(h:wB w a p)(k:wB w b q):wB w (a++b) (p++q):=by
 obtain⟨h1,h2⟩:=h;obtain⟨k1,k2⟩:=k;refine⟨by simp [h1,k1],fun j hj=> ?_⟩;by_cases hja:j<a.length
 ·have e1:(a++b).getD j undef=a.getD j undef:=(by simp [List.getD_eq_getElem?_getD,List.getElem?_append_left hja]);have e2:(p++q).getD j .dead=p.getD j .dead:=by simp [List.getD_eq_getElem?_getD,List.getElem?_append_left (show j<p.length by omega)]
  rw [e1,e2];exact h2 j hja
 ·have e1:(a++b).getD j undef=b.getD (j-a.length) undef:=by simp [List.getD_eq_getElem?_getD,List.getElem?_append_right (show a.length≤j by omega)]
  have e2:(p++q).getD j .dead=q.getD (j-a.length) .dead:=by rw [List.getD_eq_getElem?_getD,List.getElem?_append_right (show p.length≤j by omega),h1,List.getD_eq_getElem?_getD]
  rw [e1,e2];exact k2 _ (by simp at hj;omega)
theorem pP {w : World} {v : Value} {p : PV} (h1 : v.oneCell' = true) (h : b9 w (S0 w) v p) : wB w [v] [p] :=
  ⟨rfl, fun j hj => by have : j = 0 := by simpa using hj
                       subst this; exact ⟨h1, h⟩⟩
section
variable {P:Program} {w:World}
theorem qM (n : Nat) {cs : List Value} : ∀ (l : List (Nat × TypeId)) (o : Nat), fa P cs.length o l = true →
    (∀ x ∈ l, ∃ ps, wB w ((cs.drop x.1).take (P.cellsOf x.2)) ps ∧ zX P n x.2 ps) →
    o ≤ cs.length ∧ ∃ ps, wB w (cs.drop o) ps ∧ ∀ x ∈ l, o ≤ x.1 ∧ zX P n x.2 ((ps.drop (x.1 - o)).take (P.cellsOf x.2))
  | [], o, hc, h => by
    simp only [fa, beq_iff_eq] at hc
    subst hc
    exact ⟨Nat.le_refl _, [], by simp [wB], by simp⟩
  | (off, t) :: r, o, hc, h => by
    simp only [fa, Bool.and_eq_true, beq_iff_eq] at hc
    obtain ⟨rfl, hc⟩ := hc
    obtain ⟨hle, ps, h1, h2⟩ := qM n r _ hc (fun x hx => h x (List.mem_cons_of_mem _ hx))
    obtain ⟨p, q1, q2⟩ := h (off, t) (List.mem_cons_self ..)
    simp only at q1 q2
    have hpl : p.length = P.cellsOf t := by rw [q1.1, List.length_take, List.length_drop]; omega
    refine ⟨by omega, p ++ ps, ?_, fun x hx => ?_⟩
    · have := q1.append h1
      rw [← List.drop_drop, List.take_append_drop] at this
      exact this
    · rcases List.mem_cons.1 hx with rfl | hx
      · refine ⟨Nat.le_refl _, ?_⟩
        simp only [Nat.sub_self, List.drop_zero]
        rw [← hpl, List.take_left]
        exact q2
      · obtain ⟨g1, g2⟩ := h2 x hx
        refine ⟨by omega, ?_⟩
        have e : (p ++ ps).drop (x.1 - off) = ps.drop (x.1 - (off + P.cellsOf t)) := by
          rw [List.drop_append, List.drop_of_length_le (by omega), List.nil_append, hpl, Nat.sub_sub]
        rw [e]; exact g2
theorem Dx {H:Type}{enc:TypeId×Value→H}: ∀(n:Nat) (t:TypeId) (fuel:Nat) (cs:List Value) (x:DataW H×List MemPlace),jU P n t=true→
    DataW.trod enc P w 0 (fun _=>true) true fuel t cs=some x→ ∃ps,wB w cs ps∧zX P n t ps:=by
  intro n
  induction n with
  |zero=>intro t fuel cs x h;simp [jU]at h
  |succ n ih=>
    intro t fuel cs x h hx;unfold jU at h;unfold zX;split at h
    · rename_i ht
      obtain⟨b,rfl,_⟩:=DataW.trod_bool ht hx;exact⟨[.bool b],pP rfl (.bool b),b,rfl⟩
    · rename_i k ht
      obtain⟨m,rfl,_,hw⟩:=DataW.trod_int ht hx;exact⟨[.int k m],pP rfl (.int k m),m,hw,rfl⟩
    · rename_i ht
      obtain⟨s,rfl,_,hs⟩:=DataW.trod_string ht hx;exact⟨[.str s.data.toList],pP rfl (.str s),_,by simpa using hs,rfl⟩
    · rename_i e ht
      simp only [Bool.and_eq_true,decide_eq_true_eq]at h;obtain⟨he,hp⟩:=h;rcases DataW.trod_slice ht hx with ⟨rfl,_⟩|⟨a,len,cap,elems,rest,m,_,rfl,_,hb,hl,hm,hlen,hel,_,_⟩
      · exact⟨[.slice []],pP rfl (.fG none 0),[],by simp,by simp,rfl⟩
      · by_cases h0:len=0
        · subst h0
          exact⟨[.slice []],pP rfl (.fG _ _),[],by simp,by simp,rfl⟩
        · have each: ∀i,i<len→ ∃c ps,w.cells? 0 (a.add (i*P.cellsOf e)) (P.cellsOf e)=some c∧wB w c ps∧zX P n e ps:=by
            intro i hi;have h1:=hel i hi;rw [List.getElem?_eq_getElem (show i<elems.length by omega),Option.bind_eq_some_iff]at h1
            obtain⟨c,h1,h2⟩:=h1;obtain⟨ps,h3,h4⟩:=ih e m c _ hp h2;exact⟨c,ps,h1,h3,h4⟩
          have ch: ∃fc:Nat→List Value,∃fp:Nat→List PV,∀i,i<len→w.cells? 0 (a.add (i*P.cellsOf e)) (P.cellsOf e)=some (fc i)∧wB w (fc i) (fp i)∧zX P n e (fp i):=by
            refine⟨fun i=>if h:i<len then Classical.choose (each i h)else [],fun i=>if h:i<len then Classical.choose (Classical.choose_spec (each i h))else [],fun i hi=> ?_⟩;simp only [hi,↓reduceDIte];exact Classical.choose_spec (Classical.choose_spec (each i hi))
          obtain⟨fc,fp,hf⟩:=ch;have hcell: ∀i j,i<len→j<P.cellsOf e→w.cell? (a.add (i*P.cellsOf e+j))=some ((fc i).getD j undef):=by
            intro i j hi hj;obtain⟨h1,_⟩:=hf i hi;obtain⟨_,g1,g2⟩:=World.cells?_some h1;have:=g2 j hj;rw [List.getElem?_eq_getElem (by omega)]at this;have e1:(a.add (i*P.cellsOf e)).add j=a.add (i*P.cellsOf e+j):=by
              unfold Addr.add;by_cases c1:i*P.cellsOf e=0<;>by_cases c2:j=0<;>simp_all [Nat.add_assoc]
            rw [e1]at this;rw [this,List.getD_eq_getElem?_getD,List.getElem?_eq_getElem (by omega)];rfl
          obtain⟨b,off,spot⟩:=a;have hsp:spot=none:=by
            have:=World.cell?_spot (hcell 0 0 (by omega) he);simpa [Addr.add]using this
          subst hsp;have hcell': ∀i j,i<len→j<P.cellsOf e→w.cell? ⟨b,off+(i*P.cellsOf e+j),none⟩=some ((fc i).getD j undef):=by
            intro i j hi hj;have:=hcell i j hi hj;unfold Addr.add at this;split at this
            · rename_i c;rw [c,Nat.add_zero];exact this
            · exact this
          have hfl: ∀i,i<len→(fp i).length=P.cellsOf e∧(fc i).length=P.cellsOf e:=by
            intro i hi;obtain⟨h1,h2,_⟩:=hf i hi;obtain⟨_,g1,_⟩:=World.cells?_some h1;exact⟨h2.1.trans g1,g1⟩
          have hrows:((List.range len).map fp).length=len:=(by simp);refine⟨[.slice ((List.range len).map fp)],pP rfl ?_,_,by rw [hrows];omega,fun r hr=> ?_,rfl⟩
          · have:=b9.slice (w:=w) (S:=S0 w) b off cap (P.cellsOf e) ((List.range len).map fp) (fun i j=>(fc i).getD j undef) (by
                have:=hcell' 0 0 (by omega) he;unfold S0;refine Classical.byContradiction fun hn=> ?_;have hz:w.heap[b]? =none:=Array.getElem?_eq_none (by omega);simp [World.cell?,hz]at this) he
              (fun r hr=>by obtain⟨i,hi,rfl⟩:=List.mem_map.1 hr;exact(hfl i (by simpa using hi)).1)
              (fun i j hi hj=>hcell' i j (by simpa using hi) hj)
              (fun i j hi hj=>by
                have hi':i<len:=(by simpa using hi);exact((hf i hi').2.1.2 j (by rw [(hfl i hi').2];exact hj)).1)
              (fun i j hi hj=>by
                have hi':i<len:=(by simpa using hi);have e1:((List.range len).map fp).getD i []=fp i:=(by simp [List.getD_eq_getElem?_getD,hi']);rw [e1];exact((hf i hi').2.1.2 j (by rw [(hfl i hi').2];exact hj)).2)
              (by rw [hrows];exact hl)
            rw [hrows]at this;exact this
          · obtain⟨i,hi,rfl⟩:=List.mem_map.1 hr
            have hi':i<len:=(by simpa using hi);exact⟨(hfl i hi').1,(hf i hi').2.2⟩
    · rename_i fs ht
      simp only [Bool.and_eq_true,List.all_eq_true]at h;obtain⟨hc,hp⟩:=h;obtain⟨xs,m,_,_,hl,hlen,hfld⟩:=DataW.trod_struct ht hx;rw [←hl]at hc;obtain⟨_,ps,h1,h2⟩:=qM (w:=w) n _ 0 hc (fun y hy=>by
        obtain⟨f,hf,rfl⟩:=List.mem_map.1 hy;obtain⟨i,hi,e⟩:=List.getElem_of_mem hf;have hi':i<fs.size:=(by simpa using hi);have h3:=hfld i f (by rw [Array.getElem?_eq_getElem hi'];rw [←e];simp);rw [List.getElem?_eq_getElem (by omega)]at h3;obtain⟨p,q1,q2⟩:=ih f.type m _ _ (hp f hf) h3;exact⟨p,q1,q2⟩)
      rw [List.drop_zero]at h1;refine⟨ps,h1,by rw [h1.1,hl],fun f hf=> ?_⟩;exact(h2 (f.offset,f.type) (List.mem_map.2 ⟨f,hf,rfl⟩)).2
    · rename_i k e ht
      simp only [Bool.and_eq_true]at h;obtain⟨hc,hp⟩:=h;obtain⟨xs,m,_,_,hl,hlen,hfld⟩:=DataW.trod_array ht hx;rw [←hl]at hc;obtain⟨_,ps,h1,h2⟩:=qM (w:=w) n _ 0 hc (fun y hy=>by
        obtain⟨i,hi,rfl⟩:=List.mem_map.1 hy;have hi':i<k:=(by simpa using hi);have h3:=hfld i hi';rw [List.getElem?_eq_getElem (by omega)]at h3;obtain⟨p,q1,q2⟩:=ih e m _ _ hp h3;exact⟨p,q1,q2⟩)
      rw [List.drop_zero]at h1;refine⟨ps,h1,by rw [h1.1,hl],fun i hi=> ?_⟩;exact(h2 (i*P.cellsOf e,e) (List.mem_map.2 ⟨i,by simpa using hi,rfl⟩)).2
    · cases h
def Fb (P:Program)(n:Nat)(t:TypeId)(p:PV):Prop:=
 match P.underlying t with
 |some (.struct _)|some (.array _ _)=> ∃ps,p= .agg ps∧zX P n t ps
 |_=>zX P n t [p]
def xC (P:Program)(n:Nat):List TypeId→List PV→Prop
 | [],[]=>True
 |t::ts,p::ps=>Fb P n t p∧xC P n ts ps
 |_,_=>False
def N6:Mu:=fun _ _=>none
theorem N7 {n:Nat}{t:TypeId}{ps:List PV}(h:zX P n t ps)(hs: ∀fs,P.underlying t≠some (.struct fs))(ha: ∀m e,P.underlying t≠some (.array m e)): ∃p,ps=[p]:=by
 cases n with
 |zero=>exact h.elim
 |succ n=>
  unfold zX at h;split at h
  ·obtain⟨b,rfl⟩:=h;exact⟨_,rfl⟩
  ·obtain⟨m,_,rfl⟩:=h;exact⟨_,rfl⟩
  ·obtain⟨m,_,rfl⟩:=h;exact⟨_,rfl⟩
  ·obtain⟨m,_,_,rfl⟩:=h;exact⟨_,rfl⟩
  ·rename_i ht;exact absurd ht (hs _)
  ·rename_i ht;exact absurd ht (ha _ _)
  ·exact h.elim
theorem N8 {H:Type} {enc:TypeId×Value→H} {n:Nat} {t:TypeId} {v:Value} {d:DataW H} {ps0:List MemPlace} {base:Nat} (hp:jU P n t=true) (hok:Value.okWide P w .any base t v)
  (h:DataW.Trod enc P w 0 (fun _=>true) true t v d ps0): ∃p,aE w (S0 w) N6 0 v (.pure p)∧Fb P n t p:=by
 obtain⟨fuel,hf⟩:=h;obtain⟨ps,h1,h2⟩:=Dx n t fuel _ _ hp hf;have agg: ∀cs,v= .agg cs→ ∃p,aE w (S0 w) N6 0 v (.pure p)∧ ∃ps,p= .agg ps∧zX P n t ps:=by
  intro cs e;subst e;simp only [Value.cells]at h1;refine⟨.agg ps, .pure _ _ (.agg cs ps (by simpa using h1.1.symm) (fun j hj=> ?_) (fun j hj=> ?_)),ps,rfl,h2⟩
  ·have:=(h1.2 j (by rw [←h1.1];exact hj)).1;simpa [List.getD_eq_getElem?_getD]using this
  ·have:=(h1.2 j (by rw [←h1.1];exact hj)).2;simpa [List.getD_eq_getElem?_getD]using this
 unfold Fb;split
 ·rename_i fs ht;obtain⟨cs,e,_⟩:=okWide_struct ht hok;exact agg cs e
 ·rename_i m e ht;simp only [Value.okWide,ht]at hok;obtain⟨cs,e,_⟩:=hok;exact agg cs e
 ·rename_i hs ha;obtain⟨p,rfl⟩:=N7 h2 (fun fs e=>hs fs e) (fun m e e'=>ha m e e');have hv:v.cells.toList=[v]:=by
   have hl:=h1.1;cases v<;>first|rfl|skip
   ·exfalso;rename_i cs
    cases n with
    |zero=>exact h2.elim
    |succ n=>
     unfold jU at hp;simp only [Value.okWide]at hok;split at hp<;>rename_i ht<;>first|(simp [Cell.okWide,Cell.ok,ht]at hok;done)|(exact absurd ht (hs _))|(exact absurd ht (ha _ _))|(cases hp;done)|skip
  rw [hv]at h1;exact⟨p, .pure _ _ (h1.2 0 (by simp)).2,h2⟩
end
end
section
open Go.WideShapes
def lW (f:TypeId→Option (List SK)):List TypeId→Option (List SK)
 | []=>some []
 |t::r=>match f t,lW f r with|some a,some b=>some (a++b)|_,_=>none
def gV (P:Program):Nat→TypeId→Option (List SK)
 |0,_=>none
 |n+1,t=>
  match P.underlying t with
  |some .bool=>if P.cellsOf t=1 then some [.bool]else none
  |some (.int k)=>if P.cellsOf t=1 then some [.int k]else none
  |some .string=>if P.cellsOf t=1 then some [.str]else none
  |some (.struct fs)=>if fa P (P.cellsOf t) 0 (fs.toList.map fun f=>(f.offset,f.type)) && fs.toList.all (·.name != "_") && !P.stoodInHeld t then lW (gV P n) (fs.toList.map (·.type))else none
  |some (.array m e)=>if decide (0<m) && fa P (P.cellsOf t) 0 ((List.range m).map fun i=>(i*P.cellsOf e,e))then lW (gV P n) ((List.range m).map fun _=>e)else none
  |_=>none
def valOf (P:Program)(t:TypeId)(l:List Value):Value:=
 match P.underlying t with
 |some (.struct _)|some (.array _ _)=> .agg l.toArray
 |_=>l.headD undef
theorem nQ: ∀(k1 k2:List SK) (a b:List PV) (q:Bool),cd (k1++k2) a b=some q→
  ∃q1 q2,cd k1 (a.take k1.length) (b.take k1.length)=some q1∧cd k2 (a.drop k1.length) (b.drop k1.length)=some q2∧q=(q1 && q2)
 | [],k2,a,b,q,h=>⟨true,q,rfl,h,by simp⟩
 |s::ks,k2,[],b,q,h=>by cases s<;>cases b<;>simp [cd]at h
 |s::ks,k2,x::a,[],q,h=>by cases s<;>cases x<;>simp [cd]at h
 |s::ks,k2,x::a,y::b,q,h=>by
  have key: ∀q',cd (ks++k2) a b=some q'→ ∃q1 q2,cd ks (a.take ks.length) (b.take ks.length)=some q1∧cd k2 (a.drop ks.length) (b.drop ks.length)=some q2∧q'=(q1 && q2):=
   fun q' h=>nQ ks k2 a b q' h
  cases s with
  |int k=>
   cases x<;>cases y<;>simp only [List.cons_append,cd]at h
   all_goals first|(cases h;done)|skip
   split at h
   ·rename_i hk;split at h
    ·rename_i q' hq';obtain⟨q1,q2,e1,e2,rfl⟩:=key q' hq';simp only [Option.some.injEq]at h;exact⟨_,q2,by simp only [List.length_cons,List.take_succ_cons,cd,hk,and_self,if_true,e1];rfl,by simpa using e2,by rw [←h,Bool.and_assoc]⟩
    ·cases h
   ·cases h
  |bool=>
   cases x<;>cases y<;>simp only [List.cons_append,cd]at h
   all_goals first|(cases h;done)|skip
   split at h
   ·rename_i q' hq';obtain⟨q1,q2,e1,e2,rfl⟩:=key q' hq';simp only [Option.some.injEq]at h;exact⟨_,q2,by simp only [List.length_cons,List.take_succ_cons,cd,e1];rfl,by simpa using e2,by rw [←h,Bool.and_assoc]⟩
   ·cases h
  |str=>
   cases x<;>cases y<;>simp only [List.cons_append,cd]at h
   all_goals first|(cases h;done)|skip
   split at h
   ·rename_i q' hq';obtain⟨q1,q2,e1,e2,rfl⟩:=key q' hq';simp only [Option.some.injEq]at h;exact⟨_,q2,by simp only [List.length_cons,List.take_succ_cons,cd,e1];rfl,by simpa using e2,by rw [←h,Bool.and_assoc]⟩
   ·cases h
theorem jP: ∀(k:List SK) (a b:List PV) (q:Bool),cd k a b=some q→a.length=k.length∧b.length=k.length
 | [],a,b,q,h=>by cases a<;>cases b<;>simp_all [cd]
 |s::ks,[],b,q,h=>by cases s<;>cases b<;>simp [cd]at h
 |s::ks,x::a,[],q,h=>by cases s<;>cases x<;>simp [cd]at h
 |s::ks,x::a,y::b,q,h=>by
  have key: ∀q',cd ks a b=some q'→(x::a).length=(s::ks).length∧(y::b).length=(s::ks).length:=fun q' h=>by
   have:=jP ks a b q' h;simp [this.1,this.2]
  cases s with
  |int k=>
   cases x<;>cases y<;>simp only [cd]at h
   all_goals first|(cases h;done)|skip
   split at h
   ·split at h
    ·rename_i q' hq';exact key q' hq'
    ·cases h
   ·cases h
  |bool=>
   cases x<;>cases y<;>simp only [cd]at h
   all_goals first|(cases h;done)|skip
   split at h
   ·rename_i q' hq';exact key q' hq'
   ·cases h
  |str=>
   cases x<;>cases y<;>simp only [cd]at h
   all_goals first|(cases h;done)|skip
   split at h
   ·rename_i q' hq';exact key q' hq'
   ·cases h
section
variable {P:Program}
theorem iV {f:TypeId→Option (List SK)}{t:TypeId}{r:List TypeId}{ks:List SK}(h:lW f (t::r)=some ks): ∃a b,f t=some a∧lW f r=some b∧ks=a++b:=by
 simp only [lW]at h;split at h
 ·rename_i a b h1 h2;simp only [Option.some.injEq]at h;exact⟨a,b,h1,h2,h.symm⟩
 ·cases h
theorem qN {n : Nat} (hf : ∀ t ks, gV P n t = some ks → ks.length = P.cellsOf t) : ∀ (l : List (Nat × TypeId)) (o tot : Nat) (ks : List SK), fa P tot o l = true → lW (gV P n) (l.map (·.2)) = some ks → o + ks.length = tot
  | [], o, tot, ks, h, hk => by
    simp only [List.map_nil, lW, Option.some.injEq] at hk
    subst hk
    simpa [fa] using h
  | (off, t) :: r, o, tot, ks, h, hk => by
    simp only [fa, Bool.and_eq_true, beq_iff_eq] at h
    obtain ⟨a, b, h1, h2, rfl⟩ := iV (by simpa using hk)
    have := qN hf r _ _ _ h.2 h2
    rw [List.length_append, hf t a h1]
    omega
theorem na : ∀ (l : List (Nat × TypeId)) (o tot : Nat), fa P tot o l = true → o ≤ tot
  | [], o, tot, h => by simp only [fa, beq_iff_eq] at h; omega
  | (off, t) :: r, o, tot, h => by
    simp only [fa, Bool.and_eq_true, beq_iff_eq] at h
    have := na r _ _ h.2
    omega
theorem jd: ∀(n:Nat) (t:TypeId) (ks:List SK),gV P n t=some ks→ks.length=P.cellsOf t
 |0,t,ks,h=>by simp [gV]at h
 |n+1,t,ks,h=>by
  unfold gV at h;split at h
  ·split at h
   ·rename_i e;simp at h;subst h;simp [e]
   ·cases h
  ·split at h
   ·rename_i e;simp at h;subst h;simp [e]
   ·cases h
  ·split at h
   ·rename_i e;simp at h;subst h;simp [e]
   ·cases h
  ·split at h
   ·rename_i hc;simp only [Bool.and_eq_true]at hc;have:=qN (jd n) _ 0 _ ks hc.1.1 (by rw [List.map_map];exact h);omega
   ·cases h
  ·split at h
   ·rename_i hc;simp only [Bool.and_eq_true]at hc;have:=qN (jd n) _ 0 _ ks hc.2 (by rw [List.map_map];exact h);omega
   ·cases h
  ·cases h
theorem yr {n:Nat}{t:TypeId}{ks:List SK}(h:gV P n t=some ks): ∃kd,P.underlying t=some kd:=by
 cases n with
 |zero=>simp [gV]at h
 |succ n=>
  cases hu:P.underlying t with
  |none=>simp [gV,hu]at h
  |some kd=>exact⟨kd,rfl⟩
theorem iA (w:World){n:Nat}{t:TypeId}{ks:List SK}(h:gV P n t=some ks)(xs:List Value)(off:Nat)(hlen:off+P.cellsOf t≤xs.length):
  (part t xs.toArray off).run P w= .ok (valOf P t ((xs.drop off).take (P.cellsOf t))) w:=by
 cases n with
 |zero=>simp [gV]at h
 |succ n=>
  unfold gV at h;have hone:P.cellsOf t=1→((xs.drop off).take (P.cellsOf t)).headD undef=xs.getD off undef∧off<xs.length:=by
   intro e;rw [e]at hlen⊢;refine⟨?_,by omega⟩;simp [List.headD_eq_head?_getD,List.head?_take,List.head?_drop,List.getD_eq_getElem?_getD]
  have hagg: ∀kd,P.underlying t=some kd→(∃fs,kd= .struct fs)∨(∃m e,kd= .array m e)→(part t xs.toArray off).run P w= .ok (.agg ((xs.drop off).take (P.cellsOf t)).toArray) w:=by
   intro kd hu hk;obtain⟨i,hi⟩:=info_of_underlying hu;have e:xs.toArray.extract off (off+P.cellsOf t)=((xs.drop off).take (P.cellsOf t)).toArray:=by
    apply Array.toList_inj.1;simp [Array.toList_extract,List.extract]
   rcases hk with ⟨fs,rfl⟩|⟨m,e',rfl⟩<;>simp [part,isAgg,run_underlying hu,run_sizeOf w hi,e]
  unfold valOf;split at h
  ·rename_i ht;split at h
   ·rename_i e;rw [(hone e).1];have:=(hone e).2;simp [part,isAgg,run_underlying ht,this,List.getD_eq_getElem?_getD,ht]
   ·cases h
  ·rename_i ht;split at h
   ·rename_i e;rw [(hone e).1];have:=(hone e).2;simp [part,isAgg,run_underlying ht,this,List.getD_eq_getElem?_getD,ht]
   ·cases h
  ·rename_i ht;split at h
   ·rename_i e;rw [(hone e).1];have:=(hone e).2;simp [part,isAgg,run_underlying ht,this,List.getD_eq_getElem?_getD,ht]
   ·cases h
  ·rename_i fs ht;simp only [ht];exact hagg _ ht (.inl ⟨_,rfl⟩)
  ·rename_i m e ht;simp only [ht];exact hagg _ ht (.inr ⟨_,_,rfl⟩)
  ·cases h
def Jr (P:Program)(n d:Nat)(t:TypeId):Prop:= ∀ks,gV P n t=some ks→ ∀(a b:List PV) (q:Bool),cd ks a b=some q→
 ∀w,(Op.equalIn d t (valOf P t (a.map cw)) (valOf P t (b.map cw))).run P w= .ok q w
def acK (P:Program)(n d:Nat)(t:TypeId):Prop:= ∀ks,gV P n t=some ks→ ∀(a:List PV),a.length=ks.length→ ∀e w,(Instr.checkKey e d t (valOf P t (a.map cw))).run P w= .ok () w
theorem lX {n d:Nat}(ih: ∀t,Jr P n d t): ∀(fs:List Field) (o:Nat) (ks:List SK) (a b:List PV) (q:Bool),fa P a.length o (fs.map fun f=>(f.offset,f.type))=true→(fs.all (·.name != "_"))=true→
  lW (gV P n) (fs.map (·.type))=some ks→a.length=b.length→cd ks (a.drop o) (b.drop o)=some q→ ∀w,(Op.eqFields d (a.map cw).toArray (b.map cw).toArray fs).run P w= .ok q w
 | [],o,ks,a,b,q,hc,hn,hk,hl,he,w=>by
  simp only [List.map_nil,lW,Option.some.injEq]at hk;subst hk;have hl1:=jP _ _ _ _ he;have e1:a.drop o=[]:=List.length_eq_zero_iff.1 hl1.1;have e2:b.drop o=[]:=List.length_eq_zero_iff.1 hl1.2;rw [e1,e2]at he;simp only [cd,Option.some.injEq]at he;subst he;simp [Op.eqFields]
 |f::fs,o,ks,a,b,q,hc,hn,hk,hl,he,w=>by
  simp only [List.map_cons,fa,Bool.and_eq_true,beq_iff_eq]at hc;obtain⟨rfl,hc⟩:=hc;simp only [List.all_cons,Bool.and_eq_true,bne_iff_ne,ne_eq]at hn;obtain⟨k1,k2,h1,h2,rfl⟩:=iV (by simpa using hk);obtain⟨q1,q2,g1,g2,rfl⟩:=nQ k1 k2 _ _ q he;have hk1:=jd n _ _ h1;have hle:=na _ _ _ hc;have hkl:=jP _ _ _ _ he;simp only [List.length_drop,List.length_append]at hkl;rw [List.drop_drop,List.drop_drop]at g2;rw [hk1]at g1 g2;have p1:=iA w h1 (a.map cw) f.offset (by simp;omega);have p2:=iA w h1 (b.map cw) f.offset (by simp;omega);rw [←List.map_drop,←List.map_take]at p1 p2;have p3:=ih f.type k1 h1 _ _ q1 g1 w;have rest:=lX ih fs _ k2 a b q2 hc (by simpa using hn.2) h2 hl g2 w;simp only [Op.eqFields,hn.1,ne_eq,not_false_eq_true,if_true,Sem.run_bind,p1,p2,p3,Result.andThen_ok];cases q1
  ·simp
  ·simpa using rest
theorem nb {n d:Nat}{e:TypeId}(ih: ∀t,Jr P n d t): ∀(is:List Nat) (o:Nat) (ks:List SK) (a b:List PV) (q:Bool),fa P a.length o (is.map fun i=>(i*P.cellsOf e,e))=true→
  lW (gV P n) (is.map fun _=>e)=some ks→a.length=b.length→cd ks (a.drop o) (b.drop o)=some q→ ∀w,(Op.eqItems d e (P.cellsOf e) (a.map cw).toArray (b.map cw).toArray is).run P w= .ok q w
 | [],o,ks,a,b,q,hc,hk,hl,he,w=>by
  simp only [List.map_nil,lW,Option.some.injEq]at hk;subst hk;have hl1:=jP _ _ _ _ he;have e1:a.drop o=[]:=List.length_eq_zero_iff.1 hl1.1;have e2:b.drop o=[]:=List.length_eq_zero_iff.1 hl1.2;rw [e1,e2]at he;simp only [cd,Option.some.injEq]at he;subst he;simp [Op.eqItems]
 |i::is,o,ks,a,b,q,hc,hk,hl,he,w=>by
  simp only [List.map_cons,fa,Bool.and_eq_true,beq_iff_eq]at hc;obtain⟨rfl,hc⟩:=hc;obtain⟨k1,k2,h1,h2,rfl⟩:=iV (by simpa using hk);obtain⟨q1,q2,g1,g2,rfl⟩:=nQ k1 k2 _ _ q he;have hk1:=jd n _ _ h1;have hle:=na _ _ _ hc;have hkl:=jP _ _ _ _ he;simp only [List.length_drop,List.length_append]at hkl;rw [List.drop_drop,List.drop_drop]at g2;rw [hk1]at g1 g2;have p1:=iA w h1 (a.map cw) (i*P.cellsOf e) (by simp;omega);have p2:=iA w h1 (b.map cw) (i*P.cellsOf e) (by simp;omega);rw [←List.map_drop,←List.map_take]at p1 p2;have p3:=ih e k1 h1 _ _ q1 g1 w;have rest:=nb ih is _ k2 a b q2 hc h2 hl g2 w;simp only [Op.eqItems,Sem.run_bind,p1,p2,p3,Result.andThen_ok];cases q1
  ·simp
  ·simpa using rest
theorem yt (d:Nat): ∀(n:Nat) (t:TypeId),Jr P n (d+n) t
 |0,t=>fun ks h=>by simp [gV]at h
 |n+1,t=>fun ks h a b q he w=>by
  have ih:=fun t=>yt d n t;have hl:=jd _ _ _ h;have hl2:=jP _ _ _ _ he;unfold gV at h;unfold valOf;rw [show d+(n+1)=(d+n)+1 from rfl]
  split at h
  ·rename_i ht;split at h
   ·simp only [Option.some.injEq]at h;subst h
    match a,b,he with
    | [.bool x],[.bool y],he=>
     simp only [cd,Option.some.injEq,Bool.and_true]at he;simp only [List.map_cons,List.map_nil,List.headD_cons,cw,ht];rw [run_equalIn_bool' w _ _ _ _ ht,he]
   ·cases h
  ·rename_i k ht;split at h
   ·simp only [Option.some.injEq]at h;subst h
    match a,b,he with
    | [.int k1 x],[.int k2 y],he=>
     simp only [cd]at he;split at he
     ·rename_i hk;simp only [Option.some.injEq,Bool.and_true]at he;obtain⟨rfl,rfl⟩:=hk;simp only [List.map_cons,List.map_nil,List.headD_cons,cw,ht];rw [run_equalIn_int w _ _ _ _ _ _ ht,‹(x==y)=q›]
     ·cases he
   ·cases h
  ·rename_i ht;split at h
   ·simp only [Option.some.injEq]at h;subst h
    match a,b,he with
    | [.str x],[.str y],he=>
     simp only [cd,Option.some.injEq,Bool.and_true]at he;simp only [List.map_cons,List.map_nil,List.headD_cons,cw,ht];rw [run_equalIn_string w _ _ _ _ ht];simp [ByteArray.toList_eq,he]
   ·cases h
  ·rename_i fs ht;split at h
   ·rename_i hc;simp only [Bool.and_eq_true,Bool.not_eq_true']at hc;have hfo:P.fieldsOf t=fs:=(by simp [Program.fieldsOf,ht]);simp only [ht];rw [run_equalIn_struct w _ _ _ _ (by rw [hfo];exact ht) hc.2,hfo];exact lX ih fs.toList 0 ks a b q (by rw [hl2.1,hl];exact hc.1.1) hc.1.2 h (by omega) (by simpa using he) w
   ·cases h
  ·rename_i m e ht;split at h
   ·rename_i hc;simp only [Bool.and_eq_true,decide_eq_true_eq]at hc;have hinf: ∃i,P.info? e=some i:=by
     obtain⟨m,rfl⟩: ∃m',m=m'+1:=⟨m-1,by omega⟩;rw [List.range_succ_eq_map,List.map_cons]at h;obtain⟨k1,_,h1,_⟩:=iV h;obtain⟨kd,hu⟩:=yr h1;exact info_of_underlying hu
    obtain⟨i,hi⟩:=hinf;simp only [ht];rw [run_equalIn_array w _ _ _ ht hi];exact nb ih (List.range m) 0 ks a b q (by rw [hl2.1,hl];exact hc.2) h (by omega) (by simpa using he) w
   ·cases h
  ·cases h
theorem yu (d:Nat): ∀(n:Nat) (t:TypeId),acK P n (d+n) t
 |0,t=>fun ks h=>by simp [gV]at h
 |n+1,t=>fun ks h a hal e w=>by
  have ih:=fun t=>yu d n t;have hl:=jd _ _ _ h;unfold gV at h;unfold valOf;rw [show d+(n+1)=(d+n)+1 from rfl,Instr.checkKey]
  split at h
  ·rename_i ht;simp only [ht,Sem.run_bind,run_underlying ht,Result.andThen_ok,Sem.run_pure]
  ·rename_i k ht;simp only [ht,Sem.run_bind,run_underlying ht,Result.andThen_ok,Sem.run_pure]
  ·rename_i ht;simp only [ht,Sem.run_bind,run_underlying ht,Result.andThen_ok,Sem.run_pure]
  ·rename_i fs ht;split at h
   ·rename_i hc;simp only [Bool.and_eq_true,Bool.not_eq_true']at hc;simp only [ht,Sem.run_bind,run_underlying ht,Result.andThen_ok];rw [←Array.forIn_toList]
    have key: ∀(L:List Field) (o:Nat) (ks:List SK),fa P a.length o (L.map fun f=>(f.offset,f.type))=true→(L.all (·.name != "_"))=true→lW (gV P n) (L.map (·.type))=some ks→
      (forIn L PUnit.unit (fun f (_:PUnit)=>if f.name≠ "_" then (do
       let p←part f.type (a.map cw).toArray f.offset
       Instr.checkKey e (d+n) f.type p
       pure (ForInStep.yield PUnit.unit))else pure (ForInStep.yield PUnit.unit)):Sem PUnit).run P w= .ok PUnit.unit w:=by
     intro L
     induction L with
     |nil=>intro o ks _ _ _;simp
     |cons f L ihL=>
      intro o ks hc hn hk;simp only [List.map_cons,fa,Bool.and_eq_true,beq_iff_eq]at hc;obtain⟨rfl,hc⟩:=hc;simp only [List.all_cons,Bool.and_eq_true,bne_iff_ne,ne_eq]at hn;obtain⟨k1,k2,h1,h2,rfl⟩:=iV (by simpa using hk);have hk1:=jd n _ _ h1;have hle:=na _ _ _ hc;have p1:=iA w h1 (a.map cw) f.offset (by simp;omega);rw [←List.map_drop,←List.map_take]at p1;have p2:=ih f.type k1 h1 ((a.drop f.offset).take (P.cellsOf f.type)) (by simp;omega) e w;have:=ihL _ _ hc (by simpa using hn.2) h2;simp only [List.forIn_cons,Sem.run_bind,hn.1,ne_eq,not_false_eq_true,if_true,p1,p2,Result.andThen_ok,Sem.run_pure];exact this
    have:=key fs.toList 0 ks (by rw [hal,hl];exact hc.1.1) hc.1.2 h;rw [this];rfl
   ·cases h
  ·rename_i m el ht;split at h
   ·rename_i hc;simp only [Bool.and_eq_true,decide_eq_true_eq]at hc;have hinf: ∃i,P.info? el=some i:=by
     obtain⟨m,rfl⟩: ∃m',m=m'+1:=⟨m-1,by omega⟩;rw [List.range_succ_eq_map,List.map_cons]at h;obtain⟨k1,_,h1,_⟩:=iV h;obtain⟨kd,hu⟩:=yr h1;exact info_of_underlying hu
    obtain⟨i,hi⟩:=hinf;simp only [ht,Sem.run_bind,run_underlying ht,Result.andThen_ok];simp only [Std.Legacy.Range.forIn_eq_forIn_range',Std.Legacy.Range.size,Nat.sub_zero,Nat.add_one_sub_one,Nat.div_one];rw [←List.range_eq_range']
    have key: ∀(L:List Nat) (o:Nat) (ks:List SK),fa P a.length o (L.map fun i=>(i*P.cellsOf el,el))=true→lW (gV P n) (L.map fun _=>el)=some ks→
      (forIn L PUnit.unit (fun i (_:PUnit)=>do
       Instr.checkKey e (d+n) el (←part el (a.map cw).toArray (i*(←sizeOf el)))
       pure (ForInStep.yield PUnit.unit)):Sem PUnit).run P w= .ok PUnit.unit w:=by
     intro L
     induction L with
     |nil=>intro o ks _ _;simp
     |cons j L ihL=>
      intro o ks hc hk;simp only [List.map_cons,fa,Bool.and_eq_true,beq_iff_eq]at hc;obtain⟨rfl,hc⟩:=hc;obtain⟨k1,k2,h1,h2,rfl⟩:=iV (by simpa using hk);have hk1:=jd n _ _ h1;have hle:=na _ _ _ hc;have p1:=iA w h1 (a.map cw) (j*P.cellsOf el) (by simp;omega);rw [←List.map_drop,←List.map_take]at p1;have p2:=ih el k1 h1 ((a.drop (j*P.cellsOf el)).take (P.cellsOf el)) (by simp;omega) e w;have:=ihL _ _ hc h2;simp only [List.forIn_cons,Sem.run_bind,run_sizeOf w hi,p1,p2,Result.andThen_ok,Sem.run_pure];exact this
    have:=key (List.range m) 0 ks (by rw [hal,hl];exact hc.2) h;rw [this];rfl
   ·cases h
  ·cases h
theorem N9 {t:TypeId}{ks:List SK}(n:Nat)(hn:n≤10000)(hg:P.eqGuardType P.depth t=false)(hk:gV P n t=some ks)(ha:eG P t=some true):Tt P t ks:=by
 refine⟨hg,fun a b q h w=>⟨?_,fun e=> ?_⟩⟩
 ·have h1:=yt (P:=P) (10000-n) n t ks hk a b q h w;rw [Nat.sub_add_cancel hn]at h1;unfold valOf at h1;unfold eG at ha;split at ha<;>rename_i hu<;>first|(rw [hu]at h1;exact h1)|(cases ha)
 ·have h1:=yu (P:=P) (10000-n) n t ks hk a (jP _ _ _ _ h).1 e w;rw [Nat.sub_add_cancel hn]at h1;unfold valOf at h1;unfold eG at ha;split at ha<;>rename_i hu<;>first|(rw [hu]at h1;exact h1)|(cases ha)
end
end
section
theorem wC (P:Program)(w:World)(d:Nat){t e:TypeId}{b:Option Addr}{len cap:Nat}(hu:P.underlying t=some (.slice e)):(Op.equalIn (d+1) t (.slice b len cap) (.slice none 0 0)).run P w= .ok b.isNone w:=by
 cases b<;>simp [Op.equalIn,aJ w hu]
theorem Js (P:Program)(w:World){t e:TypeId}{b:Option Addr}{len cap:Nat}(hu:P.underlying t=some (.slice e)):(binOp .eql t (.slice b len cap) (.slice none 0 0)).run P w= .ok (.bool b.isNone) w:=by
 have:=wC P w 9999 (b:=b) (len:=len) (cap:=cap) hu;simp only [binOp];simp only [Op.equal,Op.maxDepth,Sem.run_bind,this,Result.andThen_ok,Sem.run_pure]
section
variable {w:World}
theorem Jt (K:Ctx) (hK:iJ K) {n id:Nat} {f:FuncId} {g:Func} {A X D:Code} {t0 t1 t2:TypeId} {p3 p4:String} {a3 a4:Array Edge} {t t' e:TypeId} {st1 stX stD:bM}
  (hf:K.P.funcs[f]? =some g)
  (hb:g.body=some (.seq A (.seq (.seq (.region id #[⟨some 3, .move (.tmp 0),t0,p3,a3,none⟩,⟨some 4, .binOp .eql t (.tmp 3) (.const (.slice none 0 0)) t',t1,p4,a4,none⟩] false) (.cond (.tmp 4) X .skip)) D)))
  (hname:(g.name== "runtime.NumGoroutine")=false) (hnt:g.ntmps=8) (ht:K.P.underlying t=some (.slice e))
  (hA:da K n f A ⟨[(0, .pure (.slice []))],[[],[]],8⟩=some (.normal,st1)) (h0:look st1.s 0= .pure (.slice []))
  (hX:da K n f X ⟨(4, .pure (.bool true))::(3, .pure (.slice []))::st1.s,st1.h,8⟩=some (.ret,stX)) (hD:da K n f D ⟨(4, .pure (.bool false))::(3, .pure (.slice []))::st1.s,st1.h,8⟩=some (.ret,stD))
  (rX:fk K g stX=some [.aS]) (rD:fk K g stD=some [.aS]):zD K.P f:=by
 intro w av cap;have hS:a9 w (fun b=>b<w.heap.size) (fun _ _=>none) ([[],[]]:ai):=⟨fun nm x hx t b hb=>by simp at hb,fun nm t b hb=>by simp at hb,fun nm nm' t t' b h1 h2=>by simp at h1,fun nm t b hb=>by simp at hb,fun b hb=>hb⟩;have hst:kC w.heap.size none w (fun b=>b<w.heap.size) (fun _ _=>none) ⟨[(0, .pure (.slice []))],[[],[]],8⟩ {tmps:= #[.slice av 0 cap]++Array.replicate 7 undef,defers:=[]}:=by
  refine⟨hS,fun q=> ?_,by simp,by simp,Nat.le_refl _,⟨fun d hd=>by simp at hd, .nil⟩,fun l hl=>by cases hl⟩;rw [xU];simp only [look];split
  ·rename_i e;subst e;exact .pure _ _ (.fG _ _)
  ·exact dR _
 refine⟨by simp only [callFunc,Sem.run_bind,run_program,Result.andThen,hf,hname,hb];rfl, ?_⟩
 have fin: ∀(st:bM),fk K g st=some [.aS]→ ∀(e':Exit) (a':Act) (w':World),lI w.heap.size none ⟨[(0, .pure (.slice []))],[[],[]],8⟩ w (fun b=>b<w.heap.size) (fun _ _=>none) .ret st e' a' w'→
   e'= .ret∧LeavesInM (Fw none) 0 K.P g a'.tmps (fun e w'=>(∃a',e= .returned (.slice a' 0 0))∧w'.os=w.os∧w'.tape=w.tape∧w'.output=w.output∧w.heap.size≤w'.heap.size∧ ∀b,b<w.heap.size→w'.heap[b]? =w.heap[b]?) a'.defers .returning w':=by
  intro st hres e' a' w' hq;obtain⟨q1,q2,q3,S',μ',q4,q5⟩:=hq;refine⟨q1,vU (s:=st.s) (k:=st.h.length-1) a'.defers w' q4.defs q4.heap q5 (Nat.le_refl _) q4.eA fun w2 h2 e2 s2=> ?_⟩;obtain⟨u,u1,u2⟩:=tK K h2 s2 hres;refine⟨u,u1, ?_,e2.os,e2.tape,e2.out,e2.size,fun b hb=>e2.same b hb (.inl hb)⟩;have u3:aE w2 S' μ' (st.h.length-1) u .aS:=u2
  cases u3 with
  |aS a=>exact⟨a,rfl⟩
 have hn8:g.ntmps-(#[Value.slice av 0 cap]:Array Value).size=7:=(by rw [hnt];rfl);refine callsIn_of_wp_marks hf hb trivial ?_;rw [hn8];refine wpIn_seq (wpIn_mono (jY K hK n f A _ _ _ hA _ none w _ _ _ hst) fun e' a1 w1 hq1=> ?_);obtain⟨q1,q2,q3,S1,μ1,q4,q5⟩:=hq1;simp only [eL]at q1;subst q1;simp only [Exit.then];have hv:=q4.eA 0;rw [h0]at hv;obtain⟨base,cap1,hbase,_⟩:=hv.pv.kQ;have hlen:st1.h.length=2:=q2;refine wpIn_seq (wpIn_seq (wpIn_region ?_));have hsz:a1.tmps.size=8:=q4.nt.trans q3;have hr:List.range (#[(⟨some 3, .move (.tmp 0),t0,p3,a3,none⟩:Oper),⟨some 4, .binOp .eql t (.tmp 3) (.const (.slice none 0 0)) t',t1,p4,a4,none⟩]:Array Oper).size=[0,1]:=rfl;rw [hr];simp only [wpOpsIn];simp only [List.getElem?_toArray,List.getElem?_cons_zero,List.getElem?_cons_succ,Region.wanted,if_true];refine uA K hK (jY K hK n) q4.heap q4.pos q4.eA (v:= .pure (.slice [])) (H':=st1.h) (fn:=f) (o:=⟨some 3, .move (.tmp 0),t0,p3,a3,none⟩) (s:=st1.s) (by simp [cD,gM,ez,ev,h0]) fun u3 w2 S2 μ2 hv3 hh3 he3 hl3=> ?_;obtain⟨base3,cap3,hu3,_⟩:=hv3.pv.kQ;have hu3:u3= .slice base3 0 cap3:=hu3;subst hu3;have hs1: ∀q,aE w2 S2 μ2 (st1.h.length-1) (a1.tmps.getD q undef) (look st1.s q):=oX q4.eA q4.heap he3 (Nat.le_refl _) (Nat.le_refl _);obtain⟨z1,z2,z3,z4,z5⟩:=pI (st:=⟨st1.s,st1.h,8⟩) (st':=⟨(3, .pure (.slice []))::st1.s,st1.h,8⟩) hs1 hsz hv3 rfl rfl (dst:=some 3) (by simp [bM.put]);refine⟨fun _ _=>trivial, ?_⟩;rw [Oper.semAt_eq _ _ _ (fun c e=>by cases e)];have he0:(a1.put (some 3) (.slice base3 0 cap3)).eval (.tmp 3)= .slice base3 0 cap3:=by
  show (a1.put (some 3) (.slice base3 0 cap3)).tmps.getD 3 undef=_
  rw [jW _ _ _ _ (by omega)];simp
 have hrun:(execOp (a1.put (some 3) (.slice base3 0 cap3)).eval ⟨some 4, .binOp .eql t (.tmp 3) (.const (.slice none 0 0)) t',t1,p4,a4,none⟩).run K.P w2= .ok (.value (.bool base3.isNone)) w2:=by
  have hc:(a1.put (some 3) (.slice base3 0 cap3)).eval (.const (.slice none 0 0))= .slice none 0 0:=rfl;have hg:(eqGuard .eql t (.tmp 3) (.const (.slice none 0 0)) (.slice base3 0 cap3) (.slice none 0 0)).run K.P w2= .ok () w2:=(by simp [eqGuard]);simp only [execOp,he0,hc,Sem.run_bind,hg,Result.andThen_ok,Js K.P w2 ht,Sem.run_pure]
 rw [hrun,Oper.uponIn_value];simp only;have hb4:aE w2 S2 μ2 (st1.h.length-1) (.bool base3.isNone) (.pure (.bool base3.isNone)):= .pure _ _ (.bool _);obtain⟨y1,y2,y3,y4,y5⟩:=pI (st:=⟨(3, .pure (.slice []))::st1.s,st1.h,8⟩) (st':=⟨(4, .pure (.bool base3.isNone))::(3, .pure (.slice []))::st1.s,st1.h,8⟩) z1 (z2.trans rfl) hb4 rfl rfl (dst:=some 4) (by simp [bM.put])
 have hst2:kC w.heap.size none w2 S2 μ2 ⟨(4, .pure (.bool base3.isNone))::(3, .pure (.slice []))::st1.s,st1.h,8⟩ ((a1.put (some 3) (.slice base3 0 cap3)).put (some 4) (.bool base3.isNone)):=
  ⟨hh3,y1,y2.trans rfl,q4.pos,Nat.le_trans q4.low he3.size,by rw [y5,z5];exact q4.defs.ev he3,fun l hl=>by cases hl⟩
 have hc4:((a1.put (some 3) (.slice base3 0 cap3)).put (some 4) (.bool base3.isNone)).eval (.tmp 4)= .bool base3.isNone:=by
  show ((a1.put (some 3) (.slice base3 0 cap3)).put (some 4) (.bool base3.isNone)).tmps.getD 4 undef=_
  rw [jW _ _ _ _ (by rw [z2];simp)];simp
 have hE:=q5.trans (he3.level (by simp [hlen]));simp only [Exit.then];refine wpIn_cond hc4 ?_
 have out: ∀(st:bM) (e':Exit) (a':Act) (w':World),lI w.heap.size none ⟨(4, .pure (.bool base3.isNone))::(3, .pure (.slice []))::st1.s,st1.h,8⟩ w2 S2 μ2 .ret st e' a' w'→
   lI w.heap.size none ⟨[(0, .pure (.slice []))],[[],[]],8⟩ w (fun b=>b<w.heap.size) (fun _ _=>none) .ret st e' a' w':=fun st e' a' w' hq=>by
  obtain⟨k1,k2,k3,S',μ',k4,k5⟩:=hq;exact⟨k1,k2.trans hlen,k3,S',μ',k4,hE.trans (k5.level (by simp [hlen]))⟩
 cases hbn:base3.isNone with
 |true=>
  simp only [if_true];rw [hbn]at hst2 out;refine wpIn_mono (jY K hK n f X _ _ _ hX _ none w2 _ _ _ hst2) fun e' a' w' hq=> ?_;obtain⟨k1,k2⟩:=fin stX rX e' a' w' (out _ _ _ _ hq);subst k1;exact k2
 |false=>
  simp only [Bool.false_eq_true,if_false];rw [hbn]at hst2 out;refine wpIn_skip ?_;simp only [Exit.then];refine wpIn_mono (jY K hK n f D _ _ _ hD _ none w2 _ _ _ hst2) fun e' a' w' hq=> ?_;obtain⟨k1,k2⟩:=fin stD rD e' a' w' (out _ _ _ _ hq);subst k1;exact k2
def uQ:Option (List GV)→Bool
 |some [.aS]=>true
 |_=>false
def isE:GV→Bool
 | .pure (.slice [])=>true
 |_=>false
def Ju (K:Ctx)(n:Nat)(f:FuncId)(g:Func)(A X D:Code)(t:TypeId):Bool:=
 match da K n f A ⟨[(0, .pure (.slice []))],[[],[]],8⟩with
 |some (.normal,st1)=>
  isE (look st1.s 0) && (dz K.P t).isSome &&
  (match da K n f X ⟨(4, .pure (.bool true))::(3, .pure (.slice []))::st1.s,st1.h,8⟩with|some (.ret,st)=>uQ (fk K g st)|_=>false) &&
  (match da K n f D ⟨(4, .pure (.bool false))::(3, .pure (.slice []))::st1.s,st1.h,8⟩with|some (.ret,st)=>uQ (fk K g st)|_=>false)
 |_=>false
theorem wD {x:Option (List GV)}(h:uQ x=true):x=some [.aS]:=by
 unfold uQ at h;split at h
 ·rfl
 ·cases h
theorem kS (K:Ctx) (hK:iJ K) {n id:Nat} {f:FuncId} {g:Func} {A X D:Code} {t0 t1:TypeId} {p3 p4:String} {a3 a4:Array Edge} {t t':TypeId}
  (hf:K.P.funcs[f]? =some g)
  (hb:g.body=some (.seq A (.seq (.seq (.region id #[⟨some 3, .move (.tmp 0),t0,p3,a3,none⟩,⟨some 4, .binOp .eql t (.tmp 3) (.const (.slice none 0 0)) t',t1,p4,a4,none⟩] false) (.cond (.tmp 4) X .skip)) D)))
  (hname:(g.name== "runtime.NumGoroutine")=false) (hnt:g.ntmps=8) (h:Ju K n f g A X D t=true):zD K.P f:=by
 unfold Ju at h;split at h
 ·rename_i st1 hA;simp only [Bool.and_eq_true]at h;obtain⟨⟨⟨h0,ht⟩,hX⟩,hD⟩:=h;obtain⟨e,he⟩:=Option.isSome_iff_exists.1 ht;have h0':look st1.s 0= .pure (.slice []):=by
   unfold isE at h0;split at h0
   ·assumption
   ·cases h0
  split at hX
  ·rename_i stX eX;split at hD
   ·rename_i stD eD;exact Jt K hK (t2:=0) hf hb hname hnt (df he) hA h0' eX eD (wD hX) (wD hD)
   ·cases hD
  ·cases hX
 ·cases h
end
end
section
open Go.ChangeShapes Go.WideShapes Go.RowKit Go.ChangeAt
section
variable {P:Program} {H:Type} {enc:TypeId×Value→H}
theorem qe (hl:laidOutB P=true){W W':World}(hb:Below W.heap.size W W'): ∀(ts:List TypeId) (vs:List Value) (ds:List (DataW H)) (ps:List MemPlace),(∀t∈ts,P.readableRec t=true∧t<P.types.size)→
  DataW.TrodAll enc P W 0 (fun _=>true) true ts vs ds ps→DataW.TrodAll enc P W' 0 (fun b=>decide (b<W.heap.size)) true ts vs ds ps
 | [],vs,ds,ps,_,h=>by
  obtain⟨rfl,rfl,rfl⟩:=trodAll_nil h;exact trodAll_mk0
 |t::ts,vs,ds,ps,ht,h=>by
  obtain⟨v,vs',d,ds',p,q,rfl,rfl,rfl,h1,h2⟩:=trodAll_cons h;obtain⟨a1,a2⟩:=ht t (List.mem_cons_self ..);have hlt: ∀x∈p,x.block<W.heap.size:=(by obtain⟨m,hm⟩:=h1;exact DataW.trod_lt m _ _ _ hm);exact trodAll_cons_mk (Below.trod hl a1 a2 h1 hb hlt) (qe hl hb ts vs' ds' q (fun t ht'=>ht t (List.mem_cons_of_mem _ ht')) h2)
theorem BD {w:World}{base:Nat}{n:Nat}: ∀(ts:List TypeId) (vs:List Value) (ds:List (DataW H)) (ps:List MemPlace),(∀t∈ts,jU P n t=true)→
  (∀(j:Nat) t v,ts[j]? =some t→vs[j]? =some v→Value.okWide P w .any base t v)→
  DataW.TrodAll enc P w 0 (fun _=>true) true ts vs ds ps→ds.length=ts.length∧ ∃pvs,xC P n ts pvs∧pvs.length=vs.length∧ ∀j,j<vs.length→aE w (S0 w) N6 0 (vs.getD j undef) (.pure (pvs.getD j .dead))
 | [],vs,ds,ps,_,_,h=>by
  obtain⟨rfl,rfl,rfl⟩:=trodAll_nil h;exact⟨rfl,[],trivial,rfl,by simp⟩
 |t::ts,vs,ds,ps,ht,hok,h=>by
  obtain⟨v,vs',d,ds',p,q,rfl,rfl,rfl,h1,h2⟩:=trodAll_cons h;obtain⟨hl,pvs,a1,a2,a3⟩:=BD ts vs' ds' q (fun t ht'=>ht t (List.mem_cons_of_mem _ ht')) (fun j t v h1 h2=>hok (j+1) t v (by simpa using h1) (by simpa using h2)) h2;obtain⟨pv,b1,b2⟩:=N8 (ht t (List.mem_cons_self ..)) (hok 0 t v rfl rfl) h1;refine⟨by simp [hl],pv::pvs,⟨b2,a1⟩,by simp [a2],fun j hj=> ?_⟩
  cases j with
  |zero=>exact b1
  |succ j=>exact a3 j (by simpa using hj)
end
theorem aaI (w:World):a9 w (S0 w) N6 [[]]:=
 ⟨fun nm x hx=>by simp [ai.get,Fr.get]at hx,fun nm t b h=>by simp [N6]at h,fun nm nm' t t' b h=>by simp [N6]at h,fun nm t b h=>by simp [N6]at h,fun b h=>h⟩
theorem BE {w w':World}{S':Nat→Prop}{μ':Mu}{l:Nat}(h:Ev l w (S0 w) N6 w' S' μ'):Below w.heap.size w w':=
 ⟨h.os,h.tape,h.out,h.size,fun k hk=>h.same k hk (.inl hk)⟩
theorem GD {K:Ctx} (hK:iJ K) {f:FuncId} {pvs:List PV} {H':ai} (h:aN K (aF K) f (pvs.map .pure) 0 [[]]=some (.pure (.bool true),H')) {w:World} {vs:Array Value}
  (hl:pvs.length=vs.size) (hrel: ∀j,j<vs.size→aE w (S0 w) N6 0 (vs.getD j undef) (.pure (pvs.getD j .dead))):
  Calls K.P f vs w fun e w'=>e= .returned (.bool true)∧Below w.heap.size w w':=by
 obtain⟨_,h2⟩:=zc K hK (Af K hK) h (aaI w) (vs:=vs) (by simp [hl]) (fun j hj=>by
  have hj':j<pvs.length:=(by simpa using hj);have e:(pvs.map GV.pure).getD j aO= .pure (pvs.getD j .dead):=(by simp [List.getD_eq_getElem?_getD,hj']);rw [e];exact hrel j (by omega))
 refine(callsIn_wide (n:=0).1 h2).mono fun e w' hd=> ?_;obtain⟨u,S',μ',rfl,hv,_,hev,_⟩:=hd
 cases hv with
 |pure _ _ hp=>
  cases hp;exact⟨rfl,BE hev⟩
theorem Dy {H:Type} {enc:TypeId×Value→H} {C:Checked} {os:Os} {f:FuncId} {fn:Func} {s:ChangeSpec} {conds:List PathCond} {K:Ctx} (hK:iJ K) (hP:K.P=C.prog) (n:Nat)
  (own:ownKnob C.prog.godebug=none) (started:os.Started) (noInit:C.prog.inits.idxOf? f=none) (hlaid:laidOutB C.prog=true) (hfn:C.prog.funcs[f]? =some fn)
  (hv:s.vars=[]) (hs: ∀ds:List (DataW H),ds.length=fn.params.toList.length→s.fn H ds={results:=[.lit (.bool true)],args:=ds})
  {tb:TypeId} (hr:fn.resultTypes= #[tb]) (htb:C.prog.underlying tb=some .bool)
  (hpl:(fn.params.toList.all fun t=>jU C.prog n t && C.prog.readableRec t && decide (t<C.prog.types.size))=true)
  (witness: ∃(w:World) (tape:Tape) (i:Input),w.os=os∧(w.forCall tape i).Shaped C.prog∧i.vars=[]∧Input.okWide C.prog (w.forCall tape i) .any w.heap.size f i∧
   s.pre6 enc C.prog fn conds false (w.forCall tape i).memory i.args∧({}:Assume).holds C.prog (lone (Frame.enter C.prog f i.args .normal) [] (w.forCall tape i)))
  (hlaw: ∀pvs:List PV,xC C.prog n fn.params.toList pvs→ ∃H',aN K (aF K) f (pvs.map .pure) 0 [[]]=some (.pure (.bool true),H')):
  ReturnsInHanded {} C os f .any (s.pre6 enc C.prog fn conds false) (s.post enc C.prog fn false true false false):=by
 refine returnsInHanded_of_change own started noInit hfn witness ?_;intro W base args ds gs before hval hW hcnd _;have hW':=hW;obtain⟨p,q,hA,hV,rfl,hfz,hnd⟩:=hW;simp only [List.all_eq_true,Bool.and_eq_true,decide_eq_true_eq]at hpl;rw [hv]at hV;obtain⟨rfl,rfl⟩:=trodVars_none hV;obtain⟨hdl,pvs,a1,a2,a3⟩:=BD fn.params.toList args.toList ds p (fun t ht=>(hpl t ht).1.1) (fun j t v h1 h2=>hval j t v (by simpa using h1) (by simpa using h2)) hA;obtain⟨H',hg⟩:=hlaw pvs a1;have hc:=GD hK hg (w:=W) (vs:=args) (by simpa using a2) (fun j hj=>by
  have:=a3 j (by simpa using hj);simpa [List.getD_eq_getElem?_getD]using this)
 rw [hP]at hc;refine hc.mono fun e W' ⟨he,bel⟩=> ?_;subst he;have hfn':s.fn H (ds++[])={results:=[.lit (.bool true)],args:=ds}:=(by rw [List.append_nil];exact hs ds hdl);refine⟨_,rfl,ds,[],p++[],[],p,[],hW', ?_, ?_, ?_,bel.frame _,fun h=>by cases h⟩
 ·rw [hfn',hr];exact trodAll_mk1 (shut_bool htb _)
 ·rw [hfn'];exact qe hlaid bel _ _ _ _ (fun t ht=>⟨(hpl t ht).1.2,(hpl t ht).2⟩) hA
 ·rw [hfn',hv];rfl
end
theorem Ra (cl:List Nat)(t:Nat)(ks:List SK)(h:(LZ cl).eqs t=some ks):Tt Tryz.prog t ks:=by
 have h':yo t=some ks:=h;unfold yo at h';split at h';all_goals first|(cases h';exact N9 (P:=Tryz.prog) 5 (by omega) (by kernel_rfl) (by kernel_rfl) (by kernel_rfl))|cases h'
theorem td:iJ (LZ []) where
 zV:=fun f h=>by
  have:([]:List Nat).contains f=true:=h;simp at this
 eqs:=Ra []
 mixed:=by kernel_rfl
theorem aaJ:iJ KC where
 zV:=fun f h=>by
  have h1:LY.contains f=true:=h;simp only [LY,List.contains_cons,List.contains_nil,Bool.or_false,Bool.or_eq_true,beq_iff_eq]at h1;rcases h1 with rfl|rfl|rfl|rfl|rfl|rfl
  ·exact kS (LZ []) td (n:=20) (g:=Tryz.f99) Tryz.func99 rfl rfl rfl (by kernel_rfl)
  ·exact kS (LZ []) td (n:=20) (g:=Tryz.f100) Tryz.func100 rfl rfl rfl (by kernel_rfl)
  ·exact kS (LZ []) td (n:=20) (g:=Tryz.f101) Tryz.func101 rfl rfl rfl (by kernel_rfl)
  ·exact kS (LZ []) td (n:=20) (g:=Tryz.f102) Tryz.func102 rfl rfl rfl (by kernel_rfl)
  ·exact kS (LZ []) td (n:=20) (g:=Tryz.f103) Tryz.func103 rfl rfl rfl (by kernel_rfl)
  ·exact kS (LZ []) td (n:=20) (g:=Tryz.f75) Tryz.func75 rfl rfl rfl (by kernel_rfl)
 eqs:=Ra LY
 mixed:=by kernel_rfl
end Go.Gh
