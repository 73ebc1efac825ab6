/- Texts joined: the evaluator over ghost values, its soundness, the walks. Spaces struck and names made short by a program, for the size. -/
import Derived.Test.YtkcmcjohoockcaaGreatGc6d
namespace Go.Gh
set_option linter.unusedVariables false
set_option linter.unusedSimpArgs false
set_option linter.unnecessarySimpa false
set_option maxRecDepth 100000
set_option maxHeartbeats 8000000
section
def Hd (w0 w:World)(S:Nat→Prop)(μ:Mu)(P:Program)(o:Oper)(u:Value)(b:Nat):Prop:=
 u= .pointer (some ⟨b,0,none⟩)∧w0.heap.size≤b∧b<w.heap.size∧ ¬S b∧(∀nm t,μ nm t≠some b)∧
 ∃ty v cs,o.op= .alloc ty∧ct P ty=some (ofConst v)∧bG (ofConst v)=some cs∧w.heap[b]? =some (.cells v.cells ty (0,0))
section
variable {w w':World} {S S':Nat→Prop} {μ μ':Mu} {ℓ:Nat}
theorem Hd.ev {w0:World}{P:Program}{o:Oper}{u:Value}{b:Nat}(h:Hd w0 w S μ P o u b)(e:Ev ℓ w S μ w' S' μ'):Hd w0 w' S' μ' P o u b:=by
 obtain⟨h1,h2,h3,h4,h5,ty,v,cs,h6,h7,h8,h9⟩:=h;refine⟨h1,h2,Nat.lt_of_lt_of_le h3 e.size,fun hs=> ?_,fun nm t hm=> ?_,ty,v,cs,h6,h7,h8,by rw [e.same b h3 (.inr h5)];exact h9⟩
 ·rcases e.wV b hs h3 with h|⟨nm,t,h⟩
  ·exact h4 h
  ·exact h5 _ _ h
 ·obtain⟨nm',t',h'⟩:=e.own nm t b hm h3;exact h5 _ _ h'
end
section
variable (K:Ctx) (rec:Rec) (fn:FuncId) (ops:Array Oper) (st0:bM) (base:Nat) (r:Option Nat) (w0:World) (S0:Nat→Prop) (μ0:Mu)
abbrev TT (j:Nat):TS:=dT K rec fn ops.toList st0 j
abbrev KK (j:Nat):Nat:=dk K rec fn ops.toList st0 j
abbrev VV (j:Nat):GV:=dv K rec fn ops.toList st0 j
structure lH (listed:Array Bool)(a:Act)(w:World)(S:Nat→Prop)(μ:Mu)(e:Nat)(pd:Nat→Nat):Prop where
 sz:listed.size=ops.size
 Vh:B5 ops listed
 le:e≤ops.size
 ww: ∀j,j<ops.size→KK K rec fn ops st0 j=3→(listed.getD j false=true↔j<e)
 al: ∀j,j<e→KK K rec fn ops st0 j=2→listed.getD j false=true
 v1: ∀(j:Nat) (o:Oper) (d:Nat),ops.toList[j]? =some o→o.dst=some d→listed.getD j false=true→(KK K rec fn ops st0 j=2→j<e)→aE w S μ (st0.h.length-1) (a.tmps.getD d undef) (VV K rec fn ops st0 j)
 v0: ∀t,(∀(j:Nat) (o:Oper),ops.toList[j]? =some o→listed.getD j false=true→o.dst≠some t)→aE w S μ (st0.h.length-1) (a.tmps.getD t undef) (look st0.s t)
 pa: ∀(j:Nat) (o:Oper) (d:Nat),ops.toList[j]? =some o→o.dst=some d→listed.getD j false=true→KK K rec fn ops st0 j=2→e≤j→Hd w0 w S μ K.P o (a.tmps.getD d undef) (pd j)
 EH: ∀i j,i<ops.size→j<ops.size→listed.getD i false=true→listed.getD j false=true→KK K rec fn ops st0 i=2→KK K rec fn ops st0 j=2→e≤i→e≤j→pd i=pd j→i=j
 nt:a.tmps.size=st0.nt
 low:base≤w.heap.size
 defs:tj base w S μ a.defers
 round: ∀l,r=some l→ ∃q:Loop,w.heap[l]? =some (.loop q)
 ev:Ev (st0.h.length-1) w0 S0 μ0 w S μ
end
section
variable {K:Ctx} {rec:Rec} {fn:FuncId} {ops:Array Oper} {st0:bM} {base:Nat} {r:Option Nat} {w0:World} {S0:Nat→Prop} {μ0:Mu}
variable {listed:Array Bool} {a:Act} {w w':World} {S S':Nat→Prop} {μ μ':Mu} {e:Nat} {pd:Nat→Nat}
theorem lH.step (h : lH K rec fn ops st0 base r w0 S0 μ0 listed a w S μ e pd) (hlt : ∀ b, S b → b < w.heap.size) (he : Ev (st0.h.length - 1) w S μ w' S' μ') :
    lH K rec fn ops st0 base r w0 S0 μ0 listed a w' S' μ' e pd :=
  { h with
    v1 := fun j o d h1 h2 h3 h4 => he.val hlt (Nat.le_refl _) (h.v1 j o d h1 h2 h3 h4)
    v0 := fun t ht => he.val hlt (Nat.le_refl _) (h.v0 t ht)
    pa := fun j o d h1 h2 h3 h4 h5 => (h.pa j o d h1 h2 h3 h4 h5).ev he
    low := Nat.le_trans h.low he.size
    defs := h.defs.ev he
    round := oy h.round he
    ev := h.ev.trans he }
theorem lH.abN (h : lH K rec fn ops st0 base r w0 S0 μ0 listed a w S μ e pd) {i : Nat} (hi : listed.getD i false = false) (b : Nat) :
    lH K rec fn ops st0 base r w0 S0 μ0 listed a w S μ e (fun j => if j = i then b else pd j) :=
  { h with
    pa := fun j o d h1 h2 h3 h4 h5 => by
      have : j ≠ i := fun e => by rw [e, hi] at h3; cases h3
      simp only [if_neg this]
      exact h.pa j o d h1 h2 h3 h4 h5
    EH := fun j k hj hk h1 h2 h3 h4 h5 h6 h7 => by
      have n1 : j ≠ i := fun e => by rw [e, hi] at h1; cases h1
      have n2 : k ≠ i := fun e => by rw [e, hi] at h2; cases h2
      simp only [if_neg n1, if_neg n2] at h7
      exact h.EH j k hj hk h1 h2 h3 h4 h5 h6 h7 }
theorem toList_get {j:Nat}{o:Oper}:ops.toList[j]? =some o↔ops[j]? =some o:=by rw [Array.getElem?_toList]
theorem mB {i:Nat}(h:i∈Region.ready .any ops listed)(hsz:listed.size=ops.size):listed.getD i false=false∧i<ops.size∧ ∃o,ops.toList[i]? =some o∧ops[i]? =some o∧ ∀e∈o.after,Region.binds .any e=true→listed.getD e.on false=true:=by
 obtain⟨h1,o,h2,h3⟩:=mem_ready.1 h;have hi:i<ops.size:=(Array.getElem?_eq_some_iff.1 h2).1;refine⟨?_,hi,o,toList_get.2 h2,h2,h3⟩;rw [Array.getD_eq_getD_getElem?]at h1⊢;rw [Array.getElem?_eq_getElem (by omega)]at h1⊢;exact h1
theorem lH.put (D:uR K fn ops.toList (Region.before ops)) (h:lH K rec fn ops st0 base r w0 S0 μ0 listed a w S μ e pd) {i e':Nat} {o:Oper} (hi:i∈Region.ready .any ops listed) (ho:ops.toList[i]? =some o)
  (hd: ∀d,o.dst=some d→d<st0.nt) (u:Value) (hu:KK K rec fn ops st0 i≠2→aE w S μ (st0.h.length-1) u (VV K rec fn ops st0 i))
  (ha:KK K rec fn ops st0 i=2→Hd w0 w S μ K.P o u (pd i)∧ ∀j,j<ops.size→listed.getD j false=true→KK K rec fn ops st0 j=2→e≤j→pd j≠pd i)
  (he:(KK K rec fn ops st0 i≠3∧e'=e)∨(KK K rec fn ops st0 i=3∧e=i∧e'=i+1)):
  lH K rec fn ops st0 base r w0 S0 μ0 (listed.setIfInBounds i true) (a.put o.dst u) w S μ e' pd:=by
 obtain⟨hl,hin,o',ho',_,haft⟩:=mB hi h.sz;rw [ho]at ho';cases ho';have hset: ∀j,(listed.setIfInBounds i true).getD j false=true↔j=i∨listed.getD j false=true:=fun j=>uS (by rw [h.sz];exact hin);have hpast: ∀j d (oj:Oper),ops.toList[j]? =some oj→oj.dst=some d→j≠i→(a.put o.dst u).tmps.getD d undef=a.tmps.getD d undef:=fun j d oj hj hdj hne=>by
  cases hod:o.dst with
  |none=>rfl
  |some d'=>
   have:d≠d':=fun e=>hne (Ke D.nodup hj ho hdj (by rw [hod,e]));rw [jW a d' u d (by rw [h.nt];exact hd d' hod),if_neg this]
 have hee:e≤e':=by rcases he with ⟨_,h'⟩|⟨_,h1,h2⟩<;>omega
 have hlow:KK K rec fn ops st0 i=2→e≤i:=fun h2=>by
  rcases Nat.lt_or_ge i e with h'|h'
  ·have:=h.al i h' h2;rw [hl]at this;cases this
  ·exact h'
 refine⟨by rw [Array.size_setIfInBounds];exact h.sz,fun j oj hj hlj ed hed hb=> ?_, ?_,fun j hj h3=> ?_,fun j hj h2=> ?_,fun j oj d hj hdj hlj h2=> ?_,fun t ht=> ?_,fun j oj d hj hdj hlj h2 hle=> ?_,
  fun j k hj hk hlj hlk h2 h2' hle hle' heq=> ?_, ?_,h.low, ?_,h.round,h.ev⟩
 ·refine(hset _).2 (.inr ?_);rcases(hset j).1 hlj with rfl|hlj
  ·have:=toList_get.2 hj;rw [ho]at this;cases this;exact haft ed hed hb
  ·exact h.Vh j oj hj hlj ed hed hb
 ·have:=h.le;rcases he with ⟨_,h'⟩|⟨_,h1,h2⟩<;>omega
 ·rw [hset j];rcases he with ⟨h4,h5⟩|⟨h4,h5,h6⟩
  ·have:j≠i:=fun e=>h4 (e▸h3);rw [h5,←h.ww j hj h3];simp [this]
  ·rw [h.ww j hj h3];omega
 ·refine(hset j).2 ?_;by_cases e1:j=i
  ·exact .inl e1
  ·refine .inr (h.al j ?_ h2);rcases he with ⟨_,h'⟩|⟨_,h1,h2⟩<;>omega
 ·by_cases e1:j=i
  ·subst e1;rw [ho]at hj;cases hj;rw [hdj,jW a d u d (by rw [h.nt];exact hd d hdj),if_pos rfl];refine hu fun h2'=> ?_;have:=h2 h2';have:=hlow h2';rcases he with ⟨h4,h5⟩|⟨h4,h5,h6⟩
   ·omega
   ·rw [h2']at h4;cases h4
  ·rw [hpast j d oj hj hdj e1];refine h.v1 j oj d hj hdj (((hset j).1 hlj).resolve_left e1) fun h2'=> ?_;have:=h2 h2';rcases he with ⟨_,h'⟩|⟨_,h1,h2⟩<;>omega
 ·have hne:o.dst≠some t:=ht i o ho ((hset i).2 (.inl rfl));have:(a.put o.dst u).tmps.getD t undef=a.tmps.getD t undef:=by
   cases hod:o.dst with
   |none=>rfl
   |some d'=>
    have:t≠d':=fun e=>hne (by rw [hod,e]);rw [jW a d' u t (by rw [h.nt];exact hd d' hod),if_neg this]
  rw [this];exact h.v0 t fun j oj hj hlj=>ht j oj hj ((hset j).2 (.inr hlj))
 ·by_cases e1:j=i
  ·subst e1;rw [ho]at hj;cases hj;rw [hdj,jW a d u d (by rw [h.nt];exact hd d hdj),if_pos rfl];exact(ha h2).1
  ·rw [hpast j d oj hj hdj e1];exact h.pa j oj d hj hdj (((hset j).1 hlj).resolve_left e1) h2 (by omega)
 ·by_cases e1:j=i
  ·subst e1;by_cases e2:k=j
   ·exact e2.symm
   ·exact absurd heq.symm ((ha h2).2 k hk (((hset k).1 hlk).resolve_left e2) h2' (by omega))
  ·by_cases e2:k=i
   ·subst e2;exact absurd heq ((ha h2').2 j hj (((hset j).1 hlj).resolve_left e1) h2 (by omega))
   ·exact h.EH j k hj hk (((hset j).1 hlj).resolve_left e1) (((hset k).1 hlk).resolve_left e2) h2 h2' (by omega) (by omega) heq
 ·cases hod:o.dst with
  |none=>exact h.nt
  |some d=>simpa [Act.put]using h.nt
 ·have:(a.put o.dst u).defers=a.defers:=by cases o.dst<;>rfl
  rw [this];exact h.defs
theorem gz {nt j:Nat}{o:Oper}(ho:ops.toList[j]? =some o)(h:kU K rec fn ops.toList (Region.before ops) st0 nt j o):
  (KK K rec fn ops st0 j=0∧dA ops.toList (TT K rec fn ops st0 j).s o=some false∧VV K rec fn ops st0 j=kV∧(TT K rec fn ops st0 (j+1)).f=(TT K rec fn ops st0 j).f∧(TT K rec fn ops st0 (j+1)).b=(TT K rec fn ops st0 j).b)∨
  (KK K rec fn ops st0 j=1∧dA ops.toList (TT K rec fn ops st0 j).s o=some true∧cf K fn o=true∧(∃Hx,ez K fn o (TT K rec fn ops st0 j).s (TT K rec fn ops st0 j).b=some (VV K rec fn ops st0 j,Hx))∧
   (TT K rec fn ops st0 (j+1)).f=(TT K rec fn ops st0 j).f∧(TT K rec fn ops st0 (j+1)).b=(TT K rec fn ops st0 j).b)∨
  (KK K rec fn ops st0 j=2∧dA ops.toList (TT K rec fn ops st0 j).s o=some true∧cf K fn o=false∧cC o=true∧cD K rec fn o (TT K rec fn ops st0 j).s (TT K rec fn ops st0 j).f=some (VV K rec fn ops st0 j,(TT K rec fn ops st0 (j+1)).f)∧
   (TT K rec fn ops st0 (j+1)).b=(TT K rec fn ops st0 j).b)∨
  (KK K rec fn ops st0 j=3∧dA ops.toList (TT K rec fn ops st0 j).s o=some true∧cf K fn o=false∧cC o=false∧cD K rec fn o (TT K rec fn ops st0 j).s (TT K rec fn ops st0 j).f=some (VV K rec fn ops st0 j,(TT K rec fn ops st0 (j+1)).f)∧
   (TT K rec fn ops st0 (j+1)).b=(TT K rec fn ops st0 (j+1)).f):=by
 have hk:=h.kind;obtain⟨e1,-,-⟩:=yC K rec fn ops.toList st0 ho hk;have eb:(TT K rec fn ops st0 (j+1)).b=if KK K rec fn ops st0 j=3 then (TT K rec fn ops st0 (j+1)).f else (TT K rec fn ops st0 j).b:=by
  show (dT K rec fn ops.toList st0 (j+1)).b=_
  rw [e1]
 unfold nZ at hk;split at hk
 ·rename_i hw;simp only [Option.some.injEq,Prod.mk.injEq]at hk;obtain⟨k1,k2,k3⟩:=hk;refine .inl ⟨k1.symm,hw,k2.symm,k3.symm, ?_⟩;rw [eb,if_neg (by rw [show KK K rec fn ops st0 j=0 from k1.symm];omega)]
 ·rename_i hw;split at hk
  ·rename_i hp;split at hk
   ·rename_i v Hx hop;simp only [Option.some.injEq,Prod.mk.injEq]at hk;obtain⟨k1,k2,k3⟩:=hk;refine .inr (.inl ⟨k1.symm,hw,hp,⟨Hx,by rw [hop,k2]⟩,k3.symm, ?_⟩);rw [eb,if_neg (by rw [show KK K rec fn ops st0 j=1 from k1.symm];omega)]
   ·cases hk
  ·rename_i hp;split at hk
   ·rename_i v H hs;simp only [Option.some.injEq,Prod.mk.injEq]at hk;obtain⟨k1,k2,k3⟩:=hk;have hp':cf K fn o=false:=(by simpa using hp);by_cases ha:cC o=true
    ·rw [if_pos ha]at k1;refine .inr (.inr (.inl ⟨k1.symm,hw,hp',ha,by rw [hs,k2,k3], ?_⟩));rw [eb,if_neg (by rw [show KK K rec fn ops st0 j=2 from k1.symm];omega)]
    ·rw [if_neg ha]at k1;refine .inr (.inr (.inr ⟨k1.symm,hw,hp',by simpa using ha,by rw [hs,k2,k3], ?_⟩));rw [eb,if_pos k1.symm]
   ·cases hk
 ·cases hk
theorem mC (ok : ∀ (j : Nat) (o : Oper), ops.toList[j]? = some o → kU K rec fn ops.toList (Region.before ops) st0 st0.nt j o) {e : Nat} : ∀ i, e ≤ i → i ≤ ops.size → (∀ x, e ≤ x → x < i → KK K rec fn ops st0 x ≠ 3) →
    (TT K rec fn ops st0 i).b = (TT K rec fn ops st0 e).b := by
  intro i
  induction i with
  | zero => intro h1 _ _; have : e = 0 := by omega
            rw [this]
  | succ i ih =>
    intro h1 h2 h3
    by_cases e1 : e = i + 1
    · rw [e1]
    · have ho : ops.toList[i]? = some ops[i] := by simp [show i < ops.size by omega]
      have h4 := h3 i (by omega) (by omega)
      rw [← ih (by omega) (by omega) fun x hx hx' => h3 x hx (by omega)]
      rcases gz ho (ok i _ ho) with h | h | h | h
      · exact h.2.2.2.2
      · exact h.2.2.2.2.2
      · exact h.2.2.2.2.2
      · exact absurd h.1 h4
theorem He (p:Nat→Prop)(e:Nat): ∀i,e≤i→(∀x,e≤x→x<i→ ¬p x)∨ ∃x,e≤x∧x<i∧p x∧ ∀y,e≤y→y<x→ ¬p y:=by
 intro i
 induction i with
 |zero=>intro h;exact .inl fun x _ h=>by omega
 |succ i ih=>
  intro h;rcases Nat.lt_or_ge i e with h'|h'
  ·exact .inl fun x h1 h2=>by omega
  rcases ih h' with h1|⟨x,h1,h2,h3,h4⟩
  ·by_cases hp:p i
   ·exact .inr ⟨i,h',by omega,hp,h1⟩
   ·refine .inl fun x hx hx'=> ?_;by_cases e1:x=i
    ·rw [e1];exact hp
    ·exact h1 x hx (by omega)
  ·exact .inr ⟨x,h1,by omega,h3,h4⟩
theorem Kf (p:Nat→Prop)(i:Nat): ∀e,(∀x,i≤x→x<e→ ¬p x)∨ ∃x,i≤x∧x<e∧p x∧ ∀y,x<y→y<e→ ¬p y:=by
 intro e
 induction e with
 |zero=>exact .inl fun x _ h=>by omega
 |succ e ih=>
  by_cases hp:i≤e∧p e
  ·exact .inr ⟨e,hp.1,by omega,hp.2,fun y h1 h2=>by omega⟩
  ·rcases ih with h|⟨x,h1,h2,h3,h4⟩
   ·refine .inl fun x h1 h2 hx=> ?_;by_cases e1:x=e
    ·subst e1;exact hp ⟨h1,hx⟩
    ·exact h x h1 (by omega) hx
   ·refine .inr ⟨x,h1,by omega,h3,fun y hy hy' hpy=> ?_⟩;by_cases e1:y=e
    ·subst e1;exact hp ⟨by omega,hpy⟩
    ·exact h4 y hy (by omega) hpy
theorem uT {o:Oper}{s:aZ}{v:GV}{H:ai}(h:sameAt K fn o s v H=true): ∃Hx,ez K fn o s H=some (v,Hx):=by
 unfold sameAt at h;split at h
 ·rename_i v' Hx hg;exact⟨Hx,by rw [hg,GV.beq_eq _ _ h]⟩
 ·cases h
theorem Kg (ok: ∀(j:Nat) (o:Oper),ops.toList[j]? =some o→kU K rec fn ops.toList (Region.before ops) st0 st0.nt j o)
  (h:lH K rec fn ops st0 base r w0 S0 μ0 listed a w S μ e pd) {i:Nat} {o:Oper} (hi:i∈Region.ready .any ops listed) (ho:ops.toList[i]? =some o) (hk:KK K rec fn ops st0 i=1):
  cf K fn o=true∧ez K fn o (TT K rec fn ops st0 i).s (TT K rec fn ops st0 e).b=some (VV K rec fn ops st0 i,(TT K rec fn ops st0 e).b):=by
 obtain⟨hl,hin,o',ho',ho2,haft⟩:=mB hi h.sz;rw [ho]at ho';cases ho';have hbefore: ∀b,((Region.before ops).getD i 0).testBit b=true→listed.getD b false=true:=fun b hb=>jQ h.Vh i b hb fun o' ho' ed hed hbe=>by
  rw [ho2]at ho';cases ho';exact haft ed hed hbe
 have hs:=ok i o ho;obtain⟨hp,Hx,hg⟩:cf K fn o=true∧ ∃Hx,ez K fn o (TT K rec fn ops st0 i).s (TT K rec fn ops st0 i).b=some (VV K rec fn ops st0 i,Hx):=by
  rcases gz ho hs with h|h|h|h
  ·have:=h.1;omega
  ·exact⟨h.2.2.1,h.2.2.2.1⟩
  ·have:=h.1;omega
  ·have:=h.1;omega
 refine⟨hp, ?_⟩
 suffices hx: ∃Hx,ez K fn o (TT K rec fn ops st0 i).s (TT K rec fn ops st0 e).b=some (VV K rec fn ops st0 i,Hx)by
  obtain⟨Hy,hy⟩:=hx;rw [zY K hp hy]at hy;exact hy
 cases hR:EI o with
 |false=>exact⟨_,B6 K hp hR hg⟩
 |true=>
  rcases Nat.lt_or_ge i e with hie|hie
  ·rcases Kf (fun x=>KK K rec fn ops st0 x=3) (i+1) e with h1|⟨x,h1,h2,h3,h4⟩
   ·have e1:=mC ok (e:=i+1) e (by omega) h.le h1;have e2:(TT K rec fn ops st0 (i+1)).b=(TT K rec fn ops st0 i).b:=mC ok (i+1) (by omega) (by omega) fun x hx hx' h3=>by
     have:x=i:=(by omega);rw [this]at h3;omega
    rw [e1,e2];exact⟨_,hg⟩
   ·have hle:=h.le;have hox:ops.toList[x]? =some ops[x]:=by simp [show x<ops.size by omega]
    have e1:=mC ok (e:=x+1) e (by omega) h.le fun y hy hy'=>h4 y (by omega) hy';have e2:(TT K rec fn ops st0 (x+1)).b=(TT K rec fn ops st0 (x+1)).f:=by
     rcases gz hox (ok x _ hox)with h|h|h|h
     ·have:=h.1;omega
     ·have:=h.1;omega
     ·have:=h.1;omega
     ·exact h.2.2.2.2.2
    rw [e1,e2];rcases(ok x _ hox).wr h3 i (by omega) hk o ho hR with h5|h5
    ·exfalso;have hlx:=(h.ww x (by omega) h3).2 h2;have:=pS h.Vh hlx h5;rw [hl]at this;cases this
    ·exact uT h5
  ·rcases He (fun x=>KK K rec fn ops st0 x=3) e i hie with h1|⟨x,h1,h2,h3,h4⟩
   ·rw [←mC ok i hie (by omega) h1];exact⟨_,hg⟩
   ·rw [←mC ok x h1 (by omega) h4];rcases hs.rw hk hR x h2 h3 with h5|h5
    ·exfalso;have:=(h.ww x (by omega) h3).1 (hbefore x h5);omega
    ·exact uT h5
theorem yD (D:uR K fn ops.toList (Region.before ops)) (ok: ∀(j:Nat) (o:Oper),ops.toList[j]? =some o→kU K rec fn ops.toList (Region.before ops) st0 st0.nt j o)
  (h:lH K rec fn ops st0 base r w0 S0 μ0 listed a w S μ e pd) {i:Nat} {o:Oper} (hi:i∈Region.ready .any ops listed) (ho:ops.toList[i]? =some o) {t:Nat}
  (ht:t∈jx K fn o∨t∈mD ops.toList o) (hal: ∀(j:Nat) (oj:Oper),ops.toList[j]? =some oj→oj.dst=some t→KK K rec fn ops st0 j=2→j<i→j<e):
  aE w S μ (st0.h.length-1) (a.tmps.getD t undef) (look (TT K rec fn ops st0 i).s t):=by
 obtain⟨hl,hin,o',ho',ho2,haft⟩:=mB hi h.sz;rw [ho]at ho';cases ho';have hbefore: ∀b,((Region.before ops).getD i 0).testBit b=true→listed.getD b false=true:=fun b hb=>jQ h.Vh i b hb fun o' ho' ed hed hbe=>by
  rw [ho2]at ho';cases ho';exact haft ed hed hbe
 rcases DV K rec fn ops.toList (Region.before ops) st0 st0.nt ok D.nodup i t (by simp;omega)with ⟨j,oj,h1,h2,h3,h4⟩|⟨h1,h2⟩
 ·show aE w S μ _ _ (look (dT K rec fn ops.toList st0 i).s t)
  rw [h4];rcases D.dep j i oj o t h2 ho h3 ht with h5|⟨h5,h6⟩|⟨h5,h6⟩
  ·omega
  ·exact h.v1 j oj t h2 h3 (hbefore j h6) fun hk=>hal j oj h2 h3 hk h1
  ·omega
 ·show aE w S μ _ _ (look (dT K rec fn ops.toList st0 i).s t)
  rw [h2];refine h.v0 t fun j oj hj hlj hdj=> ?_;rcases Nat.lt_or_ge j i with h3|h3
  ·exact h1 j oj h3 hj hdj
  ·rcases D.dep j i oj o t hj ho hdj ht with h5|⟨h5,h6⟩|⟨h5,h6⟩
   ·subst h5;rw [hl]at hlj;cases hlj
   ·omega
   ·have:=pS h.Vh hlj h6;rw [hl]at this;cases this
theorem EJ (ok: ∀(j:Nat) (o:Oper),ops.toList[j]? =some o→kU K rec fn ops.toList (Region.before ops) st0 st0.nt j o)
  (h:lH K rec fn ops st0 base r w0 S0 μ0 listed a w S μ e pd) (hH:a9 w S μ (TT K rec fn ops st0 e).f) (hlen:(TT K rec fn ops st0 e).f.length=st0.h.length) (hpos:0<st0.h.length) (he:e<ops.size)
  (h3:KK K rec fn ops st0 e≠3) (h2:KK K rec fn ops st0 e=2→listed.getD e false=true):
  ∃μ',lH K rec fn ops st0 base r w0 S0 μ0 listed a w S μ' (e+1) pd∧a9 w S μ' (TT K rec fn ops st0 (e+1)).f∧(TT K rec fn ops st0 (e+1)).f.length=st0.h.length:=by
 have ho:ops.toList[e]? =some ops[e]:=by simp [he]
 have go: ∀μ',(KK K rec fn ops st0 e=2→ ∀d,ops[e].dst=some d→aE w S μ' (st0.h.length-1) (a.tmps.getD d undef) (VV K rec fn ops st0 e))→
   (∀n t b,μ n t=some b→μ' n t=some b)→(∀j,e<j→j<ops.size→listed.getD j false=true→KK K rec fn ops st0 j=2→ ∀nm t,μ' nm t≠some (pd j))→
   tj base w S μ' a.defers→Ev (st0.h.length-1) w0 S0 μ0 w S μ'→lH K rec fn ops st0 base r w0 S0 μ0 listed a w S μ' (e+1) pd:=by
  intro μ' hv hm hpd hdef hev;have hmono: ∀{v:Value} {g:GV},aE w S μ (st0.h.length-1) v g→aE w S μ' (st0.h.length-1) v g:=fun hv=>hv.mono (fun _ h=>h) (fun _ _=>rfl) (fun _ _ h=>h) (fun n t b _ h=>hm n t b h) (Nat.le_refl _)
  refine {h with
   le:=he
   ww:=fun j hj hj3=>by
    rw [h.ww j hj hj3];have:j≠e:=fun e1=>h3 (e1▸hj3);omega
   al:=fun j hj hj2=>by
    by_cases e1:j=e
    ·rw [e1];exact h2 (e1▸hj2)
    ·exact h.al j (by omega) hj2
   v1:=fun j o d hj hd hl hk=>by
    by_cases e1:j=e∧KK K rec fn ops st0 j=2
    ·obtain⟨e1,e2⟩:=e1;subst e1;rw [ho]at hj;cases hj;exact hv e2 d hd
    ·refine hmono (h.v1 j o d hj hd hl fun hk'=> ?_);have:=hk hk';have:j≠e:=fun e2=>e1 ⟨e2,hk'⟩;omega
   v0:=fun t ht=>hmono (h.v0 t ht)
   pa:=fun j o d hj hd hl hk hle=>by
    obtain⟨p1,p2,p3,p4,p5,p6⟩:=h.pa j o d hj hd hl hk (by omega);have hjs:j<ops.size:=(by have:=(List.getElem?_eq_some_iff.1 hj).1;simpa using this);exact⟨p1,p2,p3,p4,hpd j (by omega) hjs hl hk,p6⟩
   EH:=fun i j hi hj hli hlj hki hkj hei hej=>h.EH i j hi hj hli hlj hki hkj (by omega) (by omega)
   defs:=hdef
   ev:=hev}
 rcases gz ho (ok e _ ho)with q|q|q|q
 ·refine⟨μ,go μ (fun h=>by have:=q.1;omega) (fun _ _ _ h=>h) (fun j h1 h2 h3 h4=> ?_) h.defs h.ev,by rw [q.2.2.2.1];exact hH,by rw [q.2.2.2.1];exact hlen⟩;have hoj:ops.toList[j]? =some ops[j]:=(by simp [h2]);obtain⟨d,t,hd,_⟩: ∃d t,ops[j].dst=some d∧ops[j].op= .alloc t:=by
   rcases gz hoj (ok j _ hoj)with q|q|q|q
   ·have:=q.1;omega
   ·have:=q.1;omega
   ·obtain⟨d,t,h1,h2,_⟩:=iX q.2.2.2.1;exact⟨d,t,h1,h2⟩
   ·have:=q.1;omega
  exact(h.pa j _ d hoj hd h3 h4 (by omega)).2.2.2.2.1
 ·refine⟨μ,go μ (fun h=>by have:=q.1;omega) (fun _ _ _ h=>h) (fun j h1 h2 h3 h4=> ?_) h.defs h.ev,by rw [q.2.2.2.2.1];exact hH,by rw [q.2.2.2.2.1];exact hlen⟩;have hoj:ops.toList[j]? =some ops[j]:=(by simp [h2]);obtain⟨d,t,hd,_⟩: ∃d t,ops[j].dst=some d∧ops[j].op= .alloc t:=by
   rcases gz hoj (ok j _ hoj)with q|q|q|q
   ·have:=q.1;omega
   ·have:=q.1;omega
   ·obtain⟨d,t,h1,h2,_⟩:=iX q.2.2.2.1;exact⟨d,t,h1,h2⟩
   ·have:=q.1;omega
  exact(h.pa j _ d hoj hd h3 h4 (by omega)).2.2.2.2.1
 ·obtain⟨q1,q2,q3,q4,q5,q6⟩:=q;obtain⟨d,ty,hd,hop,_⟩:=iX q4;obtain⟨p1,p2,p3,p4,p5,ty',v,cs,p6,p7,p8,p9⟩:=h.pa e _ d ho hd (h2 q1) q1 (Nat.le_refl _);have hgo:gM ops[e]=none:=(by unfold gM;rw [hop]);unfold cD at q5;rw [hgo]at q5;simp only at q5;have hty:ty=ty':=(by rw [hop]at p6;cases p6;rfl);subst hty;unfold ez at q5;rw [hop]at q5;simp only [hd,p7,p8]at q5
  cases hnew:iD (TT K rec fn ops st0 e).f d (.box cs)with
  |none=>rw [hnew]at q5;cases q5
  |some x=>
   obtain⟨nm,H1⟩:=x;rw [hnew]at q5;simp only [Option.some.injEq,Prod.mk.injEq]at q5;obtain⟨q5,q7⟩:=q5;obtain⟨rfl,g2,g3,rfl⟩:=jX hnew;have hno: ∀t c,μ ((TT K rec fn ops st0 e).f.length-1,d) t≠some c:=fun t c hc=>by
    obtain⟨y,hy⟩:=hH.lG _ _ _ hc;rw [g3]at hy;cases hy
   have hA:=hH.zZ g3 g2 (b:=pd e) p3 p5 (x:= .box cs) ⟨pd e,v.cells,ty,Mu.bA _ _ _ _,p4,p9,(fC (fh v) p8)⟩;refine⟨_,go _ (fun _ d' hd'=> ?_) (fun n t b hb=>DW hH g3 _ _ n t b hb) (fun j h1 h2' h3' h4' nm t hm=> ?_) ⟨fun dd hdd=> ?_,h.defs.apart⟩ (h.ev.zZ hno p2),by rw [←q7];exact hA,by rw [←q7,ai.length_set];exact hlen⟩
   ·rw [hd]at hd';cases hd';rw [p1,←q5];exact .aA _ _ _ (by simp only [hlen];omega) (Mu.bA _ _ _ _)
   ·have hoj:ops.toList[j]? =some ops[j]:=(by simp [h2']);obtain⟨dj,_,hdj,_⟩: ∃d t,ops[j].dst=some d∧ops[j].op= .alloc t:=by
     rcases gz hoj (ok j _ hoj)with q|q|q|q
     ·have:=q.1;omega
     ·have:=q.1;omega
     ·obtain⟨d,t,h1,h2,_⟩:=iX q.2.2.2.1;exact⟨d,t,h1,h2⟩
     ·have:=q.1;omega
    have hP:=h.pa j _ dj hoj hdj h3' h4' (by omega);by_cases en:nm=((TT K rec fn ops st0 e).f.length-1,d)
    ·subst en;by_cases et:t=0
     ·subst et;rw [Mu.bA]at hm;have:pd e=pd j:=(by simpa using hm);have:=h.EH e j he h2' (h2 q1) h3' q1 h4' (Nat.le_refl _) (by omega) this;omega
     ·rw [Mu.cE _ _ _ et]at hm;exact hno _ _ hm
    ·rw [Mu.cS _ _ _ _ en]at hm;exact hP.2.2.2.2.1 _ _ hm
   ·obtain⟨q,k1,k2,k3,k4,k5⟩:=h.defs.each dd hdd;refine⟨q,k1,k2,k3,k4,fun nm t hm=> ?_⟩;by_cases en:nm=((TT K rec fn ops st0 e).f.length-1,d)
    ·subst en;by_cases et:t=0
     ·subst et;rw [Mu.bA]at hm;have:pd e=q:=(by simpa using hm);rw [this,k3]at p9;cases p9
     ·rw [Mu.cE _ _ _ et]at hm;exact hno _ _ hm
    ·rw [Mu.cS _ _ _ _ en]at hm;exact k5 _ _ hm
 ·exact absurd q.1 h3
theorem xo (ok : ∀ (j : Nat) (o : Oper), ops.toList[j]? = some o → kU K rec fn ops.toList (Region.before ops) st0 st0.nt j o) (hpos : 0 < st0.h.length) : ∀ (n i e : Nat) (μ : Mu), i - e = n → e ≤ i → i ≤ ops.size →
    lH K rec fn ops st0 base r w0 S0 μ0 listed a w S μ e pd → a9 w S μ (TT K rec fn ops st0 e).f → (TT K rec fn ops st0 e).f.length = st0.h.length →
    (∀ x, e ≤ x → x < i → KK K rec fn ops st0 x ≠ 3 ∧ (KK K rec fn ops st0 x = 2 → listed.getD x false = true)) →
    ∃ μ', lH K rec fn ops st0 base r w0 S0 μ0 listed a w S μ' i pd ∧ a9 w S μ' (TT K rec fn ops st0 i).f ∧ (TT K rec fn ops st0 i).f.length = st0.h.length := by
  intro n
  induction n with
  | zero => intro i e μ h1 h2 h3 h hH hl _
            have : e = i := by omega
            subst this; exact ⟨μ, h, hH, hl⟩
  | succ n ih =>
    intro i e μ h1 h2 h3 h hH hl hx
    obtain ⟨g1, g2⟩ := hx e (Nat.le_refl _) (by omega)
    obtain ⟨μ1, k1, k2, k3⟩ := EJ ok h hH hl hpos (by omega) g1 g2
    exact ih i (e + 1) μ1 (by omega) (by omega) h3 k1 k2 k3 fun x hx1 hx2 => hx x (by omega) hx2
end
end
section
section
variable {K:Ctx} {rec:Rec} {fn:FuncId} {ops:Array Oper} {st0:bM} {base:Nat} {r:Option Nat} {w0:World} {S0:Nat→Prop} {μ0:Mu}
variable {listed:Array Bool} {a:Act} {w w':World} {S S':Nat→Prop} {μ μ':Mu} {e:Nat} {pd:Nat→Nat}
theorem EK {P:Program}{o:Oper}{ty:TypeId}{v:Value}(hop:o.op= .alloc ty)(hz:ct P ty=some (ofConst v))(w:World):
  ∃v',(execOp a.eval o).run P w= .ok (.value (.pointer (some ⟨w.heap.size,0,none⟩))) (w.alloc (.cells v'.cells ty))∧ct P ty=some (ofConst v'):=by
 obtain⟨v',h1,h2⟩:=oz (P:=P) w hz;refine⟨v', ?_,by rw [hz,h2]⟩;obtain⟨dst,op,type,pos,after,guard⟩:=o;simp only at hop;subst hop;simp [execOp,Instr.alloc,h1,newVar,newRow]
theorem z8 {s:aZ}{H H':ai}{v:GV}{o:Oper}(ha:cC o=true)(h:cD K rec fn o s H=some (v,H')):
  ∃d ty z cs,o.dst=some d∧o.op= .alloc ty∧o.guard=none∧ct K.P ty=some (ofConst z)∧bG (ofConst z)=some cs:=by
 obtain⟨d,ty,h1,h2,h3⟩:=iX ha;have hgo:gM o=none:=(by unfold gM;rw [h2]);unfold cD at h;rw [hgo]at h;simp only at h;unfold ez at h;rw [h2]at h;simp only [h1]at h
 cases hz:ct K.P ty with
 |none=>rw [hz]at h;cases h
 |some z=>
  have hz': ∃zv,z=ofConst zv:=by
   unfold ct at hz;split at hz
   ·split at hz
    ·rename_i zv _;exact⟨zv,by simpa using hz.symm⟩
    ·cases hz
   ·cases hz
  obtain⟨zv,rfl⟩:=hz';rw [hz]at h;simp only at h
  cases hc:bG (ofConst zv)with
  |none=>rw [hc]at h;cases h
  |some cs=>exact⟨d,ty,zv,cs,h1,h2,h3,hz,hc⟩
theorem uz {i:Nat} {o:Oper} {Kn:Act→World→Prop} {Q:Exit→Act→World→Prop} {P:Program} (ho:ops[i]? =some o) {b:Bool} (hw:Region.wanted o (yielded ops a.tmps)=b)
  (h:if b then o.wpIn (Fw r) 0 P a w Kn Q else Kn (a.put o.dst undef) w):wpOpIn (Fw r) 0 P ops Q i Kn a w:=by
 unfold wpOpIn;simp only [ho,hw]
 cases b with
 |true=>simpa using h
 |false=>simp only [Bool.false_eq_true,if_false]at h⊢;exact⟨fun _ _=>trivial,h⟩
theorem z9 (D:uR K fn ops.toList (Region.before ops)) (ok: ∀(j:Nat) (o:Oper),ops.toList[j]? =some o→kU K rec fn ops.toList (Region.before ops) st0 st0.nt j o) (hpos:0<st0.h.length)
  (h:lH K rec fn ops st0 base r w0 S0 μ0 listed a w S μ e pd) (hH:a9 w S μ (TT K rec fn ops st0 e).f) (hlen:(TT K rec fn ops st0 e).f.length=st0.h.length) (hall: ∀j,j<ops.size→listed.getD j false=true)
  {st':bM} (h1:st'.s=(TT K rec fn ops st0 ops.size).s) (h2:st'.h=(TT K rec fn ops st0 ops.size).f) (h3:st'.nt=st0.nt):lI base r st0 w0 S0 μ0 .normal st' .normal a w:=by
 obtain⟨μ',k1,k2,k3⟩:=xo ok hpos _ ops.size e μ rfl h.le (Nat.le_refl _) h hH hlen fun x hx hx2=>by
  refine⟨fun h4=> ?_,fun _=>hall x hx2⟩;have:=(h.ww x hx2 h4).1 (hall x hx2);omega
 refine⟨rfl,by rw [h2,k3],h3,S,μ',⟨by rw [h2];exact k2,fun t=> ?_,by rw [h3];exact k1.nt,by rw [h2,k3];exact hpos,k1.low,k1.defs,k1.round⟩,k1.ev.level (by omega)⟩;rw [h2,k3,h1];rcases DV K rec fn ops.toList (Region.before ops) st0 st0.nt ok D.nodup ops.size t (by simp)with ⟨j,oj,q1,q2,q3,q4⟩|⟨q1,q2⟩
 ·show aE w S μ' _ _ (look (dT K rec fn ops.toList st0 ops.size).s t)
  rw [q4];exact k1.v1 j oj t q2 q3 (hall j q1) fun _=>q1
 ·show aE w S μ' _ _ (look (dT K rec fn ops.toList st0 ops.size).s t)
  rw [q2];refine k1.v0 t fun j oj hj hlj=>q1 j oj ?_ hj;have:=(List.getElem?_eq_some_iff.1 hj).1;simpa using this
theorem Hg (hK:iJ K) (hrec:lL K.P rec) (D:uR K fn ops.toList (Region.before ops)) (ok: ∀(j:Nat) (o:Oper),ops.toList[j]? =some o→kU K rec fn ops.toList (Region.before ops) st0 st0.nt j o) (hpos:0<st0.h.length)
  {st':bM} (z1:st'.s=(TT K rec fn ops st0 ops.size).s) (z2:st'.h=(TT K rec fn ops st0 ops.size).f) (z3:st'.nt=st0.nt):
  ∀(fuel:Nat) (listed:Array Bool) (a:Act) (w:World) (S:Nat→Prop) (μ:Mu) (e:Nat) (pd:Nat→Nat),kW listed ops.size≤fuel→lH K rec fn ops st0 base r w0 S0 μ0 listed a w S μ e pd→
   a9 w S μ (TT K rec fn ops st0 e).f→(TT K rec fn ops st0 e).f.length=st0.h.length→(TT K rec fn ops st0 e).f=(TT K rec fn ops st0 e).b→
   wpAnyIn (Fw r) 0 K.P .any ops (lI base r st0 w0 S0 μ0 .normal st') fuel listed a w:=by
 intro fuel
 induction fuel with
 |zero=>
  intro listed a w S μ e pd hu h hH hlen hfb;have hall:=wX (Nat.le_zero.1 hu);refine⟨?_,z9 D ok hpos h hH hlen hall z1 z2 z3⟩
  cases hr:Region.ready .any ops listed with
  |nil=>rfl
  |cons i l=>
   obtain⟨g1,g2,_⟩:=mB (i:=i) (by rw [hr];exact List.mem_cons_self ..) h.sz;rw [hall i g2]at g1;cases g1
 |succ fuel ih=>
  intro listed a w S μ e pd hu h hH hlen hfb;refine⟨fun hr=>z9 D ok hpos h hH hlen (B7 h.sz (fun j o hj=>D.back j o (toList_get.2 hj)) hr) z1 z2 z3,fun i hi=> ?_⟩;obtain⟨hl,hin,o,ho,ho2,haft⟩:=mB hi h.sz;have hbefore: ∀b,((Region.before ops).getD i 0).testBit b=true→listed.getD b false=true:=fun b hb=>jQ h.Vh i b hb fun o' ho' ed hed hbe=>by
   rw [ho2]at ho';cases ho';exact haft ed hed hbe
  have hs:=ok i o ho;have hul:=Aa hin h.sz hl;have hguard: ∀b,dA ops.toList (TT K rec fn ops st0 i).s o=some b→Region.wanted o (yielded ops a.tmps)=b:=fun b hb=>by
   have h1: ∀t,t∈mD ops.toList o→aE w S μ (st0.h.length-1) (a.tmps.getD t undef) (look (TT K rec fn ops st0 i).s t):=fun t ht=>by
    refine yD D ok h hi ho (.inr ht) fun j oj hj hd hk hji=> ?_;exfalso;have hja:cC oj=true:=by
     rcases gz hj (ok j _ hj)with q|q|q|q
     ·have:=q.1;omega
     ·have:=q.1;omega
     ·exact q.2.2.2.1
     ·have:=q.1;omega
    exact D.abO j i oj o t hj ho hd hja ht
   have h2:=uU (mD ops.toList o) h1;have h3:dA ops.toList (bj (TT K rec fn ops st0 i).s (mD ops.toList o)) o=some b:=by
    rw [←hb];exact wY fun t ht=>fN _ t _ ht
   have:=ss h2 h3;simpa using this
  rcases gz ho hs with q|q|q|q
  ·
   refine uz ho2 (hguard false q.2.1) ?_;simp only [Bool.false_eq_true,if_false];have h':=lH.put D h hi ho hs.dst undef (e':=e) (fun _=>by rw [q.2.2.1];exact xp) (fun h2=>by have:=q.1;omega) (.inl ⟨by rw [q.1];omega,rfl⟩);exact ih _ _ w S μ e pd (by omega) h' hH hlen hfb
  ·
   refine uz ho2 (hguard true q.2.1) ?_;simp only [if_true];obtain⟨hp,hg⟩:=Kg ok h hi ho q.1;rw [←hfb]at hg;have hslots:=uU (a:=a) (w:=w) (S:=S) (μ:=μ) (k:=st0.h.length-1) (s:=(TT K rec fn ops st0 i).s) (jx K fn o) fun t ht=>yD D ok h hi ho (.inl ht) fun j oj hj hd hk hji=>by
    exfalso;have hja:cC oj=true:=by
     rcases gz hj (ok j _ hj)with q|q|q|q
     ·have:=q.1;omega
     ·have:=q.1;omega
     ·exact q.2.2.2.1
     ·have:=q.1;omega
    have:=(D.abP j i oj o t hj ho hd hja ht).1;rw [hp]at this;cases this
   have hgo:gM o=none:=by
    cases hgc:gM o with
    |none=>rfl
    |some x=>
     exfalso;obtain⟨dst,op,type,pos,after,guard⟩:=o;unfold gM at hgc;simp only at hgc;split at hgc
     ·unfold cf at hp;simp at hp
     ·cases hgc
   have hstep:cD K rec fn o (bj (TT K rec fn ops st0 i).s (jx K fn o)) (TT K rec fn ops st0 e).f=some (VV K rec fn ops st0 i,(TT K rec fn ops st0 e).f):=by
    rw [tn K (s':=(TT K rec fn ops st0 i).s) fun t ht=>fN _ t _ ht];unfold cD;rw [hgo];exact hg
   rw [←hlen]at hslots;refine uA K hK hrec hH (by rw [hlen];exact hpos) hslots hstep fun u w' S' μ' hv hh he hl'=> ?_;rw [hlen]at he hv;have h1:=h.step hH.slt he;have h':=lH.put D h1 hi ho hs.dst u (e':=e) (fun _=>hv) (fun h2=>by have:=q.1;omega) (.inl ⟨by rw [q.1];omega,rfl⟩);exact ih _ _ w' S' μ' e pd (by omega) h' hh hlen hfb
  ·
   obtain⟨q1,q2,q3,q4,q5,q6⟩:=q;refine uz ho2 (hguard true q2) ?_;simp only [if_true];obtain⟨d,ty,z,cs,hd,hop,hgu,hz,hc⟩:=z8 q4 q5;refine⟨fun _ _=>trivial, ?_⟩;rw [Oper.semAt_eq _ _ _ (fun c e=>by rw [hop]at e;cases e)];obtain⟨v',hrun,hz'⟩:=EK (a:=a) (P:=K.P) hop hz w;rw [hrun,Oper.uponIn_value];obtain⟨s1,s2⟩:=hH.skip (st0.h.length-1) (.cells v'.cells ty);have h1:=(h.step hH.slt s2).abN hl w.heap.size;have hc':bG (ofConst v')=some cs:=by
    rw [hz]at hz';simp only [Option.some.injEq]at hz';rw [←hz'];exact hc
   have h':=lH.put D h1 hi ho hs.dst (.pointer (some ⟨w.heap.size,0,none⟩)) (e':=e) (fun h2=>absurd q1 h2) (fun _=>⟨⟨by simp,by simp only [if_true];exact h.ev.size,by simp only [if_true];rw [cj];omega,
     by simp only [if_true];exact fun hs=>by have:=hH.slt _ hs;omega,by simp only [if_true];exact fun nm t hm=>by have:=hH.lt _ _ _ hm;omega,ty,v',cs,hop,hz',hc',by simp only [if_true];exact cM _ _⟩,
     fun j hj hlj hk hle=>by
      have hne:j≠i:=fun e1=>(by rw [e1,hl]at hlj;cases hlj);simp only [if_true,if_neg hne];have hoj:ops.toList[j]? =some ops[j]:=(by simp [hj]);obtain⟨dj,hdj⟩: ∃d,ops[j].dst=some d:=by
       rcases gz hoj (ok j _ hoj)with q|q|q|q
       ·have:=q.1;omega
       ·have:=q.1;omega
       ·obtain⟨d,t,h1,h2,_⟩:=iX q.2.2.2.1;exact⟨d,h1⟩
       ·have:=q.1;omega
      have:=(h.pa j _ dj hoj hdj hlj hk hle).2.2.1;omega⟩) (.inl ⟨by rw [q1];omega,rfl⟩)
   exact ih _ _ _ S μ e _ (by omega) h' s1 hlen hfb
  ·
   obtain⟨q1,q2,q3,q4,q5,q6⟩:=q;refine uz ho2 (hguard true q2) ?_;simp only [if_true];have hei:e≤i:=by
    rcases Nat.lt_or_ge i e with h'|h'
    ·have:=(h.ww i hin q1).2 h';rw [hl]at this;cases this
    ·exact h'
   obtain⟨μ1,k1,k2,k3⟩:=xo ok hpos _ i e μ rfl hei (by omega) h hH hlen fun x hx hx2=>by
    have hox:ops.toList[x]? =some ops[x]:=by simp [show x<ops.size by omega]
    refine⟨fun h3=> ?_,fun h2=> ?_⟩
    ·have:=(h.ww x (by omega) h3).1 (hbefore x (hs.ww q1 x hx2 h3));omega
    ·have hxa:cC ops[x]=true:=by
      rcases gz hox (ok x _ hox)with q|q|q|q
      ·have:=q.1;omega
      ·have:=q.1;omega
      ·exact q.2.2.2.1
      ·have:=q.1;omega
     exact hbefore x (D.abQ x i _ o hox ho hxa q3 q4 hx2)
   have hslots:=uU (a:=a) (w:=w) (S:=S) (μ:=μ1) (k:=st0.h.length-1) (s:=(TT K rec fn ops st0 i).s) (jx K fn o) fun t ht=>yD D ok k1 hi ho (.inl ht) fun j oj hj hd hk hji=>hji;have hstep:cD K rec fn o (bj (TT K rec fn ops st0 i).s (jx K fn o)) (TT K rec fn ops st0 i).f=some (VV K rec fn ops st0 i,(TT K rec fn ops st0 (i+1)).f):=by
    rw [tn K (s':=(TT K rec fn ops st0 i).s) fun t ht=>fN _ t _ ht];exact q5
   rw [←k3]at hslots;refine uA K hK hrec k2 (by rw [k3];exact hpos) hslots hstep fun u w' S' μ' hv hh he hl'=> ?_;rw [k3]at he;rw [hl',k3]at hv;have h1:=k1.step k2.slt he;have h':=lH.put D h1 hi ho hs.dst u (e':=i+1) (fun _=>hv) (fun h2=>by rw [q1]at h2;cases h2) (.inr ⟨q1,rfl,rfl⟩);exact ih _ _ w' S' μ' (i+1) pd (by omega) h' hh (by rw [hl',k3]) q6.symm
theorem a9.draw {H:ai}(h:a9 w S μ H)(n:Nat):a9 {w with drawn:=n} S μ H:=
 ⟨fun nm x hx t b hb=>gI.mono (w:=w) (w':={heap:=w.heap,tape:=w.tape,drawn:=n,os:=w.os,output:=w.output}) (S:=S) (S':=S) (μ:=μ) (μ':=μ) (fun _ h=>h) (fun _ _=>rfl) (fun _ _ h=>h) (fun _ _ _ _ h=>h) (fun _=>rfl) (fun _ _ _=>rfl) (fun _ _ _ h=>h) (h.je nm x hx t b hb),h.lG,h.iK,h.lt,h.slt⟩
theorem Ev.draw (ℓ n:Nat):Ev ℓ w S μ {w with drawn:=n} S μ:=
 ⟨rfl,rfl,rfl,Nat.le_refl _,fun _ h=>h,fun _ _ _=>rfl,fun _ _ h=>h,fun _ r h=>⟨r,h⟩,fun _ _ _ _ h=>h,fun nm t _ h _=>⟨nm,t,h⟩,fun _ h _=> .inl h⟩
end
theorem Hh (K:Ctx)(hK:iJ K):Ab K:=by
 intro rec hrec fn id ops st e st' h base r w S μ a hst;simp only [cK]at h;split at h
 ·rename_i hd;split at h
  ·rename_i st1 bd;simp only [Option.some.injEq,Prod.mk.injEq]at h;obtain⟨rfl,rfl⟩:=h;have D:=Ac K hd;obtain⟨g1,g2,g3,g4⟩:=Ad K rec fn ops.toList (Region.before ops) st ops.toList 0 [] [] st.h st rfl rfl rfl rfl rfl (fun x h=>by omega) (fun q h=>by omega) bd;have hlen:ops.toList.length=ops.size:=(by simp);rw [hlen]at g2 g3;refine wpIn_region_any hK.mixed ?_;have hE:Ev (st.h.length-1) w S μ {w with drawn:=w.drawn+1} S μ:=Ev.draw _ _;have hfalse: ∀j,(Array.replicate ops.size false).getD j false=false:=fun j=>by
    rw [Array.getD_eq_getD_getElem?];by_cases hj:j<ops.size
    ·simp [hj]
    ·simp [hj]
   refine Hg (base:=base) (r:=r) (w0:=w) (S0:=S) (μ0:=μ) hK hrec D (fun j o ho=>g1 j o (by omega) ho) hst.pos g2 g3 g4 ops.size (Array.replicate ops.size false) a
    {w with drawn:=w.drawn+1} S μ 0 (fun _=>0) ?_ ?_ ?_ ?_ ?_
   ·unfold kW;refine Nat.le_trans (List.length_filter_le _ _) (by simp)
   ·refine⟨by simp,fun j o _ hl=> ?_,Nat.zero_le _,fun j _ _=> ?_,fun j h=>by omega,fun j o d _ _ hl=> ?_,fun t _=> ?_,fun j o d _ _ hl=> ?_,fun i j _ _ hl=> ?_,hst.nt,hst.low,hst.defs.ev hE,oy hst.round hE,hE⟩
    ·rw [hfalse]at hl;cases hl
    ·rw [hfalse];simp
    ·rw [hfalse]at hl;cases hl
    ·exact hE.val hst.heap.slt (Nat.le_refl _) (hst.eA t)
    ·rw [hfalse]at hl;cases hl
    ·rw [hfalse]at hl;cases hl
   ·exact hst.heap.draw _
   ·rfl
   ·rfl
  ·cases h
 ·cases h
theorem jY (K:Ctx)(hK:iJ K)(n:Nat):lL K.P (da K n):=Hi K hK (Hh K hK) n
end
section
section
variable (K:Ctx) {rec:Rec} {F:Nat→Rec}
def pQ {α:Type}(F:Nat→Rec)(X:Rec→Option α)(r:α):Prop:= ∃N,∀n,N≤n→X (F n)=some r
theorem pQ.const {α:Type}{x:Option α}{r:α}(h:x=some r):pQ F (fun _=>x) r:=⟨0,fun _ _=>h⟩
def Lim (rec:Rec)(F:Nat→Rec):Prop:= ∀fn c st r,rec fn c st=some r→pQ F (fun rec=>rec fn c st) r
variable (hF:Lim rec F)
include hF
theorem nf {f:FuncId}{args:List GV}{c:Nat}{H:ai}{r:GV×ai}(h:bJ K rec f args c H=some r):pQ F (fun rec=>bJ K rec f args c H) r:=by
 unfold bJ at h;split at h
 ·cases h
 ·rename_i fn hfn;split at h
  ·cases h
  ·rename_i code hcode;split at h
   ·cases h
   ·rename_i hc
    cases hr:rec f code ⟨slotsOf 0 (args.map canon),[]::H,fn.ntmps⟩with
    |none=>rw [hr]at h;cases h
    |some x=>
     rw [hr]at h;obtain⟨N,hN⟩:=hF _ _ _ _ hr;refine⟨N,fun n hn=> ?_⟩;have:=hN n hn;simp only at this;simp only [bJ,hfn,hcode,hc,if_false,this];exact h
theorem Ae {f:FuncId}{args:List GV}{c:Nat}{H:ai}{r:GV×ai}(h:iO K rec f args c H=some r):pQ F (fun rec=>iO K rec f args c H) r:=by
 unfold iO at h;split at h
 ·cases h
 ·rename_i hn;split at h
  ·rename_i v H0 hg;obtain⟨N,hN⟩:=nf K hF hg;refine⟨N,fun n hn'=> ?_⟩;have:=hN n hn';simp only at this;simp only [iO,hn,this];exact h
  ·cases h
 ·rename_i nm hn;split at h
  ·rename_i cs hbx;split at h
   ·cases h
   ·rename_i hcs;split at h
    ·rename_i v H0 hg;obtain⟨N,hN⟩:=nf K hF hg;refine⟨N,fun n hn'=> ?_⟩;have:=hN n hn';simp only at this;simp only [iO,hn,hbx,hcs,if_false,this];exact h
    ·cases h
  ·cases h
theorem su {f:FuncId}{args:List GV}{c:Nat}{H:ai}{r:GV×ai}(h:aN K rec f args c H=some r):pQ F (fun rec=>aN K rec f args c H) r:=by
 unfold aN at h⊢;split at h
 ·rename_i hc;simp only [hc,if_true];exact .const h
 ·rename_i hc;simp only [hc,if_false];split at h
  ·rename_i hb;simp only [hb,if_true];exact Ae K hF h
  ·rename_i hb;simp only [hb,if_false];split at h
   ·rename_i hf;simp only [hf,if_true];exact nf K hF h
   ·rename_i hf;simp only [hf,if_false];exact nf K hF h
theorem B8 {nm:Nm}{args:List GV}{H:ai}{r:GV×ai}(h:ground rec nm args H=some r):pQ F (fun rec=>ground rec nm args H) r:=by
 unfold ground at h;split at h
 ·rename_i l hl;split at h
  ·rename_i hs;split at h
   ·rename_i s hp;split at h
    ·rename_i st ha;obtain⟨N1,h1⟩:=hF _ _ _ _ ha;split at h
     ·rename_i fr H1 hst;split at h
      ·rename_i l1 hl1;split at h
       ·cases h
       ·rename_i hl1s
        cases hb:rec l.fn l.body ⟨st.s,fr::ai.set H1 nm (.loop {l1 with state:= .busy}),l.nt⟩with
        |none=>rw [hb]at h;cases h
        |some x=>
         rw [hb]at h;obtain⟨N2,h2⟩:=hF _ _ _ _ hb;refine⟨max N1 N2,fun n hn=> ?_⟩;have e1:=h1 n (by omega);have e2:=h2 n (by omega);simp only at e1 e2;simp only [ground,hl,hs,hp,e1,hst,hl1,hl1s,if_true,if_false,e2];exact h
      ·cases h
     ·cases h
    ·cases h
   ·cases h
  ·cases h
 ·cases h
theorem uV {f:GV}{args:List GV}{c:Nat}{H:ai}{r:GV×ai}(h:ng K rec f args c H=some r):pQ F (fun rec=>ng K rec f args c H) r:=by
 unfold ng at h;split at h
 ·exact su K hF h
 ·exact su K hF h
 ·cases h
theorem tq {f:GV}{args:List GV}{c:Nat}{H:ai}{r:GV×ai}(h:dM K rec f args c H=some r):pQ F (fun rec=>dM K rec f args c H) r:=by
 unfold dM at h⊢;split at h
 ·exact B8 hF h
 ·exact uV K hF h
theorem xq {fn:FuncId}{o:Oper}{s:aZ}{H:ai}{r:GV×ai}(h:cD K rec fn o s H=some r):pQ F (fun rec=>cD K rec fn o s H) r:=by
 unfold cD at h⊢;split at h
 ·rename_i f args hg
  cases hl:K.lift fn (o.dst.getD 0)with
  |none=>
   rw [hl]at h;simp only at h⊢;exact tq K hF h
  |some t=>
   rw [hl]at h;simp only at h⊢;split at h
   ·rename_i x hx;obtain⟨N,hN⟩:=tq K hF hx;refine⟨N,fun n hn=> ?_⟩;have:=hN n hn;simp only at this;simp only [this];exact h
   ·cases h
 ·exact .const h
theorem uW {fn:FuncId}{all:List Oper}: ∀{ops:List Oper} {st st':bM},qf K rec fn all ops st=some st'→pQ F (fun rec=>qf K rec fn all ops st) st'
 | [],st,st',h=> .const h
 |o::r,st,st',h=>by
  simp only [qf]at h;split at h
  ·rename_i hw;split at h
   ·rename_i st1 hp;obtain⟨N,hN⟩:=uW h;refine⟨N,fun n hn=> ?_⟩;simp only [qf,hw,hp];exact hN n hn
   ·cases h
  ·rename_i hw;split at h
   ·rename_i v H hs;obtain⟨N1,h1⟩:=xq K hF hs;split at h
    ·rename_i st1 hp;obtain⟨N,hN⟩:=uW h;refine⟨max N1 N,fun n hn=> ?_⟩;have e1:=h1 n (by omega);simp only at e1;simp only [qf,hw,e1,hp];exact hN n (by omega)
    ·cases h
   ·cases h
  ·cases h
theorem kF {fn:FuncId}{all:List Oper}{pre:Array Nat}: ∀{ops:List Oper} {i:Nat} {wl:List (Nat×ai)} {rl:List B9} {hb:ai} {st st':bM},hJ K rec fn all pre i ops wl rl hb st=some st'→
  pQ F (fun rec=>hJ K rec fn all pre i ops wl rl hb st) st'
 | [],i,wl,rl,hb,st,st',h=> .const h
 |o::r,i,wl,rl,hb,st,st',h=>by
  simp only [hJ]at h;split at h
  ·rename_i hw;split at h
   ·rename_i st1 hp;obtain⟨N,hN⟩:=kF h;refine⟨N,fun n hn=> ?_⟩;simp only [hJ,hw,hp];exact hN n hn
   ·cases h
  ·rename_i hw;split at h
   ·rename_i hpure;split at h
    ·rename_i v Hx hop;split at h
     ·rename_i st1 hput;split at h
      ·rename_i hR;split at h
       ·rename_i hall;obtain⟨N,hN⟩:=kF h;refine⟨N,fun n hn=> ?_⟩;simp only [hJ,hw,hpure,hop,hput,hR,hall,if_true];exact hN n hn
       ·cases h
      ·rename_i hR;obtain⟨N,hN⟩:=kF h;refine⟨N,fun n hn=> ?_⟩;simp only [hJ,hw,hpure,hop,hput,hR,if_true,if_false,Bool.false_eq_true];exact hN n hn
     ·cases h
    ·cases h
   ·rename_i hpure;split at h
    ·rename_i v H hs;obtain⟨N1,h1⟩:=xq K hF hs;split at h
     ·rename_i st1 hput;split at h
      ·rename_i ha;obtain⟨N,hN⟩:=kF h;refine⟨max N1 N,fun n hn=> ?_⟩;have e1:=h1 n (by omega);simp only at e1;simp only [hJ,hw,hpure,e1,hput,ha,if_true,if_false,Bool.false_eq_true];exact hN n (by omega)
      ·rename_i ha;split at h
       ·rename_i hall;obtain⟨N,hN⟩:=kF h;refine⟨max N1 N,fun n hn=> ?_⟩;have e1:=h1 n (by omega);simp only at e1;simp only [hJ,hw,hpure,e1,hput,ha,hall,if_true,if_false,Bool.false_eq_true];exact hN n (by omega)
       ·cases h
     ·cases h
    ·cases h
  ·cases h
theorem sv {fn:FuncId}{c:Code}{st:bM}{r:GX×bM}(h:cK K rec fn c st=some r):pQ F (fun rec=>cK K rec fn c st) r:=by
 unfold cK at h;split at h
 ·exact .const h
 ·exact .const h
 ·rename_i id ops
  cases hg:qf K rec fn ops.toList ops.toList st with
  |none=>rw [hg]at h;cases h
  |some st1=>
   rw [hg]at h;obtain⟨N,hN⟩:=uW K hF hg;refine⟨N,fun n hn=> ?_⟩;have:=hN n hn;simp only at this;simp only [cK,this];exact h
 ·rename_i id ops;split at h
  ·rename_i hd
   cases hg:hJ K rec fn ops.toList (Region.before ops) 0 ops.toList [] [] st.h st with
   |none=>rw [hg]at h;cases h
   |some st1=>
    rw [hg]at h;obtain⟨N,hN⟩:=kF K hF hg;refine⟨N,fun n hn=> ?_⟩;have:=hN n hn;simp only at this;simp only [cK,hd,this,if_true];exact h
  ·cases h
 ·rename_i a b
  cases ha:rec fn a st with
  |none=>rw [ha]at h;cases h
  |some x=>
   obtain⟨e,st1⟩:=x;obtain⟨N1,h1⟩:=hF _ _ _ _ ha;rw [ha]at h
   cases e with
   |normal=>
    simp only at h;obtain⟨N2,h2⟩:=hF _ _ _ _ h;refine⟨max N1 N2,fun n hn=> ?_⟩;have e1:=h1 n (by omega);have e2:=h2 n (by omega);simp only at e1 e2;simp only [cK,e1,e2]
   |exit id=>exact⟨N1,fun n hn=>by have e1:=h1 n hn;simp only at e1;simp only [cK,e1];exact h⟩
   |ret=>exact⟨N1,fun n hn=>by have e1:=h1 n hn;simp only at e1;simp only [cK,e1];exact h⟩
 ·rename_i c x y;split at h
  ·rename_i b hb
   cases b with
   |true=>
    obtain⟨N,hN⟩:=hF _ _ _ _ (by simpa using h);exact⟨N,fun n hn=>by have:=hN n hn;simp only at this;simp only [cK,hb,if_true,this]⟩
   |false=>
    obtain⟨N,hN⟩:=hF _ _ _ _ (by simpa using h);exact⟨N,fun n hn=>by have:=hN n hn;simp only at this;simp only [cK,hb,Bool.false_eq_true,if_false,this]⟩
  ·cases h
 ·rename_i id c
  cases hc:rec fn c st with
  |none=>rw [hc]at h;cases h
  |some x=>
   obtain⟨N,hN⟩:=hF _ _ _ _ hc;rw [hc]at h;exact⟨N,fun n hn=>by have:=hN n hn;simp only at this;simp only [cK,this];exact h⟩
 ·rename_i c;simp only at h
  cases hc:rec fn c {st with s:=jZ ((K.gN fn (aY c)).map (·.1)) st.s,h:=[]::st.h}with
  |none=>rw [hc]at h;cases h
  |some x=>
   obtain⟨e,st1⟩:=x;obtain⟨N1,h1⟩:=hF _ _ _ _ hc;rw [hc]at h
   cases e with
   |normal=>
    simp only at h
    cases hs:uX K fn c st1 with
    |none=>rw [hs]at h;cases h
    |some st2=>
     rw [hs]at h;simp only at h;obtain⟨N2,h2⟩:=hF _ _ _ _ h;refine⟨max N1 N2,fun n hn=> ?_⟩;have e1:=h1 n (by omega);have e2:=h2 n (by omega);simp only at e1 e2;simp only [cK,e1,hs,e2]
   |exit id=>exact⟨N1,fun n hn=>by have e1:=h1 n hn;simp only at e1;simp only [cK,e1];exact h⟩
   |ret=>exact⟨N1,fun n hn=>by have e1:=h1 n hn;simp only at e1;simp only [cK,e1];exact h⟩
 ·obtain⟨N,hN⟩:=hF _ _ _ _ h;exact⟨N,fun n hn=>by have:=hN n hn;simp only at this;simp only [cK,this]⟩
 ·exact .const h
 ·exact .const h
 ·rename_i f ps assign body;simp only at h;split at h
  ·rename_i nm H hn
   cases hg:ng K rec (ev st.s f) [.yield nm] 0 H with
   |none=>rw [hg]at h;cases h
   |some x=>
    obtain⟨N,hN⟩:=uV K hF hg;rw [hg]at h;refine⟨N,fun n hnn=> ?_⟩;have:=hN n hnn;simp only at this;simp only [cK,hn,this];exact h
  ·cases h
 ·cases h
end
section
variable (K:Ctx)
theorem nh: ∀m,Lim (da K m) (da K)
 |0=>fun fn c st r h=>by simp [da]at h
 |m+1=>fun fn c st r h=>by
  obtain⟨N,hN⟩:=sv K (nh m) h;refine⟨N+1,fun n hn=> ?_⟩;obtain⟨k,rfl⟩: ∃k,n=k+1:=⟨n-1,by omega⟩;exact hN k (by omega)
open Classical in
noncomputable def aF:Rec:=fun fn c st=>if h: ∃r,pQ (da K) (fun rec=>rec fn c st) r then some (Classical.choose h)else none
theorem kG {fn:FuncId}{c:Code}{st:bM}{r:GX×bM}:aF K fn c st=some r↔pQ (da K) (fun rec=>rec fn c st) r:=by
 unfold aF;constructor
 ·intro h;split at h
  ·rename_i hx;cases h;exact Classical.choose_spec hx
  ·cases h
 ·intro h;have hx: ∃r,pQ (da K) (fun rec=>rec fn c st) r:=⟨r,h⟩;rw [dif_pos hx];obtain⟨N1,h1⟩:=h;obtain⟨N2,h2⟩:=Classical.choose_spec hx;have e1:=h1 (max N1 N2) (by omega);have e2:=h2 (max N1 N2) (by omega);rw [←e2,←e1]
theorem fj (fn:FuncId)(c:Code)(st:bM):aF K fn c st=cK K (aF K) fn c st:=by
 refine Option.ext fun r=> ?_;constructor
 ·intro h;obtain⟨N,hN⟩:=(kG K).1 h;have h1:cK K (da K N) fn c st=some r:=hN (N+1) (by omega);have hL:Lim (da K N) (fun _=>aF K):=fun fn c st r h=>⟨0,fun _ _=>(kG K).2 (nh K N fn c st r h)⟩;obtain⟨M,h2⟩:=sv K hL h1;exact h2 M (Nat.le_refl _)
 ·intro h;obtain⟨N,hN⟩:=sv K (F:=da K) (fun fn c st r h=>(kG K).1 h) h;refine(kG K).2 ⟨N+1,fun n hn=> ?_⟩;obtain⟨k,rfl⟩: ∃k,n=k+1:=⟨n-1,by omega⟩;exact hN k (by omega)
theorem Af (hK:iJ K):lL K.P (aF K):=fun fn c st e st' h=>by
 obtain⟨N,hN⟩:=(kG K).1 h;exact jY K hK N fn c st e st' (hN N (Nat.le_refl _))
end
end
section
def Hj (K:Ctx)(fn:FuncId)(o:Oper):Bool:= !cf K fn o && !cC o
def wZ (K:Ctx)(fn:FuncId)(o:Oper):Bool:=cf K fn o && EI o
def Hk (K:Ctx)(fn:FuncId)(L:List (Nat×Nat))(all:List Oper)(pre:Array Nat):Bool:=
 all.zipIdx.all fun(oi,i)=>all.zipIdx.all fun(oq,q)=>
  decide (i≤q)||(pre.getD i 0).testBit q||
   ((!(Hj K fn oi && Hj K fn oq)) && (L.contains (i,q)||(!(Hj K fn oi && wZ K fn oq) && !(wZ K fn oi && Hj K fn oq))))
structure Ye where
 i:Nat
 o:Oper
 s:aZ
 v:GV
 h:ai
section
variable (K:Ctx) (fn:FuncId)
def lM (nt:Nat):Option Tmp→Prop
 |none=>True
 |some d=>d<nt
def mE {α:Type}(x:Option α)(k:α→Prop):Prop:= ∃r,x=some r∧k r
def pT (all:List Oper):List Oper→bM→(bM→Prop)→Prop
 | [],st,Q=>Q st
 |o::r,st,Q=>
  mE (dA all st.s o) fun b=>
   if b=false then lM st.nt o.dst∧pT all r ⟨lJ st.s o.dst kV,st.h,st.nt⟩ Q
   else mE (cD K (aF K) fn o st.s st.h) fun x=>lM st.nt o.dst∧pT all r ⟨lJ st.s o.dst x.1,x.2,st.nt⟩ Q
def jg (all:List Oper)(L:List (Nat×Nat)):Nat→List Oper→List Ye→List (Nat×ai)→ai→bM→(bM→Prop)→Prop
 |_,[],_,_,_,st,Q=>Q st
 |i,o::r,obl,old,hb,st,Q=>
  mE (dA all st.s o) fun b=>
   if b=false then lM st.nt o.dst∧jg all L (i+1) r obl old hb ⟨lJ st.s o.dst kV,st.h,st.nt⟩ Q
   else if cf K fn o=true then
    mE (ez K fn o st.s hb) fun x=>lM st.nt o.dst∧(∀y∈old,y.1=i→y.2=hb∨sameAt K fn o st.s x.1 y.2=true)∧
     jg all L (i+1) r ((L.filter fun p=>p.2==i).map (fun p=>⟨p.1,o,st.s,x.1,hb⟩)++obl) old hb ⟨lJ st.s o.dst x.1,st.h,st.nt⟩ Q
   else
    mE (cD K (aF K) fn o st.s st.h) fun x=>lM st.nt o.dst∧
     if cC o=true then jg all L (i+1) r obl old hb ⟨lJ st.s o.dst x.1,x.2,st.nt⟩ Q
     else (∀y∈obl,y.i=i→x.2=y.h∨sameAt K fn y.o y.s y.v x.2=true)∧
      jg all L (i+1) r obl ((L.filter fun p=>p.2==i).map (fun p=>(p.1,hb))++old) x.2 ⟨lJ st.s o.dst x.1,x.2,st.nt⟩ Q
theorem qU {st:bM}{d:Option Tmp}(v:GV)(h:lM st.nt d):st.put d v=some ⟨lJ st.s d v,st.h,st.nt⟩:=by
 cases d with
 |none=>rfl
 |some d=>simp only [lM]at h;simp only [bM.put,h,if_true,lJ]
theorem oA {all:List Oper}{Q:bM→Prop}: ∀{ops:List Oper} {st:bM},pT K fn all ops st Q→ ∃st',qf K (aF K) fn all ops st=some st'∧Q st'
 | [],st,h=>⟨st,rfl,h⟩
 |o::r,st,h=>by
  simp only [pT]at h;obtain⟨b,hw,h⟩:=h
  cases b with
  |false=>
   simp only [if_true]at h;obtain⟨st',g1,g2⟩:=oA h.2;exact⟨st',by simp only [qf,hw,qU _ h.1];exact g1,g2⟩
  |true=>
   simp only [Bool.true_eq_false,if_false]at h;obtain⟨⟨v,H⟩,hg,h1,h2⟩:=h;obtain⟨st',g1,g2⟩:=oA h2;exact⟨st',by simp only [qf,hw,hg,qU (st:=⟨st.s,H,st.nt⟩) v h1];exact g1,g2⟩
theorem xr {o:Oper}{s:aZ}{v:GV}{H Hx:ai}(h:ez K fn o s H=some (v,Hx)):sameAt K fn o s v H=true:=by
 unfold sameAt;rw [h];simp
theorem yE {all:List Oper}{L:List (Nat×Nat)}{pre:Array Nat}(hst:Hk K fn L all pre=true){Q:bM→Prop}: ∀(ops:List Oper) (i:Nat) (obl:List Ye) (old:List (Nat×ai)) (wl:List (Nat×ai)) (rl:List B9) (hb:ai) (st:bM),
  all.drop i=ops→
  (∀x∈wl,x.1<i∧(∃o,all[x.1]? =some o∧Hj K fn o=true)∧ ∀j,(j,x.1)∈L→(j,x.2)∈old)→
  (∀q∈rl,q.i<i∧(∃o,all[q.i]? =some o∧wZ K fn o=true)∧(∃h Hx,ez K fn q.o q.s h=some (q.v,Hx)∧ ∀j,(j,q.i)∈L→(⟨j,q.o,q.s,q.v,h⟩:Ye)∈obl))→
  jg K fn all L i ops obl old hb st Q→ ∃st',hJ K (aF K) fn all pre i ops wl rl hb st=some st'∧Q st':=by
 intro ops
 induction ops with
 |nil=>intro i obl old wl rl hb st _ _ _ h;exact⟨st,rfl,h⟩
 |cons o r ih=>
  intro i obl old wl rl hb st hd hwl hrl h;have ho:all[i]? =some o:=by
   have:(all.drop i)[0]? =some o:=(by rw [hd];rfl);rw [List.getElem?_drop]at this;simpa using this
  have hd':all.drop (i+1)=r:=by
   have:(all.drop i).drop 1=r:=by rw [hd];rfl
   rwa [List.drop_drop]at this
  have hstat: ∀q oq,q<i→all[q]? =some oq→(pre.getD i 0).testBit q=true∨
    ((!(Hj K fn o && Hj K fn oq)) && (L.contains (i,q)||(!(Hj K fn o && wZ K fn oq) && !(wZ K fn o && Hj K fn oq))))=true:=by
   intro q oq hq hoq;have h1:=List.all_eq_true.1 hst _ (mem_zipIdx' ho);have h2:=List.all_eq_true.1 h1 _ (mem_zipIdx' hoq);simp only [Bool.or_eq_true,decide_eq_true_eq]at h2;rcases h2 with (h2|h2)|h2
   ·omega
   ·exact .inl h2
   ·exact .inr h2
  simp only [jg]at h;obtain⟨b,hw,h⟩:=h
  cases b with
  |false=>
   simp only [if_true]at h;obtain⟨h1,h2⟩:=h;obtain⟨st',g1,g2⟩:=ih (i+1) obl old wl rl hb _ hd' (fun x hx=>⟨by have:=(hwl x hx).1;omega,(hwl x hx).2⟩) (fun q hq=>⟨by have:=(hrl q hq).1;omega,(hrl q hq).2⟩) h2;exact⟨st',by simp only [hJ,hw,qU _ h1];exact g1,g2⟩
  |true=>
   simp only [Bool.true_eq_false,if_false]at h;by_cases hp:cf K fn o=true
   ·rw [if_pos hp]at h;obtain⟨⟨v,Hx⟩,hg,h1,h2,h3⟩:=h;simp only at h2 h3;simp only [hJ,hw,hp,if_true,hg,qU _ h1];have hold: ∀x∈wl,EI o=true→((pre.getD i 0).testBit x.1||sameAt K fn o st.s v x.2)=true:=by
     intro x hx hR;obtain⟨x1,⟨ox,x2,x3⟩,x4⟩:=hwl x hx;rcases hstat x.1 ox x1 x2 with h4|h4
     ·rw [h4];rfl
     ·have hrd:wZ K fn o=true:=(by unfold wZ;rw [hp,hR];rfl);rw [hrd,x3]at h4;simp only [Bool.and_true,Bool.true_and,Bool.not_true,Bool.and_false,Bool.or_false,Bool.and_eq_true]at h4;have hm:(i,x.1)∈L:=(by simpa using h4.2);rcases h2 _ (x4 i hm) rfl with h5|h5
      ·have:sameAt K fn o st.s v x.2=true:=(by rw [h5];exact xr K fn hg);rw [this];simp
      ·rw [h5];simp
    cases hR:EI o with
    |true=>
     have hall:(wl.all fun x=>(pre.getD i 0).testBit x.1||sameAt K fn o st.s v x.2)=true:=List.all_eq_true.2 fun x hx=>hold x hx hR;simp only [if_true,hall];refine ih (i+1) _ old wl _ hb _ hd' (fun x hx=>⟨by have:=(hwl x hx).1;omega,(hwl x hx).2⟩) (fun q hq=> ?_) h3;rcases List.mem_cons.1 hq with rfl|hq
     ·refine⟨by simp,⟨o,ho,by unfold wZ;rw [hp,hR];rfl⟩,hb,Hx,hg,fun j hj=>List.mem_append_left _ (List.mem_map.2 ⟨(j,i),List.mem_filter.2 ⟨hj,by simp⟩,rfl⟩)⟩
     ·obtain⟨q1,q2,hh,Hy,q3,q4⟩:=hrl q hq;exact⟨by omega,q2,hh,Hy,q3,fun j hj=>List.mem_append_right _ (q4 j hj)⟩
    |false=>
     simp only [Bool.false_eq_true,if_false];refine ih (i+1) _ old wl rl hb _ hd' (fun x hx=>⟨by have:=(hwl x hx).1;omega,(hwl x hx).2⟩) (fun q hq=> ?_) h3;obtain⟨q1,q2,hh,Hy,q3,q4⟩:=hrl q hq;exact⟨by omega,q2,hh,Hy,q3,fun j hj=>List.mem_append_right _ (q4 j hj)⟩
   ·rw [if_neg hp]at h;obtain⟨⟨v,H⟩,hg,h1,h2⟩:=h;simp only at h2;have hp':cf K fn o=false:=(by simpa using hp);simp only [hJ,hw,hp,if_false,hg,Bool.false_eq_true,qU (st:=⟨st.s,H,st.nt⟩) v h1];by_cases ha:cC o=true
    ·rw [if_pos ha]at h2;simp only [ha,if_true];exact ih (i+1) obl old wl rl hb _ hd' (fun x hx=>⟨by have:=(hwl x hx).1;omega,(hwl x hx).2⟩) (fun q hq=>⟨by have:=(hrl q hq).1;omega,(hrl q hq).2⟩) h2
    ·rw [if_neg ha]at h2;have ha':cC o=false:=(by simpa using ha);have hW:Hj K fn o=true:=(by unfold Hj;rw [hp',ha'];rfl);have hnR:wZ K fn o=false:=(by unfold wZ;rw [hp'];rfl);obtain⟨h3,h4⟩:=h2;have hwl2:(wl.all fun x=>(pre.getD i 0).testBit x.1)=true:=List.all_eq_true.2 fun x hx=>by
      obtain⟨x1,⟨ox,x2,x3⟩,x4⟩:=hwl x hx;rcases hstat x.1 ox x1 x2 with h4|h4
      ·exact h4
      ·rw [hW,x3]at h4;simp at h4
     have hrl2:(rl.all fun q=>(pre.getD i 0).testBit q.i||sameAt K fn q.o q.s q.v H)=true:=List.all_eq_true.2 fun q hq=>by
      obtain⟨q1,⟨oq,q2,q2'⟩,hh,Hy,q3,q4⟩:=hrl q hq;rcases hstat q.i oq q1 q2 with h4|h4
      ·rw [h4];rfl
      ·rw [hW,q2',hnR]at h4;simp only [Bool.and_true,Bool.true_and,Bool.not_true,Bool.false_and,Bool.or_false,Bool.and_eq_true]at h4;have hm:(i,q.i)∈L:=(by simpa using h4.2);rcases h3 _ (q4 i hm) rfl with h5|h5
       ·have:sameAt K fn q.o q.s q.v H=true:=by
         simp only at h5;rw [h5];exact xr K fn q3
        rw [this];simp
       ·simp only at h5;rw [h5];simp
     simp only [ha,hwl2,hrl2,Bool.and_self,if_true,if_false,Bool.false_eq_true];refine ih (i+1) obl _ _ rl H _ hd' (fun x hx=> ?_) (fun q hq=>⟨by have:=(hrl q hq).1;omega,(hrl q hq).2⟩) h4;rcases List.mem_cons.1 hx with rfl|hx
     ·exact⟨by simp,⟨o,ho,hW⟩,fun j hj=>List.mem_append_left _ (List.mem_map.2 ⟨(j,i),List.mem_filter.2 ⟨hj,by simp⟩,rfl⟩)⟩
     ·obtain⟨x1,x2,x3⟩:=hwl x hx;exact⟨by omega,x2,fun j hj=>List.mem_append_right _ (x3 j hj)⟩
end
def bF (K:Ctx)(N:FuncId→Nat→List (Nat×Nat))(fn:FuncId):Code→Bool
 | .region id ops true=>yF K fn ops.toList (Region.before ops) && Hk K fn (N fn id) ops.toList (Region.before ops)
 | .seq a b=>bF K N fn a && bF K N fn b
 | .cond _ a b=>bF K N fn a && bF K N fn b
 | .block _ a=>bF K N fn a
 | .loop a=>bF K N fn a
 | .scope a=>bF K N fn a
 | .rangeFunc _ _ a b=>bF K N fn a && bF K N fn b
 |_=>true
section
variable (K:Ctx) (N:FuncId→Nat→List (Nat×Nat)) (fn:FuncId)
def WP (c:Code)(st:bM)(Q:GX→bM→Prop):Prop:=bF K N fn c=true→ ∃e st',aF K fn c st=some (e,st')∧Q e st'
def sx (id:Nat)(Q:GX→bM→Prop)(e:GX)(st:bM):Prop:=match e with| .exit id'=>if id'=id then Q .normal st else Q (.exit id') st|e=>Q e st
theorem qg (H:ai)(l0:Nat)(s:aZ): ∀ks,bj (bZ H l0 s) ks=bZ H l0 (bj s ks)
 | []=>rfl
 |t::r=>by
  simp only [bj,bZ,qg H l0 s r];congr 2
  induction s with
  |nil=>rfl
  |cons x s ih=>
   obtain⟨d,v⟩:=x;simp only [bZ,look];split
   ·rfl
   ·exact ih
def Ah (W:aZ→ai→Nat→Prop)(ks ks2:List Nat)(Q:GX→bM→Prop)(e:GX)(st:bM):Prop:=
 match st.h with
 |fr::H=>0<H.length∧(match e with
  | .normal=>W (bZ (fr::H) (H.length-1) (bj st.s ks)) H st.nt
  |e=>Q e ⟨bZ (fr::H) (H.length-1) (bj st.s ks2),H,st.nt⟩)
 | []=>False
def yG (W:aZ→ai→Nat→Prop)(ks ks2:List Nat)(Q:GX→bM→Prop)(e:GX)(st:bM):Prop:=
 match st.h with
 |fr::H=>0<H.length∧(match e with
  | .normal=>mE (qh ⟨bZ (fr::H) (H.length-1) (bj st.s ks),H,st.nt⟩) fun st=>W st.s st.h st.nt
  |e=>Q e ⟨bZ (fr::H) (H.length-1) (bj st.s ks2),H,st.nt⟩)
 | []=>False
def Rd (b:Bool)(c:Code)(ks ks2:List Nat)(Q:GX→bM→Prop)(s:aZ)(H:ai)(nt:Nat):Prop:=
 bF K N fn c=true→K.gN fn (aY c)=some (ks,ks2)→K.gO fn (aY c)=b→ ∃e st',(match aF K fn c ⟨s,[]::H,nt⟩with
  |some (.normal,st)=>(match uX K fn c st with|some st=>aF K fn (.loop c) st|none=>none)
  |some (e,st)=>(match km (some ks2) st with|some st=>some (e,st)|none=>none)
  |none=>none)=some (e,st')∧Q e st'
def gZ (c:Code)(ks ks2:List Nat)(Q:GX→bM→Prop)(s:aZ)(H:ai)(nt:Nat):Prop:=Rd K N fn false c ks ks2 Q s H nt
def um (c:Code)(ks ks2:List Nat)(Q:GX→bM→Prop)(s:aZ)(H:ai)(nt:Nat):Prop:=Rd K N fn true c ks ks2 Q s H nt
def asB:GV→Option Bool
 | .pure (.bool b)=>some b
 |_=>none
def wp:Code→bM→(GX→bM→Prop)→Prop
 | .skip,st,Q=>Q .normal st
 | .label _,st,Q=>Q .normal st
 | .exit id,st,Q=>Q (.exit id) st
 | .ret,st,Q=>Q .ret st
 | .region _ ops false,st,Q=>pT K fn ops.toList ops.toList st (Q .normal)
 | .region id ops true,st,Q=>jg K fn ops.toList (N fn id) 0 ops.toList [] [] st.h st (Q .normal)
 | .seq a b,st,Q=>wp a st fun e st=>match e with| .normal=>wp b st Q|e=>Q e st
 | .cond c x y,st,Q=>mE (asB (ev st.s c)) fun b=>if b=true then wp x st Q else wp y st Q
 | .block id c,st,Q=>wp c st (sx id Q)
 | .loop c,st,Q=>mE (K.gN fn (aY c)) fun a=>if K.gO fn (aY c)=true then um K N fn c a.1 a.2 Q (bj st.s a.1) st.h st.nt else gZ K N fn c a.1 a.2 Q (bj st.s a.1) st.h st.nt
 | .rangeFunc f ps assign body,st,Q=>WP K N fn (.rangeFunc f ps assign body) st Q
 | .scope c,st,Q=>wp c st Q
 |_,_,_=>False
theorem hY: ∀(c:Code) {st:bM} {Q:GX→bM→Prop},wp K N fn c st Q→WP K N fn c st Q
 | .skip,st,Q,h=>fun _=>⟨_,_,by rw [fj];rfl,h⟩
 | .label _,st,Q,h=>fun _=>⟨_,_,by rw [fj];rfl,h⟩
 | .exit id,st,Q,h=>fun _=>⟨_,_,by rw [fj];rfl,h⟩
 | .ret,st,Q,h=>fun _=>⟨_,_,by rw [fj];rfl,h⟩
 | .region id ops false,st,Q,h=>fun _=>by
  obtain⟨st',h1,h2⟩:=oA K fn h;rw [fj];exact⟨_,_,by simp only [cK,h1],h2⟩
 | .region id ops true,st,Q,h=>fun hg=>by
  simp only [bF,Bool.and_eq_true]at hg;obtain⟨st',h1,h2⟩:=yE K fn hg.2 _ 0 [] [] [] [] _ _ rfl (by simp) (by simp) h;rw [List.drop_zero]at h1;rw [fj];exact⟨_,_,by simp only [cK,hg.1,if_true,h1],h2⟩
 | .seq a b,st,Q,h=>fun hg=>by
  simp only [bF,Bool.and_eq_true]at hg;obtain⟨e,st1,h1,h2⟩:=hY a h hg.1;rw [fj];simp only [cK,h1]
  cases e with
  |normal=>
   obtain⟨e2,st2,h3,h4⟩:=hY b h2 hg.2;exact⟨e2,st2,h3,h4⟩
  |exit id=>exact⟨_,_,rfl,h2⟩
  |ret=>exact⟨_,_,rfl,h2⟩
 | .cond c x y,st,Q,h=>fun hg=>by
  simp only [bF,Bool.and_eq_true]at hg;obtain⟨b,h1,h2⟩:=h;have hc:ev st.s c= .pure (.bool b):=by
   unfold asB at h1;split at h1
   ·rename_i b' hb;rw [hb];cases h1;rfl
   ·cases h1
  rw [fj];simp only [cK,hc]
  cases b with
  |true=>
   simp only [if_true]at h2⊢;exact hY x h2 hg.1
  |false=>
   simp only [Bool.false_eq_true,if_false]at h2⊢;exact hY y h2 hg.2
 | .block id c,st,Q,h=>fun hg=>by
  obtain⟨e,st1,h1,h2⟩:=hY c h (by simpa only [bF]using hg);rw [fj];simp only [cK,h1]
  cases e with
  |exit id'=>
   simp only [sx]at h2;split at h2
   ·rename_i he;exact⟨_,_,by simp only [he,if_true],h2⟩
   ·rename_i he;exact⟨_,_,by simp only [he,if_false],h2⟩
  |normal=>exact⟨_,_,rfl,h2⟩
  |ret=>exact⟨_,_,rfl,h2⟩
 | .loop c,st,Q,h=>fun hg=>by
  obtain⟨⟨ks,ks2⟩,ha,h⟩:=h;have h0:Rd K N fn (K.gO fn (aY c)) c ks ks2 Q (bj st.s ks) st.h st.nt:=by
   cases hc:K.gO fn (aY c)with
   |true=>simp only [hc,if_true]at h;exact h
   |false=>simp only [hc,Bool.false_eq_true,if_false]at h;exact h
  obtain⟨e,st',h1,h2⟩:=h0 (by simpa only [bF]using hg) ha rfl;refine⟨e,st', ?_,h2⟩;rw [fj];simp only [cK,ha,Option.map_some,jZ];exact h1
 | .rangeFunc f ps assign body,st,Q,h=>h
 | .scope c,st,Q,h=>fun hg=>by
  obtain⟨e,st1,h1,h2⟩:=hY c h (by simpa only [bF]using hg);rw [fj];exact⟨e,st1,by simp only [cK,h1],h2⟩
 | .goto _,_,_,h=>h.elim
 | .refuse _,_,_,h=>h.elim
theorem EL (s:aZ)(ks:List Nat):bj (bj s ks) ks=bj s ks:=by
 have h: ∀l:List Nat,(∀t∈l,t∈ks)→bj (bj s ks) l=bj s l:=by
  intro l
  induction l with
  |nil=>intro _;rfl
  |cons t r ih=>
   intro hl;simp only [bj,fN s t ks (hl t (List.mem_cons_self ..)),ih fun q hq=>hl q (List.mem_cons_of_mem _ hq)]
 exact h ks fun _ h=>h
theorem az {c:Code}{ks ks2:List Nat}{Q:GX→bM→Prop}{s:aZ}{H:ai}{nt:Nat}(h:wp K N fn c ⟨s,[]::H,nt⟩ (Ah (gZ K N fn c ks ks2 Q) ks ks2 Q)):gZ K N fn c ks ks2 Q s H nt:=fun hg ha hc=>by
 obtain⟨e,st1,h1,h2⟩:=hY K N fn c h hg;rw [h1];unfold Ah at h2;split at h2
 ·rename_i fr H1 hh;obtain⟨h3,h4⟩:=h2;have hne: ¬H1.length=0:=by omega
  cases e with
  |normal=>
   simp only [uX,hc,Bool.false_eq_true,km,hh,hne,if_false,jZ];simp only at h4;obtain⟨e2,st2,g1,g2⟩:=h4 hg ha hc;refine⟨e2,st2, ?_,g2⟩;rw [fj];simp only [cK,ha,Option.map_some,jZ];rw [qg];exact g1
  |exit id=>
   simp only [km,hh,hne,if_false,jZ];exact⟨_,_,rfl,h4⟩
  |ret=>
   simp only [km,hh,hne,if_false,jZ];exact⟨_,_,rfl,h4⟩
 ·exact h2.elim
theorem sy {c:Code}{ks ks2:List Nat}{Q:GX→bM→Prop}{s:aZ}{H:ai}{nt:Nat}(h:wp K N fn c ⟨s,[]::H,nt⟩ (yG (um K N fn c ks ks2 Q) ks ks2 Q)):um K N fn c ks ks2 Q s H nt:=fun hg ha hc=>by
 obtain⟨e,st1,h1,h2⟩:=hY K N fn c h hg;rw [h1];unfold yG at h2;split at h2
 ·rename_i fr H1 hh;obtain⟨h3,h4⟩:=h2;have hne: ¬H1.length=0:=by omega
  cases e with
  |normal=>
   simp only at h4;obtain⟨st2,k1,k2⟩:=h4;have hs:st2.s=bZ (fr::H1) (H1.length-1) (bj st1.s ks):=by
    unfold qh at k1;split at k1
    ·split at k1
     ·cases k1
     ·cases k1;rfl
    ·cases k1
   simp only [uX,hc,if_true,km,hh,hne,if_false,ha,Option.map_some,jZ,k1];obtain⟨e2,st3,g1,g2⟩:=k2 hg ha hc;refine⟨e2,st3, ?_,g2⟩;rw [fj];simp only [cK,ha,Option.map_some,jZ];rw [hs,qg,EL,←hs];exact g1
  |exit id=>
   simp only [km,hh,hne,if_false,jZ];exact⟨_,_,rfl,h4⟩
  |ret=>
   simp only [km,hh,hne,if_false,jZ];exact⟨_,_,rfl,h4⟩
 ·exact h2.elim
def Ca (f:FuncId)(g:Func)(c:Nat)(R:GV×ai→Prop)(e:GX)(st:bM):Prop:=
 (match e with| .exit _=>False|_=>True)∧mE (fk K g st) fun rs=>mE (fY K f c (pU rs) st.h) R
theorem aK {f:FuncId} {g:Func} {code:Code} {args:List GV} {c:Nat} {H:ai} {R:GV×ai→Prop} (hf:K.P.funcs[f]? =some g) (hb:g.body=some code)
  (hn:(g.name== "runtime.NumGoroutine")=false) (hgood:bF K N f code=true) (hl:args.length≤g.ntmps) (hH:0<H.length)
  (h:wp K N f code ⟨slotsOf 0 (args.map canon),[]::H,g.ntmps⟩ (Ca K f g c R)):mE (bJ K (aF K) f args c H) R:=by
 obtain⟨e,st,h1,h2,rs,h3,x,h4,h5⟩:=hY K N f code h hgood;refine⟨x, ?_,h5⟩;have hnt: ¬g.ntmps<args.length:=(by omega);have hH0: ¬H.length=0:=(by omega);simp only [bJ,hf,hb,hn,hnt,hH0,decide_false,Bool.or_self,Bool.false_eq_true,if_false,h1]
 cases e with
 |exit id=>exact h2.elim
 |normal=>
  simp only [h3];rw [←h4];rcases rs with _|⟨r,_|⟨r2,l⟩⟩<;>rfl
 |ret=>
  simp only [h3];rw [←h4];rcases rs with _|⟨r,_|⟨r2,l⟩⟩<;>rfl
theorem tr {f:FuncId}{args:List GV}{c:Nat}{H:ai}{rec:Rec}(hc:K.zV f=false)(hb:K.Ai f=false)(hz:bz H args=(args,H)):aN K rec f args c H=bJ K rec f args c H:=by
 unfold aN;rw [hc,hb,hz];simp
theorem sA {f:FuncId}{args:List GV}{c:Nat}{H:ai}{rec:Rec}(hc:K.zV f=false)(hb:K.Ai f=true):aN K rec f args c H=iO K rec f ((bz H args).1.map canon) c H:=by
 unfold aN;rw [hc,hb];simp
theorem fO {f:FuncId} {args args':List GV} {c:Nat} {H:ai} {rec:Rec} {p:PV} (hc:K.zV f=false) (hb:K.Ai f=true) (hz:(bz H args).1.map canon=args') (hq:ni args'=some none) (hH:0<H.length)
  (h0: ∀H:ai,0<H.length→bJ K rec f args' c H=some (.pure p,H)) (hf:iY p=true):aN K rec f args c H=some (.pure p,H):=by
 rw [sA K hc hb,hz];unfold iO;rw [hq];simp only;rw [h0 _ (by simpa [hZ]using hH)];simp only [lN,uY,pV,oB,hf,if_true,refs,dN,cY,dedup,lO]
theorem ba {f:FuncId} {g:Func} {code:Code} {args:List GV} {c:Nat} {H:ai} {R:GV×ai→Prop} (hf:K.P.funcs[f]? =some g) (hb:g.body=some code)
  (hn:(g.name== "runtime.NumGoroutine")=false) (hgood:bF K N f code=true) (hz:bz H args=(args,H)) (hc:K.zV f=false) (hbo:K.Ai f=false) (hl:args.length≤g.ntmps) (hH:0<H.length)
  (h:wp K N f code ⟨slotsOf 0 (args.map canon),[]::H,g.ntmps⟩ (Ca K f g c R)):mE (aN K (aF K) f args c H) R:=by
 rw [tr K hc hbo hz];exact aK K N hf hb hn hgood hl hH h
theorem bh {f:FuncId} {g:Func} {code:Code} {args:List GV} {c:Nat} {H:ai} {R:GV×ai→Prop} (hf:K.P.funcs[f]? =some g) (hb:g.body=some code)
  (hn:(g.name== "runtime.NumGoroutine")=false) (hgood:bF K N f code=true) (hz:K.EM f=false) (hc:K.zV f=false) (hbo:K.Ai f=false) (hl:args.length≤g.ntmps) (hH:0<H.length)
  (h:wp K N f code ⟨slotsOf 0 (args.map canon),[]::H,g.ntmps⟩ (Ca K f g c R)):mE (aN K (aF K) f args c H) R:=by
 have h0:=aK K N hf hb hn hgood hl hH h;unfold aN;rw [hz,hc,hbo];simpa using h0
end
end
section
section
variable {K:Ctx} {N:FuncId→Nat→List (Nat×Nat)} {fn:FuncId}
@[congr] theorem abS {α:Type}{x y:Option α}{k:α→Prop}(h: ∀_:Unit,x=y):mE x k=mE y k:=by rw [h ()]
@[simp] theorem fP {α:Type}{x:α}{k:α→Prop}:mE (some x) k=k x:=by
 unfold mE;simp
@[simp] theorem wp_skip {st:bM}{Q:GX→bM→Prop}:wp K N fn .skip st Q=Q .normal st:=by rw [wp]
@[simp] theorem wp_exit {id:Nat}{st:bM}{Q:GX→bM→Prop}:wp K N fn (.exit id) st Q=Q (.exit id) st:=by rw [wp]
@[simp] theorem wp_ret {st:bM}{Q:GX→bM→Prop}:wp K N fn .ret st Q=Q .ret st:=by rw [wp]
@[simp] theorem wp_region {id:Nat}{ops:Array Oper}{st:bM}{Q:GX→bM→Prop}:wp K N fn (.region id ops false) st Q=pT K fn ops.toList ops.toList st (Q .normal):=by rw [wp]
@[simp] theorem aaQ {id:Nat}{ops:Array Oper}{st:bM}{Q:GX→bM→Prop}:wp K N fn (.region id ops true) st Q=jg K fn ops.toList (N fn id) 0 ops.toList [] [] st.h st (Q .normal):=by rw [wp]
def Kh (b:Code)(Q:GX→bM→Prop)(e:GX)(st:bM):Prop:=match e with| .normal=>wp K N fn b st Q|e=>Q e st
@[simp] theorem wp_seq {a b:Code}{st:bM}{Q:GX→bM→Prop}:wp K N fn (.seq a b) st Q=wp K N fn a st (Kh (K:=K) (N:=N) (fn:=fn) b Q):=by rw [wp];rfl
@[simp] theorem Oi {b:Code}{Q:GX→bM→Prop}{st:bM}:Kh (K:=K) (N:=N) (fn:=fn) b Q .normal st=wp K N fn b st Q:= .trans rfl rfl
@[simp] theorem Vi {b:Code}{Q:GX→bM→Prop}{id:Nat}{st:bM}:Kh (K:=K) (N:=N) (fn:=fn) b Q (.exit id) st=Q (.exit id) st:= .trans rfl rfl
@[simp] theorem Yf {b:Code}{Q:GX→bM→Prop}{st:bM}:Kh (K:=K) (N:=N) (fn:=fn) b Q .ret st=Q .ret st:= .trans rfl rfl
@[simp] theorem wp_cond {c:Operand}{x y:Code}{st:bM}{Q:GX→bM→Prop}:wp K N fn (.cond c x y) st Q=mE (asB (ev st.s c)) fun b=>if b=true then wp K N fn x st Q else wp K N fn y st Q:=by rw [wp]
@[simp] theorem Yg {b:Bool}:asB (.pure (.bool b))=some b:= .trans rfl rfl
@[simp] theorem wp_block {id:Nat}{c:Code}{st:bM}{Q:GX→bM→Prop}:wp K N fn (.block id c) st Q=wp K N fn c st (sx id Q):=by rw [wp]
@[simp] theorem JG {id:Nat}{Q:GX→bM→Prop}{st:bM}:sx id Q .normal st=Q .normal st:= .trans rfl rfl
@[simp] theorem Re {id:Nat}{Q:GX→bM→Prop}{st:bM}:sx id Q .ret st=Q .ret st:= .trans rfl rfl
@[simp] theorem Oj {id id':Nat}{Q:GX→bM→Prop}{st:bM}:sx id Q (.exit id') st=if id'=id then Q .normal st else Q (.exit id') st:= .trans rfl rfl
@[simp] theorem wp_loop {c:Code}{st:bM}{Q:GX→bM→Prop}:wp K N fn (.loop c) st Q=mE (K.gN fn (aY c)) fun a=>if K.gO fn (aY c)=true then um K N fn c a.1 a.2 Q (bj st.s a.1) st.h st.nt else gZ K N fn c a.1 a.2 Q (bj st.s a.1) st.h st.nt:=by rw [wp]
@[simp] theorem Ki {f:Operand}{ps:Array Tmp}{as b:Code}{st:bM}{Q:GX→bM→Prop}:wp K N fn (.rangeFunc f ps as b) st Q=WP K N fn (.rangeFunc f ps as b) st Q:=by rw [wp]
@[simp] theorem Kj {W:aZ→ai→Nat→Prop}{ks ks2:List Nat}{Q:GX→bM→Prop}{s:aZ}{fr:Fr}{H:ai}{nt:Nat}:
  Ah W ks ks2 Q .normal ⟨s,fr::H,nt⟩=(0<H.length∧W (bZ (fr::H) (H.length-1) (bj s ks)) H nt):= .trans rfl rfl
@[simp] theorem Rf {W:aZ→ai→Nat→Prop}{ks ks2:List Nat}{Q:GX→bM→Prop}{s:aZ}{fr:Fr}{H:ai}{nt id:Nat}:
  Ah W ks ks2 Q (.exit id) ⟨s,fr::H,nt⟩=(0<H.length∧Q (.exit id) ⟨bZ (fr::H) (H.length-1) (bj s ks2),H,nt⟩):= .trans rfl rfl
@[simp] theorem Vj {W:aZ→ai→Nat→Prop}{ks ks2:List Nat}{Q:GX→bM→Prop}{s:aZ}{fr:Fr}{H:ai}{nt:Nat}:
  Ah W ks ks2 Q .ret ⟨s,fr::H,nt⟩=(0<H.length∧Q .ret ⟨bZ (fr::H) (H.length-1) (bj s ks2),H,nt⟩):= .trans rfl rfl
@[simp] theorem JH {W:aZ→ai→Nat→Prop}{ks ks2:List Nat}{Q:GX→bM→Prop}{s:aZ}{fr:Fr}{H:ai}{nt:Nat}:
  yG W ks ks2 Q .normal ⟨s,fr::H,nt⟩=(0<H.length∧mE (qh ⟨bZ (fr::H) (H.length-1) (bj s ks),H,nt⟩) fun st=>W st.s st.h st.nt):= .trans rfl rfl
@[simp] theorem Ok {W:aZ→ai→Nat→Prop}{ks ks2:List Nat}{Q:GX→bM→Prop}{s:aZ}{fr:Fr}{H:ai}{nt id:Nat}:
  yG W ks ks2 Q (.exit id) ⟨s,fr::H,nt⟩=(0<H.length∧Q (.exit id) ⟨bZ (fr::H) (H.length-1) (bj s ks2),H,nt⟩):= .trans rfl rfl
@[simp] theorem Ol {f:FuncId}{g:Func}{c:Nat}{R:GV×ai→Prop}{st:bM}:Ca K f g c R .normal st=mE (fk K g st) fun rs=>mE (fY K f c (pU rs) st.h) R:=by simp [Ca]
@[simp] theorem Yh {f:FuncId}{g:Func}{c:Nat}{R:GV×ai→Prop}{st:bM}:Ca K f g c R .ret st=mE (fk K g st) fun rs=>mE (fY K f c (pU rs) st.h) R:=by simp [Ca]
@[simp] theorem JI {s:aZ}:bj s []=[]:= .trans rfl rfl
@[simp] theorem Hl {s:aZ}{t:Nat}{r:List Nat}:bj s (t::r)=(t,look s t)::bj s r:= .trans rfl rfl
@[simp] theorem Hn {H:ai}{l0:Nat}:bZ H l0 []=[]:= .trans rfl rfl
@[simp] theorem GW {H:ai}{l0:Nat}{t:Nat}{v:GV}{r:aZ}:bZ H l0 ((t,v)::r)=(t,clean H l0 v)::bZ H l0 r:= .trans rfl rfl
@[simp] theorem look_nil {t:Nat}:look [] t=aO:= .trans rfl rfl
@[simp] theorem Rg {d t:Nat}{v:GV}{s:aZ}:look ((d,v)::s) t=if t=d then v else look s t:= .trans rfl rfl
@[simp] theorem abT {s:aZ}{t:Nat}:ev s (.tmp t)=look s t:= .trans rfl rfl
@[simp] theorem Yi {s:aZ}{v:Value}:ev s (.const v)=ofConst v:= .trans rfl rfl
@[simp] theorem aaR {s:aZ}{f:Nat}:ev s (.func f)= .pure (.fn f):= .trans rfl rfl
@[simp] theorem Om {k:IntKind}{n:Int}:ofConst (.int k n)= .pure (.int k n):= .trans rfl rfl
@[simp] theorem Kk {b:Bool}:ofConst (.bool b)= .pure (.bool b):= .trans rfl rfl
@[simp] theorem Kl:ofConst (.slice none 0 0)= .aS:= .trans rfl rfl
@[simp] theorem Km:ofConst (.pointer none)= .pure .qi:= .trans rfl rfl
@[simp] theorem Ko:ofConst .nilFunc= .pure .fZ:= .trans rfl rfl
@[simp] theorem Vk {s:aZ}{v:GV}:lJ s none v=s:= .trans rfl rfl
@[simp] theorem Vl {s:aZ}{d:Nat}{v:GV}:lJ s (some d) v=(d,v)::s:= .trans rfl rfl
@[simp] theorem Rh {nt:Nat}:lM nt none=True:= .trans rfl rfl
@[simp] theorem Ri {nt d:Nat}:lM nt (some d)=(d<nt):= .trans rfl rfl
@[simp] theorem On {i:Nat}:slotsOf i []=[]:= .trans rfl rfl
@[simp] theorem Kp {i:Nat}{v:GV}{l:List GV}:slotsOf i (v::l)=(i,v)::slotsOf (i+1) l:= .trans rfl rfl
@[simp] theorem Vm {all:List Oper}{st:bM}{Q:bM→Prop}:pT K fn all [] st Q=Q st:= .trans rfl rfl
@[simp] theorem Rj {all:List Oper}{o:Oper}{r:List Oper}{st:bM}{Q:bM→Prop}:pT K fn all (o::r) st Q=mE (dA all st.s o) fun b=>
      if b=false then lM st.nt o.dst∧pT K fn all r ⟨lJ st.s o.dst kV,st.h,st.nt⟩ Q
      else mE (cD K (aF K) fn o st.s st.h) fun x=>lM st.nt o.dst∧pT K fn all r ⟨lJ st.s o.dst x.1,x.2,st.nt⟩ Q:= .trans rfl rfl
@[simp] theorem Rk {all:List Oper}{L:List (Nat×Nat)}{i:Nat}{obl:List Ye}{old:List (Nat×ai)}{hb:ai}{st:bM}{Q:bM→Prop}:jg K fn all L i [] obl old hb st Q=Q st:= .trans rfl rfl
@[simp] theorem Oo {all:List Oper}{L:List (Nat×Nat)}{i:Nat}{o:Oper}{r:List Oper}{obl:List Ye}{old:List (Nat×ai)}{hb:ai}{st:bM}{Q:bM→Prop}:
  jg K fn all L i (o::r) obl old hb st Q=mE (dA all st.s o) fun b=>
   if b=false then lM st.nt o.dst∧jg K fn all L (i+1) r obl old hb ⟨lJ st.s o.dst kV,st.h,st.nt⟩ Q
   else if cf K fn o=true then
    mE (ez K fn o st.s hb) fun x=>lM st.nt o.dst∧(∀y∈old,y.1=i→y.2=hb∨sameAt K fn o st.s x.1 y.2=true)∧
     jg K fn all L (i+1) r ((L.filter fun p=>p.2==i).map (fun p=>⟨p.1,o,st.s,x.1,hb⟩)++obl) old hb ⟨lJ st.s o.dst x.1,st.h,st.nt⟩ Q
   else
    mE (cD K (aF K) fn o st.s st.h) fun x=>lM st.nt o.dst∧
     if cC o=true then jg K fn all L (i+1) r obl old hb ⟨lJ st.s o.dst x.1,x.2,st.nt⟩ Q
     else (∀y∈obl,y.i=i→x.2=y.h∨sameAt K fn y.o y.s y.v x.2=true)∧
      jg K fn all L (i+1) r obl ((L.filter fun p=>p.2==i).map (fun p=>(p.1,hb))++old) x.2 ⟨lJ st.s o.dst x.1,x.2,st.nt⟩ Q:= .trans rfl rfl
def tu:List Oper→Nat→Option Nat
 | [],_=>none
 |o::r,j=>if j=0 then o.dst else tu r (j-1)
@[simp] theorem Rl {o:Oper}{r:List Oper}{j:Nat}:tu (o::r) j=if j=0 then o.dst else tu r (j-1):= .trans rfl rfl
def xt (s:aZ)(want:Bool):Option Nat→Option Bool
 |none=>none
 |some d=>(match look s d with| .pure (.bool b)=>some (b==want)| .pure (.tuple [])=>some false|_=>none)
def DX (want:Bool):GV→Option Bool
 | .pure (.bool b)=>some (b==want)
 | .pure (.tuple [])=>some false
 |_=>none
@[simp] theorem Rm {want b:Bool}:DX want (.pure (.bool b))=some (b==want):= .trans rfl rfl
@[simp] theorem Oq {want:Bool}:DX want kV=some false:= .trans rfl rfl
@[congr] theorem Yj {s:aZ}{want:Bool}{x y:Option Nat}(h: ∀_:Unit,x=y):xt s want x=xt s want y:=by rw [h ()]
@[simp] theorem Rn {s:aZ}{want:Bool}{d:Nat}:xt s want (some d)=DX want (look s d):=by
 unfold xt DX;rfl
theorem pW: ∀(l:List Oper) (j:Nat),tu l j=(l[j]?).bind (·.dst)
 | [],j=>by simp [tu]
 |o::r,0=>by simp [tu]
 |o::r,j+1=>by simp [tu,pW r j]
@[simp] theorem Kq {all:List Oper}{s:aZ}{dst:Option Tmp}{op:Op}{ty:TypeId}{pos:String}{af:Array Edge}:dA all s ⟨dst,op,ty,pos,af,none⟩=some true:= .trans rfl rfl
@[simp] theorem Kr {all:List Oper}{s:aZ}{dst:Option Tmp}{op:Op}{ty:TypeId}{pos:String}{af:Array Edge}{j:Nat}{want:Bool}:
  dA all s ⟨dst,op,ty,pos,af,some (j,want)⟩=xt s want (tu all j):=by
 rw [pW];unfold dA xt;simp only
 cases all[j]? with
 |none=>rfl
 |some oj=>
  simp only [Option.bind_some]
  cases oj.dst with
  |none=>rfl
  |some d=>rfl
variable {rec:Rec} {dst:Option Tmp} {ty:TypeId} {pos:String} {af:Array Edge} {gu:Option (Nat×Bool)} {s:aZ} {H:ai}
def DY (r:Option Nat)(H:ai)(b:GV)(z:GV×ai):Option (GV×ai):=match r with
 |none=>qV H b z
 |some key=>qW H b key z
@[simp] theorem Ro {H:ai}{b:GV}{z:GV×ai}:DY none H b z=qV H b z:= .trans rfl rfl
def xu (x:Option Tmp)(r:Option Nat)(s:aZ)(H:ai)(y:Option (GV×ai)):Option (GV×ai):=match x with
 |none=>y
 |some t=>(match y with|some z=>DY r H (look s t) z|none=>none)
@[congr] theorem Yk {x x':Option Tmp}{r:Option Nat}{s:aZ}{H:ai}{y y':Option (GV×ai)}(h: ∀_:Unit,x=x')(h': ∀_:Unit,y=y'):xu x r s H y=xu x' r s H y':=by rw [h (),h' ()]
@[simp] theorem Rp {r:Option Nat}{s:aZ}{H:ai}{y:Option (GV×ai)}:xu none r s H y=y:= .trans rfl rfl
@[simp] theorem Rq {t:Tmp}{r:Option Nat}{s:aZ}{H:ai}{z:GV×ai}:xu (some t) r s H (some z)=DY r H (look s t) z:= .trans rfl rfl
@[simp] theorem Rr {f:Operand}{args:Array Operand}{ats:Array TypeId}:cD K rec fn ⟨dst, .call ⟨.value f,args,ats⟩,ty,pos,af,gu⟩ s H=xu (K.lift fn (dst.getD 0)) (K.row fn (dst.getD 0)) s H (dM K rec (ev s f) (args.toList.map (ev s)) (dst.getD 0) H):=by
 unfold cD xu;simp only [gM]
 cases K.lift fn (dst.getD 0)with
 |none=>rfl
 |some t=>simp only [DY];cases dM K rec (ev s f) (args.toList.map (ev s)) (dst.getD 0) H<;>rfl
@[simp] theorem uZ {f:Nat}{args:List GV}{c:Nat}:dM K rec (.pure (.fn f)) args c H=aN K rec f args c H:= .trans rfl rfl
@[simp] theorem nj {f:Nat}{first cap args:List GV}{c:Nat}:dM K rec (.func f first cap) args c H=aN K rec f (first++args++cap) c H:= .trans rfl rfl
@[simp] theorem JJ {nm:Nm}{args:List GV}{c:Nat}:dM K rec (.yield nm) args c H=ground rec nm args H:= .trans rfl rfl
end
end
section
section
variable {K:Ctx} {fn:FuncId} {rec:Rec} {dst:Option Tmp} {ty:TypeId} {pos:String} {af:Array Edge} {gu:Option (Nat×Bool)} {s:aZ} {H:ai}
@[simp] theorem Rs (x:Operand):cD K rec fn ⟨dst, .move x,ty,pos,af,gu⟩ s H=ez K fn ⟨dst, .move x,ty,pos,af,gu⟩ s H:= .trans rfl rfl
@[simp] theorem Ks (x:Operand):cD K rec fn ⟨dst, .assign x,ty,pos,af,gu⟩ s H=ez K fn ⟨dst, .assign x,ty,pos,af,gu⟩ s H:= .trans rfl rfl
@[simp] theorem Rt (c a b:Operand):cD K rec fn ⟨dst, .pick c a b,ty,pos,af,gu⟩ s H=ez K fn ⟨dst, .pick c a b,ty,pos,af,gu⟩ s H:= .trans rfl rfl
@[simp] theorem Ot (t:TypeId):cD K rec fn ⟨dst, .alloc t,ty,pos,af,gu⟩ s H=ez K fn ⟨dst, .alloc t,ty,pos,af,gu⟩ s H:= .trans rfl rfl
@[simp] theorem Vn (t:TypeId)(x:Operand):cD K rec fn ⟨dst, .box t x,ty,pos,af,gu⟩ s H=ez K fn ⟨dst, .box t x,ty,pos,af,gu⟩ s H:= .trans rfl rfl
@[simp] theorem Ou (t:TypeId)(ps:Array (Nat×Operand)):cD K rec fn ⟨dst, .build t ps,ty,pos,af,gu⟩ s H=ez K fn ⟨dst, .build t ps,ty,pos,af,gu⟩ s H:= .trans rfl rfl
@[simp] theorem EN (t:TypeId)(n:Nat)(ps:Array (Nat×Operand)):cD K rec fn ⟨dst, .buildSlice t n ps,ty,pos,af,gu⟩ s H=ez K fn ⟨dst, .buildSlice t n ps,ty,pos,af,gu⟩ s H:= .trans rfl rfl
@[simp] theorem Ru (t:TypeId)(a:Operand):cD K rec fn ⟨dst, .load t a,ty,pos,af,gu⟩ s H=ez K fn ⟨dst, .load t a,ty,pos,af,gu⟩ s H:= .trans rfl rfl
@[simp] theorem Ov (t:TypeId)(a x:Operand):cD K rec fn ⟨dst, .store t a x,ty,pos,af,gu⟩ s H=ez K fn ⟨dst, .store t a x,ty,pos,af,gu⟩ s H:= .trans rfl rfl
@[simp] theorem Ho (x:Operand):cD K rec fn ⟨dst, .nilCheck x,ty,pos,af,gu⟩ s H=ez K fn ⟨dst, .nilCheck x,ty,pos,af,gu⟩ s H:= .trans rfl rfl
@[simp] theorem Ow (op:BinOp)(t:TypeId)(x y:Operand)(d:TypeId):cD K rec fn ⟨dst, .binOp op t x y d,ty,pos,af,gu⟩ s H=ez K fn ⟨dst, .binOp op t x y d,ty,pos,af,gu⟩ s H:= .trans rfl rfl
@[simp] theorem Rv (op:UnOp)(t:TypeId)(x:Operand):cD K rec fn ⟨dst, .unOp op t x,ty,pos,af,gu⟩ s H=ez K fn ⟨dst, .unOp op t x,ty,pos,af,gu⟩ s H:= .trans rfl rfl
@[simp] theorem JK (a b:TypeId)(x:Operand):cD K rec fn ⟨dst, .convert a b x,ty,pos,af,gu⟩ s H=ez K fn ⟨dst, .convert a b x,ty,pos,af,gu⟩ s H:= .trans rfl rfl
@[simp] theorem Hp (f:Fn)(a c:Array Operand):cD K rec fn ⟨dst, .makeFunc f a c,ty,pos,af,gu⟩ s H=ez K fn ⟨dst, .makeFunc f a c,ty,pos,af,gu⟩ s H:= .trans rfl rfl
@[simp] theorem JL (t:TypeId)(r:Option Operand):cD K rec fn ⟨dst, .makeMap t r,ty,pos,af,gu⟩ s H=ez K fn ⟨dst, .makeMap t r,ty,pos,af,gu⟩ s H:= .trans rfl rfl
@[simp] theorem GY (t:TypeId)(l c:Operand):cD K rec fn ⟨dst, .makeSlice t l c,ty,pos,af,gu⟩ s H=ez K fn ⟨dst, .makeSlice t l c,ty,pos,af,gu⟩ s H:= .trans rfl rfl
@[simp] theorem Ox (t:TypeId)(x:Operand)(lo hi mx:Option Operand):cD K rec fn ⟨dst, .slice t x lo hi mx,ty,pos,af,gu⟩ s H=ez K fn ⟨dst, .slice t x lo hi mx,ty,pos,af,gu⟩ s H:= .trans rfl rfl
@[simp] theorem GZ (t:TypeId)(x:Operand)(f:Nat):cD K rec fn ⟨dst, .fieldAddr t x f,ty,pos,af,gu⟩ s H=ez K fn ⟨dst, .fieldAddr t x f,ty,pos,af,gu⟩ s H:= .trans rfl rfl
@[simp] theorem G5 (t:TypeId)(x i:Operand):cD K rec fn ⟨dst, .indexAddr t x i,ty,pos,af,gu⟩ s H=ez K fn ⟨dst, .indexAddr t x i,ty,pos,af,gu⟩ s H:= .trans rfl rfl
@[simp] theorem Kt (t:TypeId)(x k:Operand)(ok:Bool):cD K rec fn ⟨dst, .lookup t x k ok,ty,pos,af,gu⟩ s H=ez K fn ⟨dst, .lookup t x k ok,ty,pos,af,gu⟩ s H:= .trans rfl rfl
@[simp] theorem G6 (t:TypeId)(m k v:Operand):cD K rec fn ⟨dst, .mapUpdate t m k v,ty,pos,af,gu⟩ s H=ez K fn ⟨dst, .mapUpdate t m k v,ty,pos,af,gu⟩ s H:= .trans rfl rfl
@[simp] theorem JM (t:Operand)(i:Nat):cD K rec fn ⟨dst, .extract t i,ty,pos,af,gu⟩ s H=ez K fn ⟨dst, .extract t i,ty,pos,af,gu⟩ s H:= .trans rfl rfl
@[simp] theorem JN (b:Builtin)(args:Array Operand)(ats:Array TypeId):cD K rec fn ⟨dst, .call ⟨.builtin b,args,ats⟩,ty,pos,af,gu⟩ s H=ez K fn ⟨dst, .call ⟨.builtin b,args,ats⟩,ty,pos,af,gu⟩ s H:= .trans rfl rfl
@[simp] theorem Oy (x:Operand):cf K fn ⟨dst, .move x,ty,pos,af,gu⟩=true:= .trans rfl rfl
@[simp] theorem JO (x:Operand):cf K fn ⟨dst, .assign x,ty,pos,af,gu⟩=true:= .trans rfl rfl
@[simp] theorem Oz (c a b:Operand):cf K fn ⟨dst, .pick c a b,ty,pos,af,gu⟩=true:= .trans rfl rfl
@[simp] theorem Ku (t:TypeId):cf K fn ⟨dst, .alloc t,ty,pos,af,gu⟩=false:= .trans rfl rfl
@[simp] theorem Kv (t:TypeId)(ps:Array (Nat×Operand)):cf K fn ⟨dst, .build t ps,ty,pos,af,gu⟩=true:= .trans rfl rfl
@[simp] theorem OA (t:TypeId)(a:Operand):cf K fn ⟨dst, .load t a,ty,pos,af,gu⟩=true:= .trans rfl rfl
@[simp] theorem Kw (t:TypeId)(a x:Operand):cf K fn ⟨dst, .store t a x,ty,pos,af,gu⟩=false:= .trans rfl rfl
@[simp] theorem G7 (x:Operand):cf K fn ⟨dst, .nilCheck x,ty,pos,af,gu⟩=true:= .trans rfl rfl
@[simp] theorem Kx (op:BinOp)(t:TypeId)(x y:Operand)(d:TypeId):cf K fn ⟨dst, .binOp op t x y d,ty,pos,af,gu⟩=true:= .trans rfl rfl
@[simp] theorem OB (op:UnOp)(t:TypeId)(x:Operand):cf K fn ⟨dst, .unOp op t x,ty,pos,af,gu⟩=true:= .trans rfl rfl
@[simp] theorem Hq (a b:TypeId)(x:Operand):cf K fn ⟨dst, .convert a b x,ty,pos,af,gu⟩=true:= .trans rfl rfl
@[simp] theorem Ky (t:TypeId)(x:Operand)(lo hi mx:Option Operand):cf K fn ⟨dst, .slice t x lo hi mx,ty,pos,af,gu⟩=true:= .trans rfl rfl
@[simp] theorem EO (t:TypeId)(x:Operand)(f:Nat):cf K fn ⟨dst, .fieldAddr t x f,ty,pos,af,gu⟩=true:= .trans rfl rfl
@[simp] theorem Kz (t:TypeId)(x:Operand)(f:Nat):cf K fn ⟨dst, .field t x f,ty,pos,af,gu⟩=true:= .trans rfl rfl
@[simp] theorem EP (t:TypeId)(x i:Operand):cf K fn ⟨dst, .indexAddr t x i,ty,pos,af,gu⟩=true:= .trans rfl rfl
@[simp] theorem Hs (t:Operand)(i:Nat):cf K fn ⟨dst, .extract t i,ty,pos,af,gu⟩=true:= .trans rfl rfl
@[simp] theorem DZ (t:TypeId)(n:Nat)(ps:Array (Nat×Operand)):cf K fn ⟨dst, .buildSlice t n ps,ty,pos,af,gu⟩=(match dst with|some d=> !K.own fn d|none=>true):= .trans rfl rfl
@[simp] theorem Rx (args:Array Operand)(ats:Array TypeId):cf K fn ⟨dst, .call ⟨.builtin .len,args,ats⟩,ty,pos,af,gu⟩=true:= .trans rfl rfl
@[simp] theorem JP (args:Array Operand)(ats:Array TypeId):cf K fn ⟨dst, .call ⟨.builtin .append,args,ats⟩,ty,pos,af,gu⟩=false:= .trans rfl rfl
@[simp] theorem OC (f:Operand)(args:Array Operand)(ats:Array TypeId):cf K fn ⟨dst, .call ⟨.value f,args,ats⟩,ty,pos,af,gu⟩=false:= .trans rfl rfl
@[simp] theorem JQ (t:TypeId)(a x:Operand):cC ⟨dst, .store t a x,ty,pos,af,gu⟩=false:=by cases dst<;>rfl
@[simp] theorem KA (c:Call):cC ⟨dst, .call c,ty,pos,af,gu⟩=false:=by cases dst<;>rfl
@[simp] theorem JR {d:Nat}(t:TypeId):cC ⟨some d, .alloc t,ty,pos,af,none⟩=true:= .trans rfl rfl
def rv (H:ai)(x:Option GV):Option (GV×ai):=match x with|some v=>some (v,H)|none=>none
@[congr] theorem acM {x y:Option GV}(h: ∀_:Unit,x=y):rv H x=rv H y:=by rw [h ()]
@[simp] theorem aaS {v:GV}:rv H (some v)=some (v,H):= .trans rfl rfl
def rp (H:ai)(x:Option PV):Option (GV×ai):=match x with|some v=>some (.pure v,H)|none=>none
@[congr] theorem acN {x y:Option PV}(h: ∀_:Unit,x=y):rp H x=rp H y:=by rw [h ()]
@[simp] theorem aaT {v:PV}:rp H (some v)=some (.pure v,H):= .trans rfl rfl
def rh (x:Option ai):Option (GV×ai):=match x with|some H=>some (aO,H)|none=>none
@[simp] theorem aaU:rh (some H)=some (aO,H):= .trans rfl rfl
def rn (x:Option (Nm×ai))(g:Nm→GV):Option (GV×ai):=match x with|some (nm,H)=>some (g nm,H)|none=>none
@[simp] theorem aaV {nm:Nm}{g:Nm→GV}:rn (some (nm,H)) g=some (g nm,H):= .trans rfl rfl
@[simp] theorem Yl {x:Operand}:ez K fn ⟨dst, .move x,ty,pos,af,gu⟩ s H=rv H (some (ev s x)):= .trans rfl rfl
@[simp] theorem Ry {x:Operand}:ez K fn ⟨dst, .assign x,ty,pos,af,gu⟩ s H=rv H (some (ev s x)):= .trans rfl rfl
def Ht (c a b:GV):Option GV:=match c with| .pure (.bool t)=>some (if t then a else b)|_=>none
@[simp] theorem Rz {t:Bool}{a b:GV}:Ht (.pure (.bool t)) a b=some (if t=true then a else b):= .trans rfl rfl
@[simp] theorem Ym {c a b:Operand}:ez K fn ⟨dst, .pick c a b,ty,pos,af,gu⟩ s H=rv H (Ht (ev s c) (ev s a) (ev s b)):=by
 simp only [ez];unfold Ht;generalize ev s c=g;cases g with
 |pure p=>cases p<;>rfl
 |_=>rfl
def u0 (H:ai)(d:Nat)(x:Option (List GV)):Option (GV×ai):=match x with|some cs=>rn (iD H d (.box cs)) (fun nm=> .aA nm 0)|none=>none
@[simp] theorem OD {d:Nat}{cs:List GV}:u0 H d (some cs)=rn (iD H d (.box cs)) (fun nm=> .aA nm 0):= .trans rfl rfl
def qX (x:Option GV):Option (List GV):=match x with|some z=>bG z|none=>none
@[simp] theorem ky {z:GV}:qX (some z)=bG z:= .trans rfl rfl
@[simp] theorem Vo {d:Nat}{t:TypeId}:ez K fn ⟨some d, .alloc t,ty,pos,af,gu⟩ s H=u0 H d (qX (ct K.P t)):=by
 simp only [ez]
 cases h:ct K.P t with
 |none=>rfl
 |some z=>
  simp only [ky,u0]
  cases bG z with
  |none=>rfl
  |some cs=>
   simp only
   cases iD H d (.box cs)with
   |none=>rfl
   |some x=>rfl
@[simp] theorem aaW {d:Nat}{t:TypeId}{x:Operand}:ez K fn ⟨some d, .box t x,ty,pos,af,gu⟩ s H=u0 H d (bG (ev s x)):=by
 simp only [ez,u0]
 cases bG (ev s x)with
 |none=>rfl
 |some cs=>
  simp only
  cases iD H d (.box cs)with
  |none=>rfl
  |some x=>rfl
@[simp] theorem Vp {fr:Fr}{d:Nat}{b:dB}:iD (fr::H) d b=if (fr.get d).isSome then none else some ((H.length,d),fr.ins d b::H):=by
 unfold iD kn;simp only [List.length_cons,Nat.add_sub_cancel];rw [if_neg (by omega)];simp only [ai.get,ai.set,if_true];cases fr.get d<;>simp
@[simp] theorem Fr.get_nil {q:Nat}:Fr.get [] q=none:= .trans rfl rfl
@[simp] theorem Fr.cL {k q:Nat}{b:dB}{r:Fr}:Fr.get ((k,b)::r) q=if q=k then some b else Fr.get r q:= .trans rfl rfl
@[simp] theorem Fr.aaX {q:Nat}{x:dB}:Fr.ins q x []=[(q,x)]:= .trans rfl rfl
@[simp] theorem Fr.qY {k q:Nat}{x b:dB}{r:Fr}:Fr.ins q x ((k,b)::r)=if q=k then (q,x)::r else if q<k then (q,x)::(k,b)::r else (k,b)::Fr.ins q x r:= .trans rfl rfl
@[simp] theorem ai.fb {fr:Fr}{nm:Nm}:ai.get (fr::H) nm=if nm.1=H.length then fr.get nm.2 else ai.get H nm:= .trans rfl rfl
@[simp] theorem ai.jB {fr:Fr}{nm:Nm}{b:dB}:ai.set (fr::H) nm b=if nm.1=H.length then fr.ins nm.2 b::H else fr::ai.set H nm b:= .trans rfl rfl
@[simp] theorem RA {l:List GV}:bG (.agg l)=some l:= .trans rfl rfl
@[simp] theorem OE {l:List PV}:bG (.pure (.agg l))=some (l.map .pure):= .trans rfl rfl
@[simp] theorem RC {k:IntKind}{n:Int}:bG (.pure (.int k n))=some [.pure (.int k n)]:= .trans rfl rfl
@[simp] theorem OG {b:Bool}:bG (.pure (.bool b))=some [.pure (.bool b)]:= .trans rfl rfl
@[simp] theorem KB {l:List (List PV)}:bG (.pure (.slice l))=some [.pure (.slice l)]:= .trans rfl rfl
@[simp] theorem Vq {f:Nat}:bG (.pure (.fn f))=some [.pure (.fn f)]:= .trans rfl rfl
@[simp] theorem OH:bG (.pure .fZ)=some [.pure .fZ]:= .trans rfl rfl
@[simp] theorem OI:bG .aS=some [.aS]:= .trans rfl rfl
@[simp] theorem RD {nm:Nm}{es top lo len:Nat}:bG (.bd nm es top lo len)=some [.bd nm es top lo len]:= .trans rfl rfl
@[simp] theorem OJ {f:Nat}{a c:List GV}:bG (.func f a c)=some [.func f a c]:= .trans rfl rfl
@[simp] theorem KD {nm:Nm}:bG (.yield nm)=some [.yield nm]:= .trans rfl rfl
@[simp] theorem OK:bp []=some []:= .trans rfl rfl
@[simp] theorem yH {p:PV}{r:List GV}:bp (.pure p::r)=(bp r).map (p:: ·):=by
 simp only [bp];cases bp r<;>rfl
@[simp] theorem KE (l:List PV):bp (l.map .pure)=some l:=oC l
@[simp] theorem OL {l:List GV}{r:List GV}:bp (.agg l::r)=none:= .trans rfl rfl
@[simp] theorem KF {r:List GV}:bp (.aS::r)=none:= .trans rfl rfl
@[simp] theorem OM {nm:Nm}{es top lo len:Nat}{r:List GV}:bp (.bd nm es top lo len::r)=none:= .trans rfl rfl
def Yn (x:Option (List PV))(l:List GV):GV:=match x with|some ps=> .pure (.agg ps)|none=> .agg l
@[congr] theorem abU {x y:Option (List PV)}{l:List GV}(h: ∀_:Unit,x=y):Yn x l=Yn y l:=by rw [h ()]
@[simp] theorem Yo {ps:List PV}{l:List GV}:Yn (some ps) l= .pure (.agg ps):= .trans rfl rfl
@[simp] theorem Yp {l:List GV}:Yn none l= .agg l:= .trans rfl rfl
@[simp] theorem ER {l:List GV}:cR l=Yn (bp l) l:= .trans rfl rfl
def Yq (x:Option (List PV))(l:List GV):GV:=match x with|some ps=> .pure (.tuple ps)|none=> .tuple l
@[congr] theorem abV {x y:Option (List PV)}{l:List GV}(h: ∀_:Unit,x=y):Yq x l=Yq y l:=by rw [h ()]
@[simp] theorem Yr {ps:List PV}{l:List GV}:Yq (some ps) l= .pure (.tuple ps):= .trans rfl rfl
@[simp] theorem Ys {l:List GV}:Yq none l= .tuple l:= .trans rfl rfl
@[simp] theorem ON {l:List GV}:mkTuple l=Yq (bp l) l:= .trans rfl rfl
@[simp] theorem Yt {t:TypeId}{a:Operand}:ez K fn ⟨dst, .load t a,ty,pos,af,gu⟩ s H=rv H (ku K.P t H (ev s a)):= .trans rfl rfl
@[simp] theorem Vr {t:TypeId}{a x:Operand}:ez K fn ⟨dst, .store t a x,ty,pos,af,gu⟩ s H=rh (oD K.P t H (ev s a) (ev s x)):= .trans rfl rfl
def D0 (ag:Option Bool)(sz:Option Nat)(off:Nat)(b:Option dB):Option GV:=
 match ag,sz,b with
 |some true,some size,some (.box cs)=>if off+size≤cs.length then some (cR ((cs.drop off).take size))else none
 |some false,some _,some (.box cs)=>cs[off]?
 |_,_,_=>none
@[simp] theorem Vs {sz off:Nat}{cs:List GV}:D0 (some true) (some sz) off (some (.box cs))=if off+sz≤cs.length then some (cR ((cs.drop off).take sz))else none:= .trans rfl rfl
@[simp] theorem Vt {sz off:Nat}{cs:List GV}:D0 (some false) (some sz) off (some (.box cs))=cs[off]? := .trans rfl rfl
@[simp] theorem RE {P:Program}{t:TypeId}{nm:Nm}{off:Nat}:ku P t H (.aA nm off)=D0 (eG P t) (bu P t) off (H.get nm):=by
 unfold ku D0;generalize eG P t=x;generalize bu P t=y;simp only;generalize ai.get H nm=z;rcases x with _|ag<;>rcases y with _|sz<;>rcases z with _|b<;>try rfl
 all_goals (cases ag<;>try rfl)
 all_goals (cases b<;>rfl)
def ldP (ag:Option Bool)(sz:Option Nat)(cs:List PV):Option GV:=
 match ag,sz with
 |some true,some size=>if size≤cs.length then some (.pure (.agg (cs.take size)))else none
 |some false,some _=>(match cs[0]? with|some p=>some (.pure p)|none=>none)
 |_,_=>none
@[simp] theorem aaZ {sz:Nat}{cs:List PV}:ldP (some true) (some sz) cs=if sz≤cs.length then some (.pure (.agg (cs.take sz)))else none:= .trans rfl rfl
@[simp] theorem aa0 {sz:Nat}{p:PV}{cs:List PV}:ldP (some false) (some sz) (p::cs)=some (.pure p):= .trans rfl rfl
@[simp] theorem RF {P:Program}{t:TypeId}{cs:List PV}:ku P t H (.bX cs)=ldP (eG P t) (bu P t) cs:=by
 unfold ku ldP;generalize eG P t=x;generalize bu P t=y;rcases x with _|ag<;>rcases y with _|sz<;>try rfl
 all_goals (cases ag<;>rfl)
def Vu (ag:Option Bool)(sz:Option Nat)(es top i off:Nat)(b:Option dB):Option GV:=
  match ag,sz,b with
  |some ag,some size,some (.arr es' elems vf _)=>if es'=es∧vf≤top∧i<top∧top≤elems.length then
        (match elems[i]? with
        |some e=>if ag then (if off+size≤e.length then some (.pure (.agg ((e.drop off).take size)))else none)else (match e[off]? with|some p=>some (.pure p)|none=>none)
        |none=>none)
      else none
  |_,_,_=>none
def Yu (ag:Option Bool)(sz:Option Nat)(nm:Nm)(es top i off:Nat)(b:Option dB):Option GV:=
 match ag,sz,b with
 |some ag,some _,some (.qS es' rows n)=>if ag=false∧es=1∧off=0∧i<top∧top≤n then (match rows[i]? with|some r=>some (.gX nm es' i r.length)|none=>none)else none
 |ag,sz,b=>Vu ag sz es top i off b
@[congr] theorem abW {ag:Option Bool}{sz:Option Nat}{nm:Nm}{es top i off:Nat}{b b':Option dB}(h: ∀_:Unit,b=b'):Yu ag sz nm es top i off b=Yu ag sz nm es top i off b':=by rw [h ()]
@[simp] theorem aa1 {ag sz:Option _}{nm:Nm}{es top i off es' vf:Nat}{elems:List (List PV)}{ro:Bool}:Yu ag sz nm es top i off (some (.arr es' elems vf ro))=Vu ag sz es top i off (some (.arr es' elems vf ro)):=by
 cases ag<;>cases sz<;>rfl
@[simp] theorem RG {P:Program}{t:TypeId}{nm:Nm}{es top i off:Nat}:ku P t H (.eE nm es top i off)=Yu (eG P t) (bu P t) nm es top i off (H.get nm):=by
 unfold ku Yu Vu;generalize eG P t=x;generalize bu P t=y;simp only;generalize ai.get H nm=z;rcases x with _|ag<;>rcases y with _|sz<;>rcases z with _|b<;>try rfl
 all_goals (cases b<;>rfl)
@[simp] theorem aa2 {sz es top i off es' vf:Nat}{elems:List (List PV)}{ro:Bool}:Vu (some true) (some sz) es top i off (some (.arr es' elems vf ro))=if es'=es∧vf≤top∧i<top∧top≤elems.length then
        (match elems[i]? with
        |some e=>if off+sz≤e.length then some (.pure (.agg ((e.drop off).take sz)))else none
        |none=>none)
      else none:= .trans rfl rfl
@[simp] theorem aa3 {sz es top i off es' vf:Nat}{elems:List (List PV)}{ro:Bool}:Vu (some false) (some sz) es top i off (some (.arr es' elems vf ro))=if es'=es∧vf≤top∧i<top∧top≤elems.length then
        (match elems[i]? with
        |some e=>(match e[off]? with|some p=>some (.pure p)|none=>none)
        |none=>none)
      else none:=by
  simp only [Vu];split<;>simp
def RH (k:IntKind)(a b:Int):Int:=k.wrap (BitVec.ofInt k.bits a &&& BitVec.ofInt k.bits b).toNat
def Ai (k:IntKind)(a b:Int):Int:=k.wrap (BitVec.ofInt k.bits a|||BitVec.ofInt k.bits b).toNat
def RI (k:IntKind)(a b:Int):Int:=k.wrap (BitVec.ofInt k.bits a^^^BitVec.ofInt k.bits b).toNat
@[simp] theorem RJ {t:Nat}:qj (.tmp t)=false:= .trans rfl rfl
@[simp] theorem RK {k:IntKind}{n:Int}:qj (.const (.int k n))=false:= .trans rfl rfl
@[simp] theorem RL:qj (.const (.slice none 0 0))=true:= .trans rfl rfl
theorem Cb {op:BinOp}{t d:TypeId}{x y:Operand}:ez K fn ⟨dst, .binOp op t x y d,ty,pos,af,gu⟩ s H=rp H (D3 K op t s x y):= .trans rfl rfl
@[simp] theorem Vv {op:BinOp}{t d:TypeId}{x y:Operand}:ez K fn ⟨dst, .binOp op t x y d,ty,pos,af,gu⟩ s H=rp H (if qj y=true then iE K op t (ev s x)else fL K op t (ev s x) (ev s y)):=by
 rw [Cb];rfl
section
variable {t:TypeId} {k:IntKind} {a b:Int}
@[simp] theorem Yv:fL K .add t (.pure (.int k a)) (.pure (.int k b))=some (.int k (k.wrap (a+b))):=by simp [fL,oE]
@[simp] theorem Yw:fL K .sub t (.pure (.int k a)) (.pure (.int k b))=some (.int k (k.wrap (a-b))):=by simp [fL,oE]
@[simp] theorem Yx:fL K .mul t (.pure (.int k a)) (.pure (.int k b))=some (.int k (k.wrap (a*b))):=by simp [fL,oE]
@[simp] theorem Yy:fL K .quo t (.pure (.int k a)) (.pure (.int k b))=if b=0 then none else some (.int k (k.wrap (a.tdiv b))):=by simp [fL,oE]
@[simp] theorem Yz:fL K .rem t (.pure (.int k a)) (.pure (.int k b))=if b=0 then none else some (.int k (a.tmod b)):=by simp [fL,oE]
@[simp] theorem YA:fL K .and t (.pure (.int k a)) (.pure (.int k b))=some (.int k (RH k a b)):=by simp [fL,oE,RH]
@[simp] theorem aa4:fL K .or t (.pure (.int k a)) (.pure (.int k b))=some (.int k (Ai k a b)):=by simp [fL,oE,Ai]
@[simp] theorem YB:fL K .xor t (.pure (.int k a)) (.pure (.int k b))=some (.int k (RI k a b)):=by simp [fL,oE,RI]
@[simp] theorem YC:fL K .eql t (.pure (.int k a)) (.pure (.int k b))=some (.bool (a==b)):=by simp [fL,oE]
@[simp] theorem YD:fL K .neq t (.pure (.int k a)) (.pure (.int k b))=some (.bool (a !=b)):=by simp [fL,oE]
@[simp] theorem YE:fL K .lss t (.pure (.int k a)) (.pure (.int k b))=some (.bool (decide (a<b))):=by simp [fL,oE]
@[simp] theorem YF:fL K .leq t (.pure (.int k a)) (.pure (.int k b))=some (.bool (decide (a≤b))):=by simp [fL,oE]
@[simp] theorem YG:fL K .gtr t (.pure (.int k a)) (.pure (.int k b))=some (.bool (decide (b<a))):=by simp [fL,oE]
@[simp] theorem YH:fL K .geq t (.pure (.int k a)) (.pure (.int k b))=some (.bool (decide (b≤a))):=by simp [fL,oE]
@[simp] theorem YI {k':IntKind}:fL K .shr t (.pure (.int k a)) (.pure (.int k' b))=if b<0 then none else some (.int k (a.fdiv (2^(min b.toNat k.bits)))):=by simp [fL,yI]
end
@[simp] theorem Vw {t:TypeId}{a b:Bool}:fL K .eql t (.pure (.bool a)) (.pure (.bool b))=(match K.P.underlying t with|some .bool=>some (.bool (a==b))|_=>none):=by
 simp only [fL];cases K.P.underlying t with
 |none=>rfl
 |some x=>cases x<;>rfl
@[simp] theorem Vx {t:TypeId}{a b:Bool}:fL K .neq t (.pure (.bool a)) (.pure (.bool b))=(match K.P.underlying t with|some .bool=>some (.bool (!(a==b)))|_=>none):=by
 simp only [fL];cases K.P.underlying t with
 |none=>rfl
 |some x=>cases x<;>rfl
def eqA (neg:Bool)(ks:Option (List SK))(a b:List PV):Option PV:=match ks with|some ks=>(match cd ks a b with|some q=>some (.bool (if neg then !q else q))|none=>none)|none=>none
@[simp] theorem Vy {t:TypeId}{a b:List PV}:fL K .neq t (.pure (.agg a)) (.pure (.agg b))=eqA true (K.eqs t) a b:=by
 simp only [fL,eqA];cases K.eqs t with
 |none=>rfl
 |some ks=>simp only;cases cd ks a b<;>rfl
@[simp] theorem YJ {neg:Bool}{ks:List SK}{a b:List PV}:eqA neg (some ks) a b=(cd ks a b).map (fun q=> .bool (if neg then !q else q)):=by
 simp only [eqA];cases cd ks a b<;>rfl
@[simp] theorem Vz:cd [] [] []=some true:= .trans rfl rfl
@[simp] theorem VA {k:IntKind}{ks:List SK}{x y:Int}{a b:List PV}:cd (.int k::ks) (.int k x::a) (.int k y::b)=(cd ks a b).map (x==y && ·):=by
 simp only [cd,and_self,if_true];cases cd ks a b<;>rfl
def unV (op:UnOp)(x:GV):Option GV:=match op,x with
 | .not, .pure (.bool b)=>some (.pure (.bool (!b)))
 | .neg, .pure (.int k n)=>some (.pure (.int k (k.wrap (-n))))
 |_,_=>none
@[simp] theorem aa6 {b:Bool}:unV .not (.pure (.bool b))=some (.pure (.bool (!b))):= .trans rfl rfl
@[simp] theorem YK {op:UnOp}{t:TypeId}{x:Operand}:ez K fn ⟨dst, .unOp op t x,ty,pos,af,gu⟩ s H=rv H (unV op (ev s x)):=by
 simp only [ez];unfold unV;generalize ev s x=g;cases op<;>cases g<;>try rfl
 all_goals (rename_i p;cases p<;>rfl)
def cvV (a b:Option TypeDesc)(x:GV):Option GV:=match a,b,x with
 |some _,some (.int k), .pure (.int _ n)=>some (.pure (.int k (k.wrap n)))
 |some _,some .string, .pure (.str l)=>some (.pure (.str l))
 |_,_,_=>none
@[simp] theorem aa7 {d:TypeDesc}{k k':IntKind}{n:Int}:cvV (some d) (some (.int k)) (.pure (.int k' n))=some (.pure (.int k (k.wrap n))):= .trans rfl rfl
@[simp] theorem OO {a b:TypeId}{x:Operand}:ez K fn ⟨dst, .convert a b x,ty,pos,af,gu⟩ s H=rv H (cvV (K.P.underlying a) (K.P.underlying b) (ev s x)):=by
 simp only [ez];unfold cvV;generalize ev s x=g;generalize K.P.underlying a=x1;generalize K.P.underlying b=x2;rcases x1 with _|d1<;>rcases x2 with _|d2<;>try rfl
 cases d2<;>cases g<;>try rfl
 all_goals (rename_i p;cases p<;>rfl)
def ncV (x:GV):Option GV:=match x with
 | .aA nm off=>some (.aA nm off)
 | .eE nm es top i off=>some (.eE nm es top i off)
 | .bX cs=>some (.bX cs)
 | .iG cs=>some (.iG cs)
 | .func f first cap=>some (.func f first cap)
 | .pure (.fn f)=>some (.pure (.fn f))
 | .yield nm=>some (.yield nm)
 |_=>none
@[simp] theorem YL {nm:Nm}{o:Nat}:ncV (.aA nm o)=some (.aA nm o):= .trans rfl rfl
@[simp] theorem KG {x:Operand}:ez K fn ⟨dst, .nilCheck x,ty,pos,af,gu⟩ s H=rv H (ncV (ev s x)):=by
 simp only [ez];unfold ncV;generalize ev s x=g;cases g<;>try rfl
 all_goals (rename_i p;cases p<;>rfl)
@[simp] theorem OP {q:Nat}{nm:Nm}{o:Nat}:ia q (.aA nm o)=some (.aA nm (o+q)):= .trans rfl rfl
@[simp] theorem OQ {q:Nat}{nm:Nm}{es top i o:Nat}:ia q (.eE nm es top i o)=some (.eE nm es top i (o+q)):= .trans rfl rfl
@[simp] theorem OS {q:Nat}{cs:List PV}:ia q (.bX cs)=if q≤cs.length then some (.bX (cs.drop q))else none:= .trans rfl rfl
def faV (f:Option (Nat×Option Nat))(x:GV):Option GV:=match f with|some (off,some size)=>if size=0 then none else ia off x|_=>none
@[simp] theorem YM {off size:Nat}{x:GV}:faV (some (off,some size)) x=if size=0 then none else ia off x:= .trans rfl rfl
def ow (P:Program)(t:TypeId)(f:Nat):Option (Nat×Option Nat):=(mb P t f).map fun x=>(x.1,bu P x.2)
def YN (P:Program)(t:TypeId)(f:Nat):Option (Nat×Option Bool×Option Nat):=(mb P t f).map fun x=>(x.1,eG P x.2,bu P x.2)
@[simp] theorem JS {t:TypeId}{x:Operand}{f:Nat}:ez K fn ⟨dst, .fieldAddr t x f,ty,pos,af,gu⟩ s H=rv H (faV (ow K.P t f) (ev s x)):=by
 simp only [ez,faV,ow]
 cases mb K.P t f with
 |none=>rfl
 |some p=>
  obtain⟨off,ft⟩:=p;simp only [Option.map_some]
  cases bu K.P ft with
  |none=>rfl
  |some size=>
   simp only;split
   ·rfl
   ·cases ia off (ev s x)<;>rfl
def VB (f:Option (Nat×Option Bool×Option Nat))(x:GV):Option GV:=match f,x with
 |some (off,some ag,some size), .agg cs=>if off+size≤cs.length then (if ag then some (cR ((cs.drop off).take size))else cs[off]?)else none
 |some (off,some ag,some size), .pure (.agg cs)=>if off+size≤cs.length then (if ag then some (.pure (.agg ((cs.drop off).take size)))else (match cs[off]? with|some v=>some (.pure v)|none=>none))else none
 |_,_=>none
@[simp] theorem aa8 {off size:Nat}{cs:List GV}:VB (some (off,some true,some size)) (.agg cs)=if off+size≤cs.length then some (cR ((cs.drop off).take size))else none:=by simp [VB]
@[simp] theorem YO {off size:Nat}{cs:List PV}:VB (some (off,some false,some size)) (.pure (.agg cs))=if off+size≤cs.length then (match cs[off]? with|some v=>some (.pure v)|none=>none)else none:=by simp [VB]
@[simp] theorem VC {t:TypeId}{x:Operand}{f:Nat}:ez K fn ⟨dst, .field t x f,ty,pos,af,gu⟩ s H=rv H (VB (YN K.P t f) (ev s x)):=by
 simp only [ez,YN]
 cases mb K.P t f with
 |none=>rfl
 |some p=>
  obtain⟨off,ft⟩:=p;simp only [Option.map_some];unfold VB
  cases eG K.P ft with
  |none=>rfl
  |some ag=>
   cases bu K.P ft with
   |none=>rfl
   |some size=>
    cases ev s x with
    |pure p=>
     cases p with
     |agg cs=>
      simp only;split
      ·cases ag
       ·simp only [Bool.false_eq_true,if_false];cases cs[off]? <;>rfl
       ·rfl
      ·rfl
     |_=>rfl
    |agg cs=>
     simp only;split
     ·cases ag
      ·simp only [Bool.false_eq_true,if_false];cases cs[off]? <;>rfl
      ·rfl
     ·rfl
    |_=>rfl
def fQ (P:Program)(t:TypeId):Option (Nat×Option Nat×Option Bool):=(uo P t).map fun x=>(x.1,bu P x.2,eG P x.2)
def gJ (P:Program)(t:TypeId):Option (Option Nat):=(dz P t).map fun e=>bu P e
def iaS (es:Option (Option Nat))(x:GV)(i:Int):Option GV:=match es with
  |some (some size)=>(match x with
          | .bd nm es top lo len=>if es=size∧i<len then some (.eE nm es top (lo+i.toNat) 0)else none
          | .pure (.slice l)=>(match l[i.toNat]? with|some cs=>if cs.length=size then some (.bX cs)else none|none=>none)
          | .lits l=>(match l[i.toNat]? with|some cs=>if cs.length=size then some (.iG cs)else none|none=>none)
          | .gX nm es q len=>if es=size∧i<len then some (.jf nm es q i.toNat 0)else none
          |_=>none)
  |_=>none
def VD (ar:Option (Nat×Option Nat×Option Bool))(es:Option (Option Nat))(x i:GV):Option GV:=match i with
 | .pure (.int _ i)=>if i<0 then none else
  (match ar with
  |some (n,some size,_)=>if (n:Int)≤i then none else ia (i.toNat*size) x
  |some (_,none,_)=>none
  |none=>iaS es x i)
 |_=>none
@[simp] theorem aba {n size:Nat}{ag:Option Bool}{es:Option (Option Nat)}{x:GV}{k:IntKind}{i:Int}:VD (some (n,some size,ag)) es x (.pure (.int k i))=if i<0 then none else if (n:Int)≤i then none else ia (i.toNat*size) x:= .trans rfl rfl
@[simp] theorem VE {es:Option (Option Nat)}{x:GV}{k:IntKind}{i:Int}:VD none es x (.pure (.int k i))=if i<0 then none else iaS es x i:= .trans rfl rfl
@[simp] theorem abb {size:Nat}{nm:Nm}{es top lo len:Nat}{i:Int}:iaS (some (some size)) (.bd nm es top lo len) i=if es=size∧i<len then some (.eE nm es top (lo+i.toNat) 0)else none:= .trans rfl rfl
@[simp] theorem YP {size:Nat}{l:List (List PV)}{i:Int}:iaS (some (some size)) (.pure (.slice l)) i=(match l[i.toNat]? with|some cs=>if cs.length=size then some (.bX cs)else none|none=>none):= .trans rfl rfl
@[simp] theorem JT {t:TypeId}{x i:Operand}:ez K fn ⟨dst, .indexAddr t x i,ty,pos,af,gu⟩ s H=rv H (VD (fQ K.P t) (gJ K.P t) (ev s x) (ev s i)):=by
 have h:kX K t (ev s x) (ev s i)=VD (fQ K.P t) (gJ K.P t) (ev s x) (ev s i):=by
  unfold kX VD fQ gJ;generalize ev s i=g;generalize ev s x=gx
  cases g with
  |pure p=>
   cases p with
   |int k n=>
    simp only;split
    ·rfl
    ·cases uo K.P t with
     |some p=>
      obtain⟨n,e⟩:=p;simp only [Option.map_some];cases bu K.P e<;>rfl
     |none=>
      simp only [Option.map_none]
      cases dz K.P t with
      |none=>rfl
      |some e=>
       simp only [Option.map_some];cases bu K.P e<;>rfl
   |_=>rfl
  |_=>rfl
 simp only [ez,h];cases VD (fQ K.P t) (gJ K.P t) (ev s x) (ev s i)<;>rfl
def bdV (ar:Option (Option Nat))(pl:Option (List (Nat×Nat)))(z:Option (List GV))(ps:List (Nat×GV)):Option GV:=
 match z with
 |some zs=>
  (match (match ar with
   |some (some size)=>eH (fun i=>some (i*size,size)) zs ps
   |some none=>none
   |none=>(match pl with|some l=>eH (fun i=>l[i]?) zs ps|none=>none))with
  |some cs=>some (cR cs)
  |none=>none)
 |none=>none
def bdM (x:Option (List GV)):Option GV:=match x with|some cs=>some (cR cs)|none=>none
@[simp] theorem YQ {cs:List GV}:bdM (some cs)=some (cR cs):= .trans rfl rfl
@[simp] theorem abd {size:Nat}{pl:Option (List (Nat×Nat))}{zs:List GV}{ps:List (Nat×GV)}:bdV (some (some size)) pl (some zs) ps=bdM (eH (fun i=>some (i*size,size)) zs ps):= .trans rfl rfl
@[simp] theorem RM {l:List (Nat×Nat)}{zs:List GV}{ps:List (Nat×GV)}:bdV none (some l) (some zs) ps=bdM (eH (fun i=>l[i]?) zs ps):= .trans rfl rfl
@[simp] theorem VF {t:TypeId}{ps:Array (Nat×Operand)}:ez K fn ⟨dst, .build t ps,ty,pos,af,gu⟩ s H=rv H (bdV ((fQ K.P t).map (·.2.1)) (fM K.P t) (qX (ct K.P t)) (ps.toList.map (uB s))):=by
 simp only [ez,bdV,fQ]
 cases ct K.P t with
 |none=>rfl
 |some z=>
  simp only [ky]
  cases bG z with
  |none=>rfl
  |some zs=>
   simp only
   cases uo K.P t with
   |some p=>
    obtain⟨n,e⟩:=p;simp only [Option.map_some]
    cases bu K.P e with
    |none=>rfl
    |some size=>
     simp only;cases eH (fun i=>some (i*size,size)) zs (ps.toList.map (uB s))<;>rfl
   |none=>
    simp only [Option.map_none]
    cases fM K.P t with
    |none=>rfl
    |some l=>
     simp only;cases eH (fun i=>l[i]?) zs (ps.toList.map (uB s))<;>rfl
@[simp] theorem abe {x:Nat×Operand}:uB s x=(x.1,ev s x.2):= .trans rfl rfl
@[simp] theorem VG {place:Nat→Option (Nat×Nat)}{cells:List GV}:eH place cells []=some cells:= .trans rfl rfl
def yJ (place:Nat→Option (Nat×Nat))(cells:List GV)(rest:List (Nat×GV))(p:Option (Nat×Nat))(vs:Option (List GV)):Option (List GV):=
 match p,vs with
 |some (off,size),some vs=>if vs.length≠size∨off+vs.length>cells.length then none else eH place (aH cells off vs) rest
 |_,_=>none
@[congr] theorem VH {place:Nat→Option (Nat×Nat)}{cells:List GV}{rest:List (Nat×GV)}{p p':Option (Nat×Nat)}{vs vs':Option (List GV)}(h: ∀_:Unit,p=p')(h': ∀_:Unit,vs=vs'):yJ place cells rest p vs=yJ place cells rest p' vs':=by rw [h (),h' ()]
@[simp] theorem OT {place:Nat→Option (Nat×Nat)}{cells:List GV}{rest:List (Nat×GV)}{off size:Nat}{vs:List GV}:yJ place cells rest (some (off,size)) (some vs)=
  if vs.length≠size∨off+vs.length>cells.length then none else eH place (aH cells off vs) rest:= .trans rfl rfl
@[simp] theorem RN {place:Nat→Option (Nat×Nat)}{cells:List GV}{i:Nat}{v:GV}{rest:List (Nat×GV)}:eH place cells ((i,v)::rest)=yJ place cells rest (place i) (bG v):=by
 simp only [eH]
 cases place i with
 |none=>rfl
 |some p=>obtain⟨off,size⟩:=p;cases bG v<;>rfl
@[simp] theorem RO {α:Type}{l xs:List α}{off:Nat}:aH l off xs=l.take off++xs++l.drop (off+xs.length):= .trans rfl rfl
def Hu (size off:Nat)(cells':List GV×ai)(nm:Nm):Option ai:=match cells'.2.get nm with
 |some (.box cs)=>if off+size≤cs.length then some (cells'.2.set nm (.box (aH cs off cells'.1)))else none
 |_=>none
def YR (size off:Nat)(cs':List GV)(H:ai)(nm:Nm)(b:Option dB):Option ai:=match b with
 |some (.box cs)=>if off+size≤cs.length then some (H.set nm (.box (aH cs off cs')))else none
 |_=>none
@[congr] theorem ab2 {size off:Nat}{cs':List GV}{nm:Nm}{b b':Option dB}(h: ∀_:Unit,b=b'):YR size off cs' H nm b=YR size off cs' H nm b':=by rw [h ()]
@[simp] theorem abf {size off:Nat}{cs' cs:List GV}{nm:Nm}:YR size off cs' H nm (some (.box cs))=if off+size≤cs.length then some (H.set nm (.box (aH cs off cs')))else none:= .trans rfl rfl
@[simp] theorem VI {size off:Nat}{cs':List GV}{nm:Nm}:Hu size off (cs',H) nm=YR size off cs' H nm (H.get nm):=by
 unfold Hu YR;rfl
def RP (sz:Option Nat)(cells:Option (List GV))(k:Nat→List GV→Option ai):Option ai:=match sz,cells with|some size,some cells=>if cells.length≠size then none else k size cells|_,_=>none
@[congr] theorem ab3 {sz sz':Option Nat}{cells cells':Option (List GV)}{k:Nat→List GV→Option ai}(h: ∀_:Unit,sz=sz')(h': ∀_:Unit,cells=cells'):RP sz cells k=RP sz' cells' k:=by rw [h (),h' ()]
@[simp] theorem YS {size:Nat}{cells:List GV}{k:Nat→List GV→Option ai}:RP (some size) (some cells) k=if cells.length≠size then none else k size cells:= .trans rfl rfl
@[simp] theorem OU {P:Program}{t:TypeId}{nm:Nm}{off:Nat}{v:GV}:oD P t H (.aA nm off) v=RP (bu P t) (bG v) fun size cells=>Hu size off (db H nm.1 cells) nm:=by
 unfold oD RP
 cases bu P t with
 |none=>rfl
 |some size=>
  cases bG v with
  |none=>rfl
  |some cells=>rfl
def Hv (size es top i off:Nat)(ps:List PV×ai)(nm:Nm):Option ai:=match ps.2.get nm with
  |some (.arr es' elems _ ro)=>if es'=es∧ro=false∧top=elems.length∧i<top then
          (match elems[i]? with
          |some e=>if off+size≤e.length then some (ps.2.set nm (.arr es' (elems.set i (aH e off ps.1)) elems.length false))else none
          |none=>none)
        else none
  |_=>none
@[simp] theorem OV {P:Program}{t:TypeId}{nm:Nm}{es top i off:Nat}{v:GV}:oD P t H (.eE nm es top i off) v=RP (bu P t) (bG v) fun size cells=>Hv size es top i off (bN H cells) nm:=by
 unfold oD RP
 cases bu P t with
 |none=>rfl
 |some size=>
  cases bG v with
  |none=>rfl
  |some cells=>rfl
def YT (size es top i off:Nat)(ps:List PV)(H:ai)(nm:Nm)(b:Option dB):Option ai:=match b with
  |some (.arr es' elems _ ro)=>if es'=es∧ro=false∧top=elems.length∧i<top then
          (match elems[i]? with
          |some e=>if off+size≤e.length then some (H.set nm (.arr es' (elems.set i (aH e off ps)) elems.length false))else none
          |none=>none)
        else none
  |_=>none
@[congr] theorem ab4 {size es top i off:Nat}{ps:List PV}{nm:Nm}{b b':Option dB}(h: ∀_:Unit,b=b'):YT size es top i off ps H nm b=YT size es top i off ps H nm b':=by rw [h ()]
@[simp] theorem abg {size es top i off es' vf:Nat}{ps:List PV}{nm:Nm}{elems:List (List PV)}{ro:Bool}:YT size es top i off ps H nm (some (.arr es' elems vf ro))=if es'=es∧ro=false∧top=elems.length∧i<top then
          (match elems[i]? with
          |some e=>if off+size≤e.length then some (H.set nm (.arr es' (elems.set i (aH e off ps)) elems.length false))else none
          |none=>none)
        else none:= .trans rfl rfl
@[simp] theorem VJ {size es top i off:Nat}{ps:List PV}{nm:Nm}:Hv size es top i off (ps,H) nm=YT size es top i off ps H nm (H.get nm):=by
 unfold Hv YT;rfl
@[simp] theorem Hw {l0:Nat}:db H l0 []=([],H):= .trans rfl rfl
def lcC (l0:Nat)(r:List GV)(x:GV×ai):List GV×ai:=(x.1::(db x.2 l0 r).1,(db x.2 l0 r).2)
@[congr] theorem ab5 {l0:Nat}{r:List GV}{x y:GV×ai}(h: ∀_:Unit,x=y):lcC l0 r x=lcC l0 r y:=by rw [h ()]
@[simp] theorem YU {l0:Nat}{r:List GV}{g:GV}:lcC l0 r (g,H)=(g::(db H l0 r).1,(db H l0 r).2):= .trans rfl rfl
@[simp] theorem Ha {l0:Nat}{g:GV}{r:List GV}:db H l0 (g::r)=lcC l0 r (dP H l0 g):= .trans rfl rfl
@[simp] theorem Hz {l0:Nat}{p:PV}:dP H l0 (.pure p)=(.pure p,H):= .trans rfl rfl
@[simp] theorem HA {l0:Nat}:dP H l0 .aS=(.aS,H):= .trans rfl rfl
@[simp] theorem HB {l0:Nat}{f:Nat}{a c:List GV}:dP H l0 (.func f a c)=(if dF l0 a && dF l0 c then .func f a c else aO,H):= .trans rfl rfl
@[simp] theorem JU {l0:Nat}{nm:Nm}{es top lo len:Nat}:dP H l0 (.bd nm es top lo len)=if nm.1≤l0 then (.bd nm es top lo len,H)else (.pure (dG H (.bd nm es top lo len)).1,(dG H (.bd nm es top lo len)).2):= .trans rfl rfl
@[simp] theorem JV:bN H []=([],H):= .trans rfl rfl
def pcC (r:List GV)(x:PV×ai):List PV×ai:=(x.1::(bN x.2 r).1,(bN x.2 r).2)
@[congr] theorem ab6 {r:List GV}{x y:PV×ai}(h: ∀_:Unit,x=y):pcC r x=pcC r y:=by rw [h ()]
@[simp] theorem YV {r:List GV}{g:PV}:pcC r (g,H)=(g::(bN H r).1,(bN H r).2):= .trans rfl rfl
@[simp] theorem HC {g:GV}{r:List GV}:bN H (g::r)=pcC r (dG H g):= .trans rfl rfl
@[simp] theorem JW {p:PV}:dG H (.pure p)=(p,H):= .trans rfl rfl
@[simp] theorem JX:dG H .aS=(.slice [],H):= .trans rfl rfl
def Aj (es top lo len:Nat)(H:ai)(nm:Nm)(b:Option dB):PV×ai:=match b with
  |some (.arr es' elems vf _)=>if es'=es∧vf≤top∧lo+len≤top∧top≤elems.length then (.slice ((elems.drop lo).take len),H.set nm (.arr es' elems vf true))else (.dead,H)
  |_=>(.dead,H)
@[congr] theorem YW {es top lo len:Nat}{nm:Nm}{b b':Option dB}(h: ∀_:Unit,b=b'):Aj es top lo len H nm b=Aj es top lo len H nm b':=by rw [h ()]
@[simp] theorem VK {es top lo len es' vf:Nat}{nm:Nm}{elems:List (List PV)}{ro:Bool}:Aj es top lo len H nm (some (.arr es' elems vf ro))=
  if es'=es∧vf≤top∧lo+len≤top∧top≤elems.length then (.slice ((elems.drop lo).take len),H.set nm (.arr es' elems vf true))else (.dead,H):= .trans rfl rfl
@[simp] theorem KH {nm:Nm}{es top lo len:Nat}:dG H (.bd nm es top lo len)=Aj es top lo len H nm (H.get nm):=by
 rw [mF];unfold Aj
 cases H.get nm with
 |none=>rfl
 |some b=>cases b<;>rfl
@[simp] theorem abj {x:Operand}{t:TypeId}:ez K fn ⟨dst, .call ⟨.builtin .len,#[x],#[t]⟩,ty,pos,af,gu⟩ s H=rp H ((Cc K t H (ev s x)).map (.int .i64)):=by
 show (match Cc K t H (ev s x)with|some n=>some (GV.pure (.int .i64 n),H)|none=>none)=_
 cases Cc K t H (ev s x)<;>rfl
def KI (d:Option TypeDesc)(H:ai)(x:GV):Option Int:=
 match d,x with
 |some (.array n _),_=>some n
 |some (.slice _), .bd _ _ _ _ len=>some len
 |some (.slice _), .gX _ _ _ len=>some len
 |some (.slice _), .aS=>some 0
 |some (.slice _), .lits l=>some l.length
 |some (.slice _), .pure (.slice l)=>some l.length
 |some .string, .pure (.str l)=>some l.length
 |some (.map _ _), .pure .oG=>some 0
 |some (.map _ _), .map nm=>(match H.get nm with|some (.map es)=>some es.length|_=>none)
 |_,_=>none
@[simp] theorem YX {t:TypeId}{x:GV}:Cc K t H x=KI (K.P.underlying t) H x:= .trans rfl rfl
@[simp] theorem YY {e:TypeId}{nm:Nm}{es top lo len:Nat}:KI (some (.slice e)) H (.bd nm es top lo len)=some (len:Int):= .trans rfl rfl
@[simp] theorem VL {e:TypeId}:KI (some (.slice e)) H .aS=some 0:= .trans rfl rfl
@[simp] theorem VM {e:TypeId}{l:List (List PV)}:KI (some (.slice e)) H (.pure (.slice l))=some (l.length:Int):= .trans rfl rfl
@[simp] theorem OW {t:Operand}{i:Nat}:ez K fn ⟨dst, .extract t i,ty,pos,af,gu⟩ s H=rv H (match ev s t with| .tuple l=>l[i]? | .pure (.tuple l)=>(match l[i]? with|some v=>some (.pure v)|none=>none)|_=>none):=by
 simp only [ez]
 cases ev s t with
 |tuple l=>simp only;cases l[i]? <;>rfl
 |pure p=>
  cases p with
  |tuple l=>simp only;cases l[i]? <;>rfl
  |_=>rfl
 |_=>rfl
@[simp] theorem VN {r:GV}:pU [r]=r:= .trans rfl rfl
@[simp] theorem VO:pU []= .pure (.tuple []):= .trans rfl rfl
@[simp] theorem VP {a b:GV}{l:List GV}:pU (a::b::l)=mkTuple (a::b::l):= .trans rfl rfl
@[simp] theorem oH {p:PV}:dx H (.pure p)=(.pure p,H):= .trans rfl rfl
@[simp] theorem Ak {nm:Nm}{o:Nat}:dx H (.aA nm o)=(.aA nm o,H):= .trans rfl rfl
@[simp] theorem RQ {p:PV}:canon (.pure p)= .pure p:= .trans rfl rfl
@[simp] theorem RR {nm:Nm}{o:Nat}:canon (.aA nm o)= .aA nm o:= .trans rfl rfl
@[simp] theorem OX {nm:Nm}:canon (.yield nm)= .yield nm:= .trans rfl rfl
@[simp] theorem RT:canon .aS= .pure (.slice []):= .trans rfl rfl
@[simp] theorem VQ {nm:Nm}{es top lo len:Nat}:canon (.bd nm es top lo len)= .bd nm es top lo len:= .trans rfl rfl
@[simp] theorem ES {l:List GV}:canon (.agg l)=cR (l.map cg):= .trans rfl rfl
@[simp] theorem OY {p:PV}:cg (.pure p)= .pure p:= .trans rfl rfl
@[simp] theorem OZ:cg .aS= .pure (.slice []):= .trans rfl rfl
@[simp] theorem RU {nm:Nm}{es top lo len:Nat}:cg (.bd nm es top lo len)= .bd nm es top lo len:= .trans rfl rfl
@[simp] theorem O0 {l:List GV}:canon (.tuple l)=mkTuple (l.map fun g=>match g with| .agg l=>cR (l.map cg)|g=>cg g):= .trans rfl rfl
@[simp] theorem RV {l0:Nat}{p:PV}:clean H l0 (.pure p)= .pure p:= .trans rfl rfl
@[simp] theorem RX {l0:Nat}:clean H l0 .aS= .aS:= .trans rfl rfl
@[simp] theorem RY {l0:Nat}{nm:Nm}{o:Nat}:clean H l0 (.aA nm o)=if nm.1≤l0 then .aA nm o else aO:= .trans rfl rfl
@[simp] theorem VR {l0:Nat}{nm:Nm}:clean H l0 (.map nm)=if nm.1≤l0 then .map nm else aO:= .trans rfl rfl
@[simp] theorem VS {l0:Nat}{nm:Nm}{es top lo len:Nat}:clean H l0 (.bd nm es top lo len)=if nm.1≤l0 then .bd nm es top lo len else .pure (ib H nm es top lo len):= .trans rfl rfl
def ab7 (f:Nat)(a:List GV)(x:Option (List GV)):GV:=match x with|some c=> .func f a c|none=>aO
@[simp] theorem RZ {l0:Nat}{f:Nat}{a c:List GV}:clean H l0 (.func f a c)=if dF l0 a && dF l0 c then .func f a c else if dF l0 a then ab7 f a (pX H l0 c)else aO:= .trans rfl rfl
@[simp] theorem R1 {l0:Nat}{cs:List PV}:clean H l0 (.bX cs)= .bX cs:= .trans rfl rfl
@[simp] theorem mG {l0:Nat}{l:List GV}:clean H l0 (.agg l)=cR (l.map (cz H l0)):= .trans rfl rfl
@[simp] theorem O1 {l0:Nat}{l:List GV}:clean H l0 (.tuple l)=mkTuple (l.map (iH H l0)):= .trans rfl rfl
@[simp] theorem R3 {l0:Nat}{l:List GV}:iH H l0 (.agg l)=cR (l.map (cz H l0)):= .trans rfl rfl
@[simp] theorem O2 {l0:Nat}{p:PV}:iH H l0 (.pure p)= .pure p:= .trans rfl rfl
@[simp] theorem O3 {l0:Nat}:iH H l0 .aS= .aS:= .trans rfl rfl
@[simp] theorem R4 {l0:Nat}{nm:Nm}{es top lo len:Nat}:iH H l0 (.bd nm es top lo len)=if nm.1≤l0 then .bd nm es top lo len else .pure (ib H nm es top lo len):= .trans rfl rfl
@[simp] theorem lP {l0:Nat}{p:PV}:cz H l0 (.pure p)= .pure p:= .trans rfl rfl
@[simp] theorem KJ {l0:Nat}:cz H l0 .aS= .aS:= .trans rfl rfl
@[simp] theorem R5 {l0:Nat}{nm:Nm}{es top lo len:Nat}:cz H l0 (.bd nm es top lo len)=if nm.1≤l0 then .bd nm es top lo len else .pure (ib H nm es top lo len):= .trans rfl rfl
def YZ (es top lo len:Nat)(b:Option dB):PV:=match b with
 |some (.arr es' elems vf _)=>if es'=es∧vf≤top∧lo+len≤top∧top≤elems.length then .slice ((elems.drop lo).take len)else .dead
 |_=> .dead
@[simp] theorem abk {es top lo len es' vf:Nat}{elems:List (List PV)}{ro:Bool}:YZ es top lo len (some (.arr es' elems vf ro))=if es'=es∧vf≤top∧lo+len≤top∧top≤elems.length then .slice ((elems.drop lo).take len)else .dead:= .trans rfl rfl
@[simp] theorem tv {nm:Nm}{es top lo len:Nat}:jR H nm es top lo len=YZ es top lo len (H.get nm):=by
 unfold jR YZ
 cases H.get nm with
 |none=>rfl
 |some b=>cases b<;>rfl
def slM (es top lo len:Nat)(b:Option dB):PV:=match b with
 |some (.qS _ rows n)=>if es=1∧lo+len≤top∧top≤n then .slice (((rows.drop lo).take len).map fun r=> [.slice r])else .dead
 |b=>YZ es top lo len b
@[simp] theorem abl {es top lo len es' vf:Nat}{elems:List (List PV)}{ro:Bool}:slM es top lo len (some (.arr es' elems vf ro))=if es'=es∧vf≤top∧lo+len≤top∧top≤elems.length then .slice ((elems.drop lo).take len)else .dead:= .trans rfl rfl
@[simp] theorem KL {nm:Nm}{es top lo len:Nat}:ib H nm es top lo len=slM es top lo len (H.get nm):=by
 unfold ib;rw [tv];unfold slM
 cases H.get nm with
 |none=>rfl
 |some b=>cases b<;>rfl
@[simp] theorem VT {l0:Nat}:dF l0 []=true:= .trans rfl rfl
@[simp] theorem R6 {l0:Nat}{nm:Nm}{o:Nat}{r:List GV}:dF l0 (.aA nm o::r)=(decide (nm.1≤l0) && dF l0 r):= .trans rfl rfl
theorem ah {f:Nat}{c:Nat}{r:GV}{fr:Fr}(h:K.HD f=false):fY K f c r (fr::H)=some (canon (clean (fr::H) (H.length-1) r),H):=by
 unfold fY;simp [h]
end
end
end Go.Gh
