/- Texts joined: the evaluator over ghost values, its soundness, the walks. Spaces struck and names made short by a program, for the size. -/
import Derived.Test.YtkcmcjohoockcaaGc8d
namespace Go.Gh
set_option linter.unusedVariables false
set_option linter.unusedSimpArgs false
set_option linter.unnecessarySimpa false
set_option maxRecDepth 100000
set_option maxHeartbeats 8000000
section
def CK (w0 w:World)(S:Nat→Prop)(μ:Mu)(P:Program)(o:Oper)(u:Value)(b:Nat):Prop:=
 u= .pointer (some ⟨b,0,none⟩)∧w0.heap.size≤b∧b<w.heap.size∧ ¬S b∧(∀nm t,μ nm t≠some b)∧
 ∃ty v cs,o.op= .alloc ty∧b8 P ty=some (ofConst v)∧bm (ofConst v)=some cs∧w.heap[b]? =some (.cells v.cells ty (0,0))
section
variable {w w':World} {S S':Nat→Prop} {μ μ':Mu} {ℓ:Nat}
theorem CK.ev {w0:World}{P:Program}{o:Oper}{u:Value}{b:Nat}(h:CK w0 w S μ P o u b)(e:Ev ℓ w S μ w' S' μ'):CK w0 w' S' μ' P o u b:=by
 obtain⟨h1,h2,h3,h4,h5,ty,v,cs,h6,h7,h8,h9⟩:=h;refine⟨h1,h2,Nat.lt_of_lt_of_le h3 e.size,fun hs=> ?_,fun nm t hm=> ?_,ty,v,cs,h6,h7,h8,by rw [e.same b h3 (.inr h5)];exact h9⟩
 ·rcases e.sM b hs h3 with h|⟨nm,t,h⟩
  ·exact h4 h
  ·exact h5 _ _ h
 ·obtain⟨nm',t',h'⟩:=e.own nm t b hm h3;exact h5 _ _ h'
end
section
variable (K:Ctx) (rec:Rec) (fn:FuncId) (ops:Array Oper) (st0:bE) (base:Nat) (r:Option Nat) (w0:World) (S0:Nat→Prop) (μ0:Mu)
abbrev TT (j:Nat):TS:=dT K rec fn ops.toList st0 j
abbrev KK (j:Nat):Nat:=dk K rec fn ops.toList st0 j
abbrev VV (j:Nat):GV:=dv K rec fn ops.toList st0 j
structure ji (listed:Array Bool)(a:Act)(w:World)(S:Nat→Prop)(μ:Mu)(e:Nat)(pd:Nat→Nat):Prop where
 sz:listed.size=ops.size
 OX:yw ops listed
 le:e≤ops.size
 ww: ∀j,j<ops.size→KK K rec fn ops st0 j=3→(listed.getD j false=true↔j<e)
 al: ∀j,j<e→KK K rec fn ops st0 j=2→listed.getD j false=true
 v1: ∀(j:Nat) (o:Oper) (d:Nat),ops.toList[j]? =some o→o.dst=some d→listed.getD j false=true→(KK K rec fn ops st0 j=2→j<e)→ax w S μ (st0.h.length-1) (a.tmps.getD d undef) (VV K rec fn ops st0 j)
 v0: ∀t,(∀(j:Nat) (o:Oper),ops.toList[j]? =some o→listed.getD j false=true→o.dst≠some t)→ax w S μ (st0.h.length-1) (a.tmps.getD t undef) (look st0.s t)
 pa: ∀(j:Nat) (o:Oper) (d:Nat),ops.toList[j]? =some o→o.dst=some d→listed.getD j false=true→KK K rec fn ops st0 j=2→e≤j→CK w0 w S μ K.P o (a.tmps.getD d undef) (pd j)
 AZ: ∀i j,i<ops.size→j<ops.size→listed.getD i false=true→listed.getD j false=true→KK K rec fn ops st0 i=2→KK K rec fn ops st0 j=2→e≤i→e≤j→pd i=pd j→i=j
 nt:a.tmps.size=st0.nt
 low:base≤w.heap.size
 defs:pB base w S μ a.defers
 round: ∀l,r=some l→ ∃q:Loop,w.heap[l]? =some (.loop q)
 ev:Ev (st0.h.length-1) w0 S0 μ0 w S μ
end
section
variable {K:Ctx} {rec:Rec} {fn:FuncId} {ops:Array Oper} {st0:bE} {base:Nat} {r:Option Nat} {w0:World} {S0:Nat→Prop} {μ0:Mu}
variable {listed:Array Bool} {a:Act} {w w':World} {S S':Nat→Prop} {μ μ':Mu} {e:Nat} {pd:Nat→Nat}
theorem ji.step (h : ji K rec fn ops st0 base r w0 S0 μ0 listed a w S μ e pd) (hlt : ∀ b, S b → b < w.heap.size) (he : Ev (st0.h.length - 1) w S μ w' S' μ') :
    ji K rec fn ops st0 base r w0 S0 μ0 listed a w' S' μ' e pd :=
  { h with
    v1 := fun j o d h1 h2 h3 h4 => he.val hlt (Nat.le_refl _) (h.v1 j o d h1 h2 h3 h4)
    v0 := fun t ht => he.val hlt (Nat.le_refl _) (h.v0 t ht)
    pa := fun j o d h1 h2 h3 h4 h5 => (h.pa j o d h1 h2 h3 h4 h5).ev he
    low := Nat.le_trans h.low he.size
    defs := h.defs.ev he
    round := lK h.round he
    ev := h.ev.trans he }
theorem ji.Ud (h : ji K rec fn ops st0 base r w0 S0 μ0 listed a w S μ e pd) {i : Nat} (hi : listed.getD i false = false) (b : Nat) :
    ji K rec fn ops st0 base r w0 S0 μ0 listed a w S μ e (fun j => if j = i then b else pd j) :=
  { h with
    pa := fun j o d h1 h2 h3 h4 h5 => by
      have : j ≠ i := fun e => by rw [e, hi] at h3; cases h3
      simp only [if_neg this]
      exact h.pa j o d h1 h2 h3 h4 h5
    AZ := fun j k hj hk h1 h2 h3 h4 h5 h6 h7 => by
      have n1 : j ≠ i := fun e => by rw [e, hi] at h1; cases h1
      have n2 : k ≠ i := fun e => by rw [e, hi] at h2; cases h2
      simp only [if_neg n1, if_neg n2] at h7
      exact h.AZ j k hj hk h1 h2 h3 h4 h5 h6 h7 }
theorem toList_get {j:Nat}{o:Oper}:ops.toList[j]? =some o↔ops[j]? =some o:=by rw [Array.getElem?_toList]
theorem jV {i:Nat}(h:i∈Region.ready .any ops listed)(hsz:listed.size=ops.size):listed.getD i false=false∧i<ops.size∧ ∃o,ops.toList[i]? =some o∧ops[i]? =some o∧ ∀e∈o.after,Region.binds .any e=true→listed.getD e.on false=true:=by
 obtain⟨h1,o,h2,h3⟩:=mem_ready.1 h;have hi:i<ops.size:=(Array.getElem?_eq_some_iff.1 h2).1;refine⟨?_,hi,o,toList_get.2 h2,h2,h3⟩;rw [Array.getD_eq_getD_getElem?]at h1⊢;rw [Array.getElem?_eq_getElem (by omega)]at h1⊢;exact h1
theorem ji.put (D:rV K fn ops.toList (Region.before ops)) (h:ji K rec fn ops st0 base r w0 S0 μ0 listed a w S μ e pd) {i e':Nat} {o:Oper} (hi:i∈Region.ready .any ops listed) (ho:ops.toList[i]? =some o)
  (hd: ∀d,o.dst=some d→d<st0.nt) (u:Value) (hu:KK K rec fn ops st0 i≠2→ax w S μ (st0.h.length-1) u (VV K rec fn ops st0 i))
  (ha:KK K rec fn ops st0 i=2→CK w0 w S μ K.P o u (pd i)∧ ∀j,j<ops.size→listed.getD j false=true→KK K rec fn ops st0 j=2→e≤j→pd j≠pd i)
  (he:(KK K rec fn ops st0 i≠3∧e'=e)∨(KK K rec fn ops st0 i=3∧e=i∧e'=i+1)):
  ji K rec fn ops st0 base r w0 S0 μ0 (listed.setIfInBounds i true) (a.put o.dst u) w S μ e' pd:=by
 obtain⟨hl,hin,o',ho',_,haft⟩:=jV hi h.sz;rw [ho]at ho';cases ho';have hset: ∀j,(listed.setIfInBounds i true).getD j false=true↔j=i∨listed.getD j false=true:=fun j=>rU (by rw [h.sz];exact hin);have hpast: ∀j d (oj:Oper),ops.toList[j]? =some oj→oj.dst=some d→j≠i→(a.put o.dst u).tmps.getD d undef=a.tmps.getD d undef:=fun j d oj hj hdj hne=>by
  cases hod:o.dst with
  |none=>rfl
  |some d'=>
   have:d≠d':=fun e=>hne (Gz D.nodup hj ho hdj (by rw [hod,e]));rw [gU a d' u d (by rw [h.nt];exact hd d' hod),if_neg this]
 have hee:e≤e':=by rcases he with ⟨_,h'⟩|⟨_,h1,h2⟩<;>omega
 have hlow:KK K rec fn ops st0 i=2→e≤i:=fun h2=>by
  rcases Nat.lt_or_ge i e with h'|h'
  ·have:=h.al i h' h2;rw [hl]at this;cases this
  ·exact h'
 refine⟨by rw [Array.size_setIfInBounds];exact h.sz,fun j oj hj hlj ed hed hb=> ?_, ?_,fun j hj h3=> ?_,fun j hj h2=> ?_,fun j oj d hj hdj hlj h2=> ?_,fun t ht=> ?_,fun j oj d hj hdj hlj h2 hle=> ?_,
  fun j k hj hk hlj hlk h2 h2' hle hle' heq=> ?_, ?_,h.low, ?_,h.round,h.ev⟩
 ·refine(hset _).2 (.inr ?_);rcases(hset j).1 hlj with rfl|hlj
  ·have:=toList_get.2 hj;rw [ho]at this;cases this;exact haft ed hed hb
  ·exact h.OX j oj hj hlj ed hed hb
 ·have:=h.le;rcases he with ⟨_,h'⟩|⟨_,h1,h2⟩<;>omega
 ·rw [hset j];rcases he with ⟨h4,h5⟩|⟨h4,h5,h6⟩
  ·have:j≠i:=fun e=>h4 (e▸h3);rw [h5,←h.ww j hj h3];simp [this]
  ·rw [h.ww j hj h3];omega
 ·refine(hset j).2 ?_;by_cases e1:j=i
  ·exact .inl e1
  ·refine .inr (h.al j ?_ h2);rcases he with ⟨_,h'⟩|⟨_,h1,h2⟩<;>omega
 ·by_cases e1:j=i
  ·subst e1;rw [ho]at hj;cases hj;rw [hdj,gU a d u d (by rw [h.nt];exact hd d hdj),if_pos rfl];refine hu fun h2'=> ?_;have:=h2 h2';have:=hlow h2';rcases he with ⟨h4,h5⟩|⟨h4,h5,h6⟩
   ·omega
   ·rw [h2']at h4;cases h4
  ·rw [hpast j d oj hj hdj e1];refine h.v1 j oj d hj hdj (((hset j).1 hlj).resolve_left e1) fun h2'=> ?_;have:=h2 h2';rcases he with ⟨_,h'⟩|⟨_,h1,h2⟩<;>omega
 ·have hne:o.dst≠some t:=ht i o ho ((hset i).2 (.inl rfl));have:(a.put o.dst u).tmps.getD t undef=a.tmps.getD t undef:=by
   cases hod:o.dst with
   |none=>rfl
   |some d'=>
    have:t≠d':=fun e=>hne (by rw [hod,e]);rw [gU a d' u t (by rw [h.nt];exact hd d' hod),if_neg this]
  rw [this];exact h.v0 t fun j oj hj hlj=>ht j oj hj ((hset j).2 (.inr hlj))
 ·by_cases e1:j=i
  ·subst e1;rw [ho]at hj;cases hj;rw [hdj,gU a d u d (by rw [h.nt];exact hd d hdj),if_pos rfl];exact(ha h2).1
  ·rw [hpast j d oj hj hdj e1];exact h.pa j oj d hj hdj (((hset j).1 hlj).resolve_left e1) h2 (by omega)
 ·by_cases e1:j=i
  ·subst e1;by_cases e2:k=j
   ·exact e2.symm
   ·exact absurd heq.symm ((ha h2).2 k hk (((hset k).1 hlk).resolve_left e2) h2' (by omega))
  ·by_cases e2:k=i
   ·subst e2;exact absurd heq ((ha h2').2 j hj (((hset j).1 hlj).resolve_left e1) h2 (by omega))
   ·exact h.AZ j k hj hk (((hset j).1 hlj).resolve_left e1) (((hset k).1 hlk).resolve_left e2) h2 h2' (by omega) (by omega) heq
 ·cases hod:o.dst with
  |none=>exact h.nt
  |some d=>simpa [Act.put]using h.nt
 ·have:(a.put o.dst u).defers=a.defers:=by cases o.dst<;>rfl
  rw [this];exact h.defs
theorem eC {nt j:Nat}{o:Oper}(ho:ops.toList[j]? =some o)(h:jb K rec fn ops.toList (Region.before ops) st0 nt j o):
  (KK K rec fn ops st0 j=0∧cR ops.toList (TT K rec fn ops st0 j).s o=some false∧VV K rec fn ops st0 j=jG∧(TT K rec fn ops st0 (j+1)).f=(TT K rec fn ops st0 j).f∧(TT K rec fn ops st0 (j+1)).b=(TT K rec fn ops st0 j).b)∨
  (KK K rec fn ops st0 j=1∧cR ops.toList (TT K rec fn ops st0 j).s o=some true∧bN K fn o=true∧(∃Hx,dw K fn o (TT K rec fn ops st0 j).s (TT K rec fn ops st0 j).b=some (VV K rec fn ops st0 j,Hx))∧
   (TT K rec fn ops st0 (j+1)).f=(TT K rec fn ops st0 j).f∧(TT K rec fn ops st0 (j+1)).b=(TT K rec fn ops st0 j).b)∨
  (KK K rec fn ops st0 j=2∧cR ops.toList (TT K rec fn ops st0 j).s o=some true∧bN K fn o=false∧b7 o=true∧cf K rec fn o (TT K rec fn ops st0 j).s (TT K rec fn ops st0 j).f=some (VV K rec fn ops st0 j,(TT K rec fn ops st0 (j+1)).f)∧
   (TT K rec fn ops st0 (j+1)).b=(TT K rec fn ops st0 j).b)∨
  (KK K rec fn ops st0 j=3∧cR ops.toList (TT K rec fn ops st0 j).s o=some true∧bN K fn o=false∧b7 o=false∧cf K rec fn o (TT K rec fn ops st0 j).s (TT K rec fn ops st0 j).f=some (VV K rec fn ops st0 j,(TT K rec fn ops st0 (j+1)).f)∧
   (TT K rec fn ops st0 (j+1)).b=(TT K rec fn ops st0 (j+1)).f):=by
 have hk:=h.kind;obtain⟨e1,-,-⟩:=uZ K rec fn ops.toList st0 ho hk;have eb:(TT K rec fn ops st0 (j+1)).b=if KK K rec fn ops st0 j=3 then (TT K rec fn ops st0 (j+1)).f else (TT K rec fn ops st0 j).b:=by
  show (dT K rec fn ops.toList st0 (j+1)).b=_
  rw [e1]
 unfold kU at hk;split at hk
 ·rename_i hw;simp only [Option.some.injEq,Prod.mk.injEq]at hk;obtain⟨k1,k2,k3⟩:=hk;refine .inl ⟨k1.symm,hw,k2.symm,k3.symm, ?_⟩;rw [eb,if_neg (by rw [show KK K rec fn ops st0 j=0 from k1.symm];omega)]
 ·rename_i hw;split at hk
  ·rename_i hp;split at hk
   ·rename_i v Hx hop;simp only [Option.some.injEq,Prod.mk.injEq]at hk;obtain⟨k1,k2,k3⟩:=hk;refine .inr (.inl ⟨k1.symm,hw,hp,⟨Hx,by rw [hop,k2]⟩,k3.symm, ?_⟩);rw [eb,if_neg (by rw [show KK K rec fn ops st0 j=1 from k1.symm];omega)]
   ·cases hk
  ·rename_i hp;split at hk
   ·rename_i v H hs;simp only [Option.some.injEq,Prod.mk.injEq]at hk;obtain⟨k1,k2,k3⟩:=hk;have hp':bN K fn o=false:=(by simpa using hp);by_cases ha:b7 o=true
    ·rw [if_pos ha]at k1;refine .inr (.inr (.inl ⟨k1.symm,hw,hp',ha,by rw [hs,k2,k3], ?_⟩));rw [eb,if_neg (by rw [show KK K rec fn ops st0 j=2 from k1.symm];omega)]
    ·rw [if_neg ha]at k1;refine .inr (.inr (.inr ⟨k1.symm,hw,hp',by simpa using ha,by rw [hs,k2,k3], ?_⟩));rw [eb,if_pos k1.symm]
   ·cases hk
 ·cases hk
theorem jW (ok : ∀ (j : Nat) (o : Oper), ops.toList[j]? = some o → jb K rec fn ops.toList (Region.before ops) st0 st0.nt j o) {e : Nat} : ∀ i, e ≤ i → i ≤ ops.size → (∀ x, e ≤ x → x < i → KK K rec fn ops st0 x ≠ 3) →
    (TT K rec fn ops st0 i).b = (TT K rec fn ops st0 e).b := by
  intro i
  induction i with
  | zero => intro h1 _ _; have : e = 0 := by omega
            rw [this]
  | succ i ih =>
    intro h1 h2 h3
    by_cases e1 : e = i + 1
    · rw [e1]
    · have ho : ops.toList[i]? = some ops[i] := by simp [show i < ops.size by omega]
      have h4 := h3 i (by omega) (by omega)
      rw [← ih (by omega) (by omega) fun x hx hx' => h3 x hx (by omega)]
      rcases eC ho (ok i _ ho) with h | h | h | h
      · exact h.2.2.2.2
      · exact h.2.2.2.2.2
      · exact h.2.2.2.2.2
      · exact absurd h.1 h4
theorem CM (p:Nat→Prop)(e:Nat): ∀i,e≤i→(∀x,e≤x→x<i→ ¬p x)∨ ∃x,e≤x∧x<i∧p x∧ ∀y,e≤y→y<x→ ¬p y:=by
 intro i
 induction i with
 |zero=>intro h;exact .inl fun x _ h=>by omega
 |succ i ih=>
  intro h;rcases Nat.lt_or_ge i e with h'|h'
  ·exact .inl fun x h1 h2=>by omega
  rcases ih h' with h1|⟨x,h1,h2,h3,h4⟩
  ·by_cases hp:p i
   ·exact .inr ⟨i,h',by omega,hp,h1⟩
   ·refine .inl fun x hx hx'=> ?_;by_cases e1:x=i
    ·rw [e1];exact hp
    ·exact h1 x hx (by omega)
  ·exact .inr ⟨x,h1,by omega,h3,h4⟩
theorem GD (p:Nat→Prop)(i:Nat): ∀e,(∀x,i≤x→x<e→ ¬p x)∨ ∃x,i≤x∧x<e∧p x∧ ∀y,x<y→y<e→ ¬p y:=by
 intro e
 induction e with
 |zero=>exact .inl fun x _ h=>by omega
 |succ e ih=>
  by_cases hp:i≤e∧p e
  ·exact .inr ⟨e,hp.1,by omega,hp.2,fun y h1 h2=>by omega⟩
  ·rcases ih with h|⟨x,h1,h2,h3,h4⟩
   ·refine .inl fun x h1 h2 hx=> ?_;by_cases e1:x=e
    ·subst e1;exact hp ⟨h1,hx⟩
    ·exact h x h1 (by omega) hx
   ·refine .inr ⟨x,h1,by omega,h3,fun y hy hy' hpy=> ?_⟩;by_cases e1:y=e
    ·subst e1;exact hp ⟨by omega,hpy⟩
    ·exact h4 y hy (by omega) hpy
theorem r6 {o:Oper}{s:aS}{v:GV}{H:ae}(h:sameAt K fn o s v H=true): ∃Hx,dw K fn o s H=some (v,Hx):=by
 unfold sameAt at h;split at h
 ·rename_i v' Hx hg;exact⟨Hx,by rw [hg,GV.beq_eq _ _ h]⟩
 ·cases h
theorem GF (ok: ∀(j:Nat) (o:Oper),ops.toList[j]? =some o→jb K rec fn ops.toList (Region.before ops) st0 st0.nt j o)
  (h:ji K rec fn ops st0 base r w0 S0 μ0 listed a w S μ e pd) {i:Nat} {o:Oper} (hi:i∈Region.ready .any ops listed) (ho:ops.toList[i]? =some o) (hk:KK K rec fn ops st0 i=1):
  bN K fn o=true∧dw K fn o (TT K rec fn ops st0 i).s (TT K rec fn ops st0 e).b=some (VV K rec fn ops st0 i,(TT K rec fn ops st0 e).b):=by
 obtain⟨hl,hin,o',ho',ho2,haft⟩:=jV hi h.sz;rw [ho]at ho';cases ho';have hbefore: ∀b,((Region.before ops).getD i 0).testBit b=true→listed.getD b false=true:=fun b hb=>gM h.OX i b hb fun o' ho' ed hed hbe=>by
  rw [ho2]at ho';cases ho';exact haft ed hed hbe
 have hs:=ok i o ho;obtain⟨hp,Hx,hg⟩:bN K fn o=true∧ ∃Hx,dw K fn o (TT K rec fn ops st0 i).s (TT K rec fn ops st0 i).b=some (VV K rec fn ops st0 i,Hx):=by
  rcases eC ho hs with h|h|h|h
  ·have:=h.1;omega
  ·exact⟨h.2.2.1,h.2.2.2.1⟩
  ·have:=h.1;omega
  ·have:=h.1;omega
 refine⟨hp, ?_⟩
 suffices hx: ∃Hx,dw K fn o (TT K rec fn ops st0 i).s (TT K rec fn ops st0 e).b=some (VV K rec fn ops st0 i,Hx)by
  obtain⟨Hy,hy⟩:=hx;rw [wQ K hp hy]at hy;exact hy
 cases hR:AX o with
 |false=>exact⟨_,yu K hp hR hg⟩
 |true=>
  rcases Nat.lt_or_ge i e with hie|hie
  ·rcases GD (fun x=>KK K rec fn ops st0 x=3) (i+1) e with h1|⟨x,h1,h2,h3,h4⟩
   ·have e1:=jW ok (e:=i+1) e (by omega) h.le h1;have e2:(TT K rec fn ops st0 (i+1)).b=(TT K rec fn ops st0 i).b:=jW ok (i+1) (by omega) (by omega) fun x hx hx' h3=>by
     have:x=i:=(by omega);rw [this]at h3;omega
    rw [e1,e2];exact⟨_,hg⟩
   ·have hle:=h.le;have hox:ops.toList[x]? =some ops[x]:=by simp [show x<ops.size by omega]
    have e1:=jW ok (e:=x+1) e (by omega) h.le fun y hy hy'=>h4 y (by omega) hy';have e2:(TT K rec fn ops st0 (x+1)).b=(TT K rec fn ops st0 (x+1)).f:=by
     rcases eC hox (ok x _ hox)with h|h|h|h
     ·have:=h.1;omega
     ·have:=h.1;omega
     ·have:=h.1;omega
     ·exact h.2.2.2.2.2
    rw [e1,e2];rcases(ok x _ hox).wr h3 i (by omega) hk o ho hR with h5|h5
    ·exfalso;have hlx:=(h.ww x (by omega) h3).2 h2;have:=mJ h.OX hlx h5;rw [hl]at this;cases this
    ·exact r6 h5
  ·rcases CM (fun x=>KK K rec fn ops st0 x=3) e i hie with h1|⟨x,h1,h2,h3,h4⟩
   ·rw [←jW ok i hie (by omega) h1];exact⟨_,hg⟩
   ·rw [←jW ok x h1 (by omega) h4];rcases hs.rw hk hR x h2 h3 with h5|h5
    ·exfalso;have:=(h.ww x (by omega) h3).1 (hbefore x h5);omega
    ·exact r6 h5
theorem u4 (D:rV K fn ops.toList (Region.before ops)) (ok: ∀(j:Nat) (o:Oper),ops.toList[j]? =some o→jb K rec fn ops.toList (Region.before ops) st0 st0.nt j o)
  (h:ji K rec fn ops st0 base r w0 S0 μ0 listed a w S μ e pd) {i:Nat} {o:Oper} (hi:i∈Region.ready .any ops listed) (ho:ops.toList[i]? =some o) {t:Nat}
  (ht:t∈gy K fn o∨t∈jS ops.toList o) (hal: ∀(j:Nat) (oj:Oper),ops.toList[j]? =some oj→oj.dst=some t→KK K rec fn ops st0 j=2→j<i→j<e):
  ax w S μ (st0.h.length-1) (a.tmps.getD t undef) (look (TT K rec fn ops st0 i).s t):=by
 obtain⟨hl,hin,o',ho',ho2,haft⟩:=jV hi h.sz;rw [ho]at ho';cases ho';have hbefore: ∀b,((Region.before ops).getD i 0).testBit b=true→listed.getD b false=true:=fun b hb=>gM h.OX i b hb fun o' ho' ed hed hbe=>by
  rw [ho2]at ho';cases ho';exact haft ed hed hbe
 rcases zz K rec fn ops.toList (Region.before ops) st0 st0.nt ok D.nodup i t (by simp;omega)with ⟨j,oj,h1,h2,h3,h4⟩|⟨h1,h2⟩
 ·show ax w S μ _ _ (look (dT K rec fn ops.toList st0 i).s t)
  rw [h4];rcases D.dep j i oj o t h2 ho h3 ht with h5|⟨h5,h6⟩|⟨h5,h6⟩
  ·omega
  ·exact h.v1 j oj t h2 h3 (hbefore j h6) fun hk=>hal j oj h2 h3 hk h1
  ·omega
 ·show ax w S μ _ _ (look (dT K rec fn ops.toList st0 i).s t)
  rw [h2];refine h.v0 t fun j oj hj hlj hdj=> ?_;rcases Nat.lt_or_ge j i with h3|h3
  ·exact h1 j oj h3 hj hdj
  ·rcases D.dep j i oj o t hj ho hdj ht with h5|⟨h5,h6⟩|⟨h5,h6⟩
   ·subst h5;rw [hl]at hlj;cases hlj
   ·omega
   ·have:=mJ h.OX hlj h6;rw [hl]at this;cases this
theorem A0 (ok: ∀(j:Nat) (o:Oper),ops.toList[j]? =some o→jb K rec fn ops.toList (Region.before ops) st0 st0.nt j o)
  (h:ji K rec fn ops st0 base r w0 S0 μ0 listed a w S μ e pd) (hH:aN w S μ (TT K rec fn ops st0 e).f) (hlen:(TT K rec fn ops st0 e).f.length=st0.h.length) (hpos:0<st0.h.length) (he:e<ops.size)
  (h3:KK K rec fn ops st0 e≠3) (h2:KK K rec fn ops st0 e=2→listed.getD e false=true):
  ∃μ',ji K rec fn ops st0 base r w0 S0 μ0 listed a w S μ' (e+1) pd∧aN w S μ' (TT K rec fn ops st0 (e+1)).f∧(TT K rec fn ops st0 (e+1)).f.length=st0.h.length:=by
 have ho:ops.toList[e]? =some ops[e]:=by simp [he]
 have go: ∀μ',(KK K rec fn ops st0 e=2→ ∀d,ops[e].dst=some d→ax w S μ' (st0.h.length-1) (a.tmps.getD d undef) (VV K rec fn ops st0 e))→
   (∀n t b,μ n t=some b→μ' n t=some b)→(∀j,e<j→j<ops.size→listed.getD j false=true→KK K rec fn ops st0 j=2→ ∀nm t,μ' nm t≠some (pd j))→
   pB base w S μ' a.defers→Ev (st0.h.length-1) w0 S0 μ0 w S μ'→ji K rec fn ops st0 base r w0 S0 μ0 listed a w S μ' (e+1) pd:=by
  intro μ' hv hm hpd hdef hev;have hmono: ∀{v:Value} {g:GV},ax w S μ (st0.h.length-1) v g→ax w S μ' (st0.h.length-1) v g:=fun hv=>hv.mono (fun _ h=>h) (fun _ _=>rfl) (fun _ _ h=>h) (fun n t b _ h=>hm n t b h) (Nat.le_refl _)
  refine {h with
   le:=he
   ww:=fun j hj hj3=>by
    rw [h.ww j hj hj3];have:j≠e:=fun e1=>h3 (e1▸hj3);omega
   al:=fun j hj hj2=>by
    by_cases e1:j=e
    ·rw [e1];exact h2 (e1▸hj2)
    ·exact h.al j (by omega) hj2
   v1:=fun j o d hj hd hl hk=>by
    by_cases e1:j=e∧KK K rec fn ops st0 j=2
    ·obtain⟨e1,e2⟩:=e1;subst e1;rw [ho]at hj;cases hj;exact hv e2 d hd
    ·refine hmono (h.v1 j o d hj hd hl fun hk'=> ?_);have:=hk hk';have:j≠e:=fun e2=>e1 ⟨e2,hk'⟩;omega
   v0:=fun t ht=>hmono (h.v0 t ht)
   pa:=fun j o d hj hd hl hk hle=>by
    obtain⟨p1,p2,p3,p4,p5,p6⟩:=h.pa j o d hj hd hl hk (by omega);have hjs:j<ops.size:=(by have:=(List.getElem?_eq_some_iff.1 hj).1;simpa using this);exact⟨p1,p2,p3,p4,hpd j (by omega) hjs hl hk,p6⟩
   AZ:=fun i j hi hj hli hlj hki hkj hei hej=>h.AZ i j hi hj hli hlj hki hkj (by omega) (by omega)
   defs:=hdef
   ev:=hev}
 rcases eC ho (ok e _ ho)with q|q|q|q
 ·refine⟨μ,go μ (fun h=>by have:=q.1;omega) (fun _ _ _ h=>h) (fun j h1 h2 h3 h4=> ?_) h.defs h.ev,by rw [q.2.2.2.1];exact hH,by rw [q.2.2.2.1];exact hlen⟩;have hoj:ops.toList[j]? =some ops[j]:=(by simp [h2]);obtain⟨d,t,hd,_⟩: ∃d t,ops[j].dst=some d∧ops[j].op= .alloc t:=by
   rcases eC hoj (ok j _ hoj)with q|q|q|q
   ·have:=q.1;omega
   ·have:=q.1;omega
   ·obtain⟨d,t,h1,h2,_⟩:=fV q.2.2.2.1;exact⟨d,t,h1,h2⟩
   ·have:=q.1;omega
  exact(h.pa j _ d hoj hd h3 h4 (by omega)).2.2.2.2.1
 ·refine⟨μ,go μ (fun h=>by have:=q.1;omega) (fun _ _ _ h=>h) (fun j h1 h2 h3 h4=> ?_) h.defs h.ev,by rw [q.2.2.2.2.1];exact hH,by rw [q.2.2.2.2.1];exact hlen⟩;have hoj:ops.toList[j]? =some ops[j]:=(by simp [h2]);obtain⟨d,t,hd,_⟩: ∃d t,ops[j].dst=some d∧ops[j].op= .alloc t:=by
   rcases eC hoj (ok j _ hoj)with q|q|q|q
   ·have:=q.1;omega
   ·have:=q.1;omega
   ·obtain⟨d,t,h1,h2,_⟩:=fV q.2.2.2.1;exact⟨d,t,h1,h2⟩
   ·have:=q.1;omega
  exact(h.pa j _ d hoj hd h3 h4 (by omega)).2.2.2.2.1
 ·obtain⟨q1,q2,q3,q4,q5,q6⟩:=q;obtain⟨d,ty,hd,hop,_⟩:=fV q4;obtain⟨p1,p2,p3,p4,p5,ty',v,cs,p6,p7,p8,p9⟩:=h.pa e _ d ho hd (h2 q1) q1 (Nat.le_refl _);have hgo:eP ops[e]=none:=(by unfold eP;rw [hop]);unfold cf at q5;rw [hgo]at q5;simp only at q5;have hty:ty=ty':=(by rw [hop]at p6;cases p6;rfl);subst hty;unfold dw at q5;rw [hop]at q5;simp only [hd,p7,p8]at q5
  cases hnew:fK (TT K rec fn ops st0 e).f d (.box cs)with
  |none=>rw [hnew]at q5;cases q5
  |some x=>
   obtain⟨nm,H1⟩:=x;rw [hnew]at q5;simp only [Option.some.injEq,Prod.mk.injEq]at q5;obtain⟨q5,q7⟩:=q5;obtain⟨rfl,g2,g3,rfl⟩:=gT hnew;have hno: ∀t c,μ ((TT K rec fn ops st0 e).f.length-1,d) t≠some c:=fun t c hc=>by
    obtain⟨y,hy⟩:=hH.je _ _ _ hc;rw [g3]at hy;cases hy
   have hA:=hH.wN g3 g2 (b:=pd e) p3 p5 (x:= .box cs) ⟨pd e,v.cells,ty,Mu.bc _ _ _ _,p4,p9,(dL (dF v) p8)⟩;refine⟨_,go _ (fun _ d' hd'=> ?_) (fun n t b hb=>zr hH g3 _ _ n t b hb) (fun j h1 h2' h3' h4' nm t hm=> ?_) ⟨fun dd hdd=> ?_,h.defs.apart⟩ (h.ev.wN hno p2),by rw [←q7];exact hA,by rw [←q7,ae.length_set];exact hlen⟩
   ·rw [hd]at hd';cases hd';rw [p1,←q5];exact .aA _ _ _ (by simp only [hlen];omega) (Mu.bc _ _ _ _)
   ·have hoj:ops.toList[j]? =some ops[j]:=(by simp [h2']);obtain⟨dj,_,hdj,_⟩: ∃d t,ops[j].dst=some d∧ops[j].op= .alloc t:=by
     rcases eC hoj (ok j _ hoj)with q|q|q|q
     ·have:=q.1;omega
     ·have:=q.1;omega
     ·obtain⟨d,t,h1,h2,_⟩:=fV q.2.2.2.1;exact⟨d,t,h1,h2⟩
     ·have:=q.1;omega
    have hP:=h.pa j _ dj hoj hdj h3' h4' (by omega);by_cases en:nm=((TT K rec fn ops st0 e).f.length-1,d)
    ·subst en;by_cases et:t=0
     ·subst et;rw [Mu.bc]at hm;have:pd e=pd j:=(by simpa using hm);have:=h.AZ e j he h2' (h2 q1) h3' q1 h4' (Nat.le_refl _) (by omega) this;omega
     ·rw [Mu.bX _ _ _ et]at hm;exact hno _ _ hm
    ·rw [Mu.cB _ _ _ _ en]at hm;exact hP.2.2.2.2.1 _ _ hm
   ·obtain⟨q,k1,k2,k3,k4,k5⟩:=h.defs.each dd hdd;refine⟨q,k1,k2,k3,k4,fun nm t hm=> ?_⟩;by_cases en:nm=((TT K rec fn ops st0 e).f.length-1,d)
    ·subst en;by_cases et:t=0
     ·subst et;rw [Mu.bc]at hm;have:pd e=q:=(by simpa using hm);rw [this,k3]at p9;cases p9
     ·rw [Mu.bX _ _ _ et]at hm;exact hno _ _ hm
    ·rw [Mu.cB _ _ _ _ en]at hm;exact k5 _ _ hm
 ·exact absurd q.1 h3
theorem tU (ok : ∀ (j : Nat) (o : Oper), ops.toList[j]? = some o → jb K rec fn ops.toList (Region.before ops) st0 st0.nt j o) (hpos : 0 < st0.h.length) : ∀ (n i e : Nat) (μ : Mu), i - e = n → e ≤ i → i ≤ ops.size →
    ji K rec fn ops st0 base r w0 S0 μ0 listed a w S μ e pd → aN w S μ (TT K rec fn ops st0 e).f → (TT K rec fn ops st0 e).f.length = st0.h.length →
    (∀ x, e ≤ x → x < i → KK K rec fn ops st0 x ≠ 3 ∧ (KK K rec fn ops st0 x = 2 → listed.getD x false = true)) →
    ∃ μ', ji K rec fn ops st0 base r w0 S0 μ0 listed a w S μ' i pd ∧ aN w S μ' (TT K rec fn ops st0 i).f ∧ (TT K rec fn ops st0 i).f.length = st0.h.length := by
  intro n
  induction n with
  | zero => intro i e μ h1 h2 h3 h hH hl _
            have : e = i := by omega
            subst this; exact ⟨μ, h, hH, hl⟩
  | succ n ih =>
    intro i e μ h1 h2 h3 h hH hl hx
    obtain ⟨g1, g2⟩ := hx e (Nat.le_refl _) (by omega)
    obtain ⟨μ1, k1, k2, k3⟩ := A0 ok h hH hl hpos (by omega) g1 g2
    exact ih i (e + 1) μ1 (by omega) (by omega) h3 k1 k2 k3 fun x hx1 hx2 => hx x (by omega) hx2
end
end
section
section
variable {K:Ctx} {rec:Rec} {fn:FuncId} {ops:Array Oper} {st0:bE} {base:Nat} {r:Option Nat} {w0:World} {S0:Nat→Prop} {μ0:Mu}
variable {listed:Array Bool} {a:Act} {w w':World} {S S':Nat→Prop} {μ μ':Mu} {e:Nat} {pd:Nat→Nat}
theorem A3 {P:Program}{o:Oper}{ty:TypeId}{v:Value}(hop:o.op= .alloc ty)(hz:b8 P ty=some (ofConst v))(w:World):
  ∃v',(execOp a.eval o).run P w= .ok (.value (.pointer (some ⟨w.heap.size,0,none⟩))) (w.alloc (.cells v'.cells ty))∧b8 P ty=some (ofConst v'):=by
 obtain⟨v',h1,h2⟩:=lG (P:=P) w hz;refine⟨v', ?_,by rw [hz,h2]⟩;obtain⟨dst,op,type,pos,after,guard⟩:=o;simp only at hop;subst hop;simp [execOp,Instr.alloc,h1,newVar,newRow]
theorem w7 {s:aS}{H H':ae}{v:GV}{o:Oper}(ha:b7 o=true)(h:cf K rec fn o s H=some (v,H')):
  ∃d ty z cs,o.dst=some d∧o.op= .alloc ty∧o.guard=none∧b8 K.P ty=some (ofConst z)∧bm (ofConst z)=some cs:=by
 obtain⟨d,ty,h1,h2,h3⟩:=fV ha;have hgo:eP o=none:=(by unfold eP;rw [h2]);unfold cf at h;rw [hgo]at h;simp only at h;unfold dw at h;rw [h2]at h;simp only [h1]at h
 cases hz:b8 K.P ty with
 |none=>rw [hz]at h;cases h
 |some z=>
  have hz': ∃zv,z=ofConst zv:=by
   unfold b8 at hz;split at hz
   ·split at hz
    ·rename_i zv _;exact⟨zv,by simpa using hz.symm⟩
    ·cases hz
   ·cases hz
  obtain⟨zv,rfl⟩:=hz';rw [hz]at h;simp only at h
  cases hc:bm (ofConst zv)with
  |none=>rw [hc]at h;cases h
  |some cs=>exact⟨d,ty,zv,cs,h1,h2,h3,hz,hc⟩
theorem qC {i:Nat} {o:Oper} {Kn:Act→World→Prop} {Q:Exit→Act→World→Prop} {P:Program} (ho:ops[i]? =some o) {b:Bool} (hw:Region.wanted o (yielded ops a.tmps)=b)
  (h:if b then o.wpIn (Fw r) 0 P a w Kn Q else Kn (a.put o.dst undef) w):wpOpIn (Fw r) 0 P ops Q i Kn a w:=by
 unfold wpOpIn;simp only [ho,hw]
 cases b with
 |true=>simpa using h
 |false=>simp only [Bool.false_eq_true,if_false]at h⊢;exact⟨fun _ _=>trivial,h⟩
theorem w8 (D:rV K fn ops.toList (Region.before ops)) (ok: ∀(j:Nat) (o:Oper),ops.toList[j]? =some o→jb K rec fn ops.toList (Region.before ops) st0 st0.nt j o) (hpos:0<st0.h.length)
  (h:ji K rec fn ops st0 base r w0 S0 μ0 listed a w S μ e pd) (hH:aN w S μ (TT K rec fn ops st0 e).f) (hlen:(TT K rec fn ops st0 e).f.length=st0.h.length) (hall: ∀j,j<ops.size→listed.getD j false=true)
  {st':bE} (h1:st'.s=(TT K rec fn ops st0 ops.size).s) (h2:st'.h=(TT K rec fn ops st0 ops.size).f) (h3:st'.nt=st0.nt):jg base r st0 w0 S0 μ0 .normal st' .normal a w:=by
 obtain⟨μ',k1,k2,k3⟩:=tU ok hpos _ ops.size e μ rfl h.le (Nat.le_refl _) h hH hlen fun x hx hx2=>by
  refine⟨fun h4=> ?_,fun _=>hall x hx2⟩;have:=(h.ww x hx2 h4).1 (hall x hx2);omega
 refine⟨rfl,by rw [h2,k3],h3,S,μ',⟨by rw [h2];exact k2,fun t=> ?_,by rw [h3];exact k1.nt,by rw [h2,k3];exact hpos,k1.low,k1.defs,k1.round⟩,k1.ev.level (by omega)⟩;rw [h2,k3,h1];rcases zz K rec fn ops.toList (Region.before ops) st0 st0.nt ok D.nodup ops.size t (by simp)with ⟨j,oj,q1,q2,q3,q4⟩|⟨q1,q2⟩
 ·show ax w S μ' _ _ (look (dT K rec fn ops.toList st0 ops.size).s t)
  rw [q4];exact k1.v1 j oj t q2 q3 (hall j q1) fun _=>q1
 ·show ax w S μ' _ _ (look (dT K rec fn ops.toList st0 ops.size).s t)
  rw [q2];refine k1.v0 t fun j oj hj hlj=>q1 j oj ?_ hj;have:=(List.getElem?_eq_some_iff.1 hj).1;simpa using this
theorem CN (hK:fE K) (hrec:jv K.P rec) (D:rV K fn ops.toList (Region.before ops)) (ok: ∀(j:Nat) (o:Oper),ops.toList[j]? =some o→jb K rec fn ops.toList (Region.before ops) st0 st0.nt j o) (hpos:0<st0.h.length)
  {st':bE} (z1:st'.s=(TT K rec fn ops st0 ops.size).s) (z2:st'.h=(TT K rec fn ops st0 ops.size).f) (z3:st'.nt=st0.nt):
  ∀(fuel:Nat) (listed:Array Bool) (a:Act) (w:World) (S:Nat→Prop) (μ:Mu) (e:Nat) (pd:Nat→Nat),jc listed ops.size≤fuel→ji K rec fn ops st0 base r w0 S0 μ0 listed a w S μ e pd→
   aN w S μ (TT K rec fn ops st0 e).f→(TT K rec fn ops st0 e).f.length=st0.h.length→(TT K rec fn ops st0 e).f=(TT K rec fn ops st0 e).b→
   wpAnyIn (Fw r) 0 K.P .any ops (jg base r st0 w0 S0 μ0 .normal st') fuel listed a w:=by
 intro fuel
 induction fuel with
 |zero=>
  intro listed a w S μ e pd hu h hH hlen hfb;have hall:=sP (Nat.le_zero.1 hu);refine⟨?_,w8 D ok hpos h hH hlen hall z1 z2 z3⟩
  cases hr:Region.ready .any ops listed with
  |nil=>rfl
  |cons i l=>
   obtain⟨g1,g2,_⟩:=jV (i:=i) (by rw [hr];exact List.mem_cons_self ..) h.sz;rw [hall i g2]at g1;cases g1
 |succ fuel ih=>
  intro listed a w S μ e pd hu h hH hlen hfb;refine⟨fun hr=>w8 D ok hpos h hH hlen (yx h.sz (fun j o hj=>D.back j o (toList_get.2 hj)) hr) z1 z2 z3,fun i hi=> ?_⟩;obtain⟨hl,hin,o,ho,ho2,haft⟩:=jV hi h.sz;have hbefore: ∀b,((Region.before ops).getD i 0).testBit b=true→listed.getD b false=true:=fun b hb=>gM h.OX i b hb fun o' ho' ed hed hbe=>by
   rw [ho2]at ho';cases ho';exact haft ed hed hbe
  have hs:=ok i o ho;have hul:=wT hin h.sz hl;have hguard: ∀b,cR ops.toList (TT K rec fn ops st0 i).s o=some b→Region.wanted o (yielded ops a.tmps)=b:=fun b hb=>by
   have h1: ∀t,t∈jS ops.toList o→ax w S μ (st0.h.length-1) (a.tmps.getD t undef) (look (TT K rec fn ops st0 i).s t):=fun t ht=>by
    refine u4 D ok h hi ho (.inr ht) fun j oj hj hd hk hji=> ?_;exfalso;have hja:b7 oj=true:=by
     rcases eC hj (ok j _ hj)with q|q|q|q
     ·have:=q.1;omega
     ·have:=q.1;omega
     ·exact q.2.2.2.1
     ·have:=q.1;omega
    exact D.T9 j i oj o t hj ho hd hja ht
   have h2:=rY (jS ops.toList o) h1;have h3:cR ops.toList (bu (TT K rec fn ops st0 i).s (jS ops.toList o)) o=some b:=by
    rw [←hb];exact sQ fun t ht=>fg _ t _ ht
   have:=oG h2 h3;simpa using this
  rcases eC ho hs with q|q|q|q
  ·
   refine qC ho2 (hguard false q.2.1) ?_;simp only [Bool.false_eq_true,if_false];have h':=ji.put D h hi ho hs.dst undef (e':=e) (fun _=>by rw [q.2.2.1];exact tn) (fun h2=>by have:=q.1;omega) (.inl ⟨by rw [q.1];omega,rfl⟩);exact ih _ _ w S μ e pd (by omega) h' hH hlen hfb
  ·
   refine qC ho2 (hguard true q.2.1) ?_;simp only [if_true];obtain⟨hp,hg⟩:=GF ok h hi ho q.1;rw [←hfb]at hg;have hslots:=rY (a:=a) (w:=w) (S:=S) (μ:=μ) (k:=st0.h.length-1) (s:=(TT K rec fn ops st0 i).s) (gy K fn o) fun t ht=>u4 D ok h hi ho (.inl ht) fun j oj hj hd hk hji=>by
    exfalso;have hja:b7 oj=true:=by
     rcases eC hj (ok j _ hj)with q|q|q|q
     ·have:=q.1;omega
     ·have:=q.1;omega
     ·exact q.2.2.2.1
     ·have:=q.1;omega
    have:=(D.Ua j i oj o t hj ho hd hja ht).1;rw [hp]at this;cases this
   have hgo:eP o=none:=by
    cases hgc:eP o with
    |none=>rfl
    |some x=>
     exfalso;obtain⟨dst,op,type,pos,after,guard⟩:=o;unfold eP at hgc;simp only at hgc;split at hgc
     ·unfold bN at hp;simp at hp
     ·cases hgc
   have hstep:cf K rec fn o (bu (TT K rec fn ops st0 i).s (gy K fn o)) (TT K rec fn ops st0 e).f=some (VV K rec fn ops st0 i,(TT K rec fn ops st0 e).f):=by
    rw [pP K (s':=(TT K rec fn ops st0 i).s) fun t ht=>fg _ t _ ht];unfold cf;rw [hgo];exact hg
   rw [←hlen]at hslots;refine qA K hK hrec hH (by rw [hlen];exact hpos) hslots hstep fun u w' S' μ' hv hh he hl'=> ?_;rw [hlen]at he hv;have h1:=h.step hH.slt he;have h':=ji.put D h1 hi ho hs.dst u (e':=e) (fun _=>hv) (fun h2=>by have:=q.1;omega) (.inl ⟨by rw [q.1];omega,rfl⟩);exact ih _ _ w' S' μ' e pd (by omega) h' hh hlen hfb
  ·
   obtain⟨q1,q2,q3,q4,q5,q6⟩:=q;refine qC ho2 (hguard true q2) ?_;simp only [if_true];obtain⟨d,ty,z,cs,hd,hop,hgu,hz,hc⟩:=w7 q4 q5;refine⟨fun _ _=>trivial, ?_⟩;rw [Oper.semAt_eq _ _ _ (fun c e=>by rw [hop]at e;cases e)];obtain⟨v',hrun,hz'⟩:=A3 (a:=a) (P:=K.P) hop hz w;rw [hrun,Oper.uponIn_value];obtain⟨s1,s2⟩:=hH.skip (st0.h.length-1) (.cells v'.cells ty);have h1:=(h.step hH.slt s2).Ud hl w.heap.size;have hc':bm (ofConst v')=some cs:=by
    rw [hz]at hz';simp only [Option.some.injEq]at hz';rw [←hz'];exact hc
   have h':=ji.put D h1 hi ho hs.dst (.pointer (some ⟨w.heap.size,0,none⟩)) (e':=e) (fun h2=>absurd q1 h2) (fun _=>⟨⟨by simp,by simp only [if_true];exact h.ev.size,by simp only [if_true];rw [bM];omega,
     by simp only [if_true];exact fun hs=>by have:=hH.slt _ hs;omega,by simp only [if_true];exact fun nm t hm=>by have:=hH.lt _ _ _ hm;omega,ty,v',cs,hop,hz',hc',by simp only [if_true];exact cu _ _⟩,
     fun j hj hlj hk hle=>by
      have hne:j≠i:=fun e1=>(by rw [e1,hl]at hlj;cases hlj);simp only [if_true,if_neg hne];have hoj:ops.toList[j]? =some ops[j]:=(by simp [hj]);obtain⟨dj,hdj⟩: ∃d,ops[j].dst=some d:=by
       rcases eC hoj (ok j _ hoj)with q|q|q|q
       ·have:=q.1;omega
       ·have:=q.1;omega
       ·obtain⟨d,t,h1,h2,_⟩:=fV q.2.2.2.1;exact⟨d,h1⟩
       ·have:=q.1;omega
      have:=(h.pa j _ dj hoj hdj hlj hk hle).2.2.1;omega⟩) (.inl ⟨by rw [q1];omega,rfl⟩)
   exact ih _ _ _ S μ e _ (by omega) h' s1 hlen hfb
  ·
   obtain⟨q1,q2,q3,q4,q5,q6⟩:=q;refine qC ho2 (hguard true q2) ?_;simp only [if_true];have hei:e≤i:=by
    rcases Nat.lt_or_ge i e with h'|h'
    ·have:=(h.ww i hin q1).2 h';rw [hl]at this;cases this
    ·exact h'
   obtain⟨μ1,k1,k2,k3⟩:=tU ok hpos _ i e μ rfl hei (by omega) h hH hlen fun x hx hx2=>by
    have hox:ops.toList[x]? =some ops[x]:=by simp [show x<ops.size by omega]
    refine⟨fun h3=> ?_,fun h2=> ?_⟩
    ·have:=(h.ww x (by omega) h3).1 (hbefore x (hs.ww q1 x hx2 h3));omega
    ·have hxa:b7 ops[x]=true:=by
      rcases eC hox (ok x _ hox)with q|q|q|q
      ·have:=q.1;omega
      ·have:=q.1;omega
      ·exact q.2.2.2.1
      ·have:=q.1;omega
     exact hbefore x (D.Ub x i _ o hox ho hxa q3 q4 hx2)
   have hslots:=rY (a:=a) (w:=w) (S:=S) (μ:=μ1) (k:=st0.h.length-1) (s:=(TT K rec fn ops st0 i).s) (gy K fn o) fun t ht=>u4 D ok k1 hi ho (.inl ht) fun j oj hj hd hk hji=>hji;have hstep:cf K rec fn o (bu (TT K rec fn ops st0 i).s (gy K fn o)) (TT K rec fn ops st0 i).f=some (VV K rec fn ops st0 i,(TT K rec fn ops st0 (i+1)).f):=by
    rw [pP K (s':=(TT K rec fn ops st0 i).s) fun t ht=>fg _ t _ ht];exact q5
   rw [←k3]at hslots;refine qA K hK hrec k2 (by rw [k3];exact hpos) hslots hstep fun u w' S' μ' hv hh he hl'=> ?_;rw [k3]at he;rw [hl',k3]at hv;have h1:=k1.step k2.slt he;have h':=ji.put D h1 hi ho hs.dst u (e':=i+1) (fun _=>hv) (fun h2=>by rw [q1]at h2;cases h2) (.inr ⟨q1,rfl,rfl⟩);exact ih _ _ w' S' μ' (i+1) pd (by omega) h' hh (by rw [hl',k3]) q6.symm
theorem aN.draw {H:ae}(h:aN w S μ H)(n:Nat):aN {w with drawn:=n} S μ H:=
 ⟨fun nm x hx t b hb=>eH.mono (w:=w) (w':={heap:=w.heap,tape:=w.tape,drawn:=n,os:=w.os,output:=w.output}) (S:=S) (S':=S) (μ:=μ) (μ':=μ) (fun _ h=>h) (fun _ _=>rfl) (fun _ _ h=>h) (fun _ _ _ _ h=>h) (fun _=>rfl) (fun _ _ _=>rfl) (fun _ _ _ h=>h) (h.fY nm x hx t b hb),h.je,h.fF,h.lt,h.slt⟩
theorem Ev.draw (ℓ n:Nat):Ev ℓ w S μ {w with drawn:=n} S μ:=
 ⟨rfl,rfl,rfl,Nat.le_refl _,fun _ h=>h,fun _ _ _=>rfl,fun _ _ h=>h,fun _ r h=>⟨r,h⟩,fun _ _ _ _ h=>h,fun nm t _ h _=>⟨nm,t,h⟩,fun _ h _=> .inl h⟩
end
theorem CO (K:Ctx)(hK:fE K):wO K:=by
 intro rec hrec fn id ops st e st' h base r w S μ a hst;simp only [cr]at h;split at h
 ·rename_i hd;split at h
  ·rename_i st1 ay;simp only [Option.some.injEq,Prod.mk.injEq]at h;obtain⟨rfl,rfl⟩:=h;have D:=wV K hd;obtain⟨g1,g2,g3,g4⟩:=wR K rec fn ops.toList (Region.before ops) st ops.toList 0 [] [] st.h st rfl rfl rfl rfl rfl (fun x h=>by omega) (fun q h=>by omega) ay;have hlen:ops.toList.length=ops.size:=(by simp);rw [hlen]at g2 g3;refine wpIn_region_any hK.mixed ?_;have hE:Ev (st.h.length-1) w S μ {w with drawn:=w.drawn+1} S μ:=Ev.draw _ _;have hfalse: ∀j,(Array.replicate ops.size false).getD j false=false:=fun j=>by
    rw [Array.getD_eq_getD_getElem?];by_cases hj:j<ops.size
    ·simp [hj]
    ·simp [hj]
   refine CN (base:=base) (r:=r) (w0:=w) (S0:=S) (μ0:=μ) hK hrec D (fun j o ho=>g1 j o (by omega) ho) hst.pos g2 g3 g4 ops.size (Array.replicate ops.size false) a
    {w with drawn:=w.drawn+1} S μ 0 (fun _=>0) ?_ ?_ ?_ ?_ ?_
   ·unfold jc;refine Nat.le_trans (List.length_filter_le _ _) (by simp)
   ·refine⟨by simp,fun j o _ hl=> ?_,Nat.zero_le _,fun j _ _=> ?_,fun j h=>by omega,fun j o d _ _ hl=> ?_,fun t _=> ?_,fun j o d _ _ hl=> ?_,fun i j _ _ hl=> ?_,hst.nt,hst.low,hst.defs.ev hE,lK hst.round hE,hE⟩
    ·rw [hfalse]at hl;cases hl
    ·rw [hfalse];simp
    ·rw [hfalse]at hl;cases hl
    ·exact hE.val hst.heap.slt (Nat.le_refl _) (hst.c8 t)
    ·rw [hfalse]at hl;cases hl
    ·rw [hfalse]at hl;cases hl
   ·exact hst.heap.draw _
   ·rfl
   ·rfl
  ·cases h
 ·cases h
theorem gY (K:Ctx)(hK:fE K)(n:Nat):jv K.P (cC K n):=CC K hK (CO K hK) n
end
section
section
variable (K:Ctx) {rec:Rec} {F:Nat→Rec}
def my {α:Type}(F:Nat→Rec)(X:Rec→Option α)(r:α):Prop:= ∃N,∀n,N≤n→X (F n)=some r
theorem my.const {α:Type}{x:Option α}{r:α}(h:x=some r):my F (fun _=>x) r:=⟨0,fun _ _=>h⟩
def Ue (rec:Rec)(F:Nat→Rec):Prop:= ∀fn c st r,rec fn c st=some r→my F (fun rec=>rec fn c st) r
variable (hF:Ue rec F)
include hF
theorem kH {f:FuncId}{args:List GV}{c:Nat}{H:ae}{r:GV×ae}(h:bG K rec f args c H=some r):my F (fun rec=>bG K rec f args c H) r:=by
 unfold bG at h;split at h
 ·cases h
 ·rename_i fn hfn;split at h
  ·cases h
  ·rename_i code hcode;split at h
   ·cases h
   ·rename_i hc
    cases hr:rec f code ⟨slotsOf 0 (args.map canon),[]::H,fn.ntmps⟩with
    |none=>rw [hr]at h;cases h
    |some x=>
     rw [hr]at h;obtain⟨N,hN⟩:=hF _ _ _ _ hr;refine⟨N,fun n hn=> ?_⟩;have:=hN n hn;simp only at this;simp only [bG,hfn,hcode,hc,if_false,this];exact h
theorem xa {f:FuncId}{args:List GV}{c:Nat}{H:ae}{r:GV×ae}(h:gL K rec f args c H=some r):my F (fun rec=>gL K rec f args c H) r:=by
 unfold gL at h;split at h
 ·cases h
 ·rename_i hn;split at h
  ·rename_i v H0 hg;obtain⟨N,hN⟩:=kH K hF hg;refine⟨N,fun n hn'=> ?_⟩;have:=hN n hn';simp only at this;simp only [gL,hn,this];exact h
  ·cases h
 ·rename_i nm hn;split at h
  ·rename_i cs hbx;split at h
   ·cases h
   ·rename_i hcs;split at h
    ·rename_i v H0 hg;obtain⟨N,hN⟩:=kH K hF hg;refine⟨N,fun n hn'=> ?_⟩;have:=hN n hn';simp only at this;simp only [gL,hn,hbx,hcs,if_false,this];exact h
    ·cases h
  ·cases h
theorem tV {f:FuncId}{args:List GV}{c:Nat}{H:ae}{r:GV×ae}(h:aK K rec f args c H=some r):my F (fun rec=>aK K rec f args c H) r:=by
 unfold aK at h⊢;split at h
 ·rename_i hc;simp only [hc,if_true];exact .const h
 ·rename_i hc;simp only [hc,if_false];split at h
  ·rename_i hb;simp only [hb,if_true];exact xa K hF h
  ·rename_i hb;simp only [hb,if_false];split at h
   ·rename_i hf;simp only [hf,if_true];exact kH K hF h
   ·rename_i hf;simp only [hf,if_false];exact kH K hF h
theorem yz {nm:Nm}{args:List GV}{H:ae}{r:GV×ae}(h:ground rec nm args H=some r):my F (fun rec=>ground rec nm args H) r:=by
 unfold ground at h;split at h
 ·rename_i l hl;split at h
  ·rename_i hs;split at h
   ·rename_i s hp;split at h
    ·rename_i st ha;obtain⟨N1,h1⟩:=hF _ _ _ _ ha;split at h
     ·rename_i fr H1 hst;split at h
      ·rename_i l1 hl1;split at h
       ·cases h
       ·rename_i hl1s
        cases hb:rec l.fn l.body ⟨st.s,fr::ae.set H1 nm (.loop {l1 with state:= .busy}),l.nt⟩with
        |none=>rw [hb]at h;cases h
        |some x=>
         rw [hb]at h;obtain⟨N2,h2⟩:=hF _ _ _ _ hb;refine⟨max N1 N2,fun n hn=> ?_⟩;have e1:=h1 n (by omega);have e2:=h2 n (by omega);simp only at e1 e2;simp only [ground,hl,hs,hp,e1,hst,hl1,hl1s,if_true,if_false,e2];exact h
      ·cases h
     ·cases h
    ·cases h
   ·cases h
  ·cases h
 ·cases h
theorem r7 {f:GV}{args:List GV}{c:Nat}{H:ae}{r:GV×ae}(h:j8 K rec f args c H=some r):my F (fun rec=>j8 K rec f args c H) r:=by
 unfold j8 at h;split at h
 ·exact tV K hF h
 ·exact tV K hF h
 ·cases h
theorem pQ {f:GV}{args:List GV}{c:Nat}{H:ae}{r:GV×ae}(h:cV K rec f args c H=some r):my F (fun rec=>cV K rec f args c H) r:=by
 unfold cV at h⊢;split at h
 ·exact yz hF h
 ·exact r7 K hF h
theorem tW {fn:FuncId}{o:Oper}{s:aS}{H:ae}{r:GV×ae}(h:cf K rec fn o s H=some r):my F (fun rec=>cf K rec fn o s H) r:=by
 unfold cf at h⊢;split at h
 ·rename_i f args hg
  cases hl:K.lift fn (o.dst.getD 0)with
  |none=>
   rw [hl]at h;simp only at h⊢;exact pQ K hF h
  |some t=>
   rw [hl]at h;simp only at h⊢;split at h
   ·rename_i x hx;obtain⟨N,hN⟩:=pQ K hF hx;refine⟨N,fun n hn=> ?_⟩;have:=hN n hn;simp only at this;simp only [this];exact h
   ·cases h
 ·exact .const h
theorem r8 {fn:FuncId}{all:List Oper}: ∀{ops:List Oper} {st st':bE},nb K rec fn all ops st=some st'→my F (fun rec=>nb K rec fn all ops st) st'
 | [],st,st',h=> .const h
 |o::r,st,st',h=>by
  simp only [nb]at h;split at h
  ·rename_i hw;split at h
   ·rename_i st1 hp;obtain⟨N,hN⟩:=r8 h;refine⟨N,fun n hn=> ?_⟩;simp only [nb,hw,hp];exact hN n hn
   ·cases h
  ·rename_i hw;split at h
   ·rename_i v H hs;obtain⟨N1,h1⟩:=tW K hF hs;split at h
    ·rename_i st1 hp;obtain⟨N,hN⟩:=r8 h;refine⟨max N1 N,fun n hn=> ?_⟩;have e1:=h1 n (by omega);simp only at e1;simp only [nb,hw,e1,hp];exact hN n (by omega)
    ·cases h
   ·cases h
  ·cases h
theorem iC {fn:FuncId}{all:List Oper}{pre:Array Nat}: ∀{ops:List Oper} {i:Nat} {wl:List (Nat×ae)} {rl:List yv} {hb:ae} {st st':bE},ff K rec fn all pre i ops wl rl hb st=some st'→
  my F (fun rec=>ff K rec fn all pre i ops wl rl hb st) st'
 | [],i,wl,rl,hb,st,st',h=> .const h
 |o::r,i,wl,rl,hb,st,st',h=>by
  simp only [ff]at h;split at h
  ·rename_i hw;split at h
   ·rename_i st1 hp;obtain⟨N,hN⟩:=iC h;refine⟨N,fun n hn=> ?_⟩;simp only [ff,hw,hp];exact hN n hn
   ·cases h
  ·rename_i hw;split at h
   ·rename_i hpure;split at h
    ·rename_i v Hx hop;split at h
     ·rename_i st1 hput;split at h
      ·rename_i hR;split at h
       ·rename_i hall;obtain⟨N,hN⟩:=iC h;refine⟨N,fun n hn=> ?_⟩;simp only [ff,hw,hpure,hop,hput,hR,hall,if_true];exact hN n hn
       ·cases h
      ·rename_i hR;obtain⟨N,hN⟩:=iC h;refine⟨N,fun n hn=> ?_⟩;simp only [ff,hw,hpure,hop,hput,hR,if_true,if_false,Bool.false_eq_true];exact hN n hn
     ·cases h
    ·cases h
   ·rename_i hpure;split at h
    ·rename_i v H hs;obtain⟨N1,h1⟩:=tW K hF hs;split at h
     ·rename_i st1 hput;split at h
      ·rename_i ha;obtain⟨N,hN⟩:=iC h;refine⟨max N1 N,fun n hn=> ?_⟩;have e1:=h1 n (by omega);simp only at e1;simp only [ff,hw,hpure,e1,hput,ha,if_true,if_false,Bool.false_eq_true];exact hN n (by omega)
      ·rename_i ha;split at h
       ·rename_i hall;obtain⟨N,hN⟩:=iC h;refine⟨max N1 N,fun n hn=> ?_⟩;have e1:=h1 n (by omega);simp only at e1;simp only [ff,hw,hpure,e1,hput,ha,hall,if_true,if_false,Bool.false_eq_true];exact hN n (by omega)
       ·cases h
     ·cases h
    ·cases h
  ·cases h
theorem oP {fn:FuncId}{c:Code}{st:bE}{r:GX×bE}(h:cr K rec fn c st=some r):my F (fun rec=>cr K rec fn c st) r:=by
 unfold cr at h;split at h
 ·exact .const h
 ·exact .const h
 ·rename_i id ops
  cases hg:nb K rec fn ops.toList ops.toList st with
  |none=>rw [hg]at h;cases h
  |some st1=>
   rw [hg]at h;obtain⟨N,hN⟩:=r8 K hF hg;refine⟨N,fun n hn=> ?_⟩;have:=hN n hn;simp only at this;simp only [cr,this];exact h
 ·rename_i id ops;split at h
  ·rename_i hd
   cases hg:ff K rec fn ops.toList (Region.before ops) 0 ops.toList [] [] st.h st with
   |none=>rw [hg]at h;cases h
   |some st1=>
    rw [hg]at h;obtain⟨N,hN⟩:=iC K hF hg;refine⟨N,fun n hn=> ?_⟩;have:=hN n hn;simp only at this;simp only [cr,hd,this,if_true];exact h
  ·cases h
 ·rename_i a b
  cases ha:rec fn a st with
  |none=>rw [ha]at h;cases h
  |some x=>
   obtain⟨e,st1⟩:=x;obtain⟨N1,h1⟩:=hF _ _ _ _ ha;rw [ha]at h
   cases e with
   |normal=>
    simp only at h;obtain⟨N2,h2⟩:=hF _ _ _ _ h;refine⟨max N1 N2,fun n hn=> ?_⟩;have e1:=h1 n (by omega);have e2:=h2 n (by omega);simp only at e1 e2;simp only [cr,e1,e2]
   |exit id=>exact⟨N1,fun n hn=>by have e1:=h1 n hn;simp only at e1;simp only [cr,e1];exact h⟩
   |ret=>exact⟨N1,fun n hn=>by have e1:=h1 n hn;simp only at e1;simp only [cr,e1];exact h⟩
 ·rename_i c x y;split at h
  ·rename_i b hb
   cases b with
   |true=>
    obtain⟨N,hN⟩:=hF _ _ _ _ (by simpa using h);exact⟨N,fun n hn=>by have:=hN n hn;simp only at this;simp only [cr,hb,if_true,this]⟩
   |false=>
    obtain⟨N,hN⟩:=hF _ _ _ _ (by simpa using h);exact⟨N,fun n hn=>by have:=hN n hn;simp only at this;simp only [cr,hb,Bool.false_eq_true,if_false,this]⟩
  ·cases h
 ·rename_i id c
  cases hc:rec fn c st with
  |none=>rw [hc]at h;cases h
  |some x=>
   obtain⟨N,hN⟩:=hF _ _ _ _ hc;rw [hc]at h;exact⟨N,fun n hn=>by have:=hN n hn;simp only at this;simp only [cr,this];exact h⟩
 ·rename_i c;simp only at h
  cases hc:rec fn c {st with s:=jQ ((K.ir fn (aL c)).map (·.1)) st.s,h:=[]::st.h}with
  |none=>rw [hc]at h;cases h
  |some x=>
   obtain⟨e,st1⟩:=x;obtain⟨N1,h1⟩:=hF _ _ _ _ hc;rw [hc]at h
   cases e with
   |normal=>
    simp only at h
    cases hs:tJ K fn c st1 with
    |none=>rw [hs]at h;cases h
    |some st2=>
     rw [hs]at h;simp only at h;obtain⟨N2,h2⟩:=hF _ _ _ _ h;refine⟨max N1 N2,fun n hn=> ?_⟩;have e1:=h1 n (by omega);have e2:=h2 n (by omega);simp only at e1 e2;simp only [cr,e1,hs,e2]
   |exit id=>exact⟨N1,fun n hn=>by have e1:=h1 n hn;simp only at e1;simp only [cr,e1];exact h⟩
   |ret=>exact⟨N1,fun n hn=>by have e1:=h1 n hn;simp only at e1;simp only [cr,e1];exact h⟩
 ·obtain⟨N,hN⟩:=hF _ _ _ _ h;exact⟨N,fun n hn=>by have:=hN n hn;simp only at this;simp only [cr,this]⟩
 ·exact .const h
 ·exact .const h
 ·rename_i f ps assign body;simp only at h;split at h
  ·rename_i nm H hn
   cases hg:j8 K rec (ev st.s f) [.yield nm] 0 H with
   |none=>rw [hg]at h;cases h
   |some x=>
    obtain⟨N,hN⟩:=r7 K hF hg;rw [hg]at h;refine⟨N,fun n hnn=> ?_⟩;have:=hN n hnn;simp only at this;simp only [cr,hn,this];exact h
  ·cases h
 ·cases h
end
section
variable (K:Ctx)
theorem kI: ∀m,Ue (cC K m) (cC K)
 |0=>fun fn c st r h=>by simp [cC]at h
 |m+1=>fun fn c st r h=>by
  obtain⟨N,hN⟩:=oP K (kI m) h;refine⟨N+1,fun n hn=> ?_⟩;obtain⟨k,rfl⟩: ∃k,n=k+1:=⟨n-1,by omega⟩;exact hN k (by omega)
open Classical in
noncomputable def aE:Rec:=fun fn c st=>if h: ∃r,my (cC K) (fun rec=>rec fn c st) r then some (Classical.choose h)else none
theorem iD {fn:FuncId}{c:Code}{st:bE}{r:GX×bE}:aE K fn c st=some r↔my (cC K) (fun rec=>rec fn c st) r:=by
 unfold aE;constructor
 ·intro h;split at h
  ·rename_i hx;cases h;exact Classical.choose_spec hx
  ·cases h
 ·intro h;have hx: ∃r,my (cC K) (fun rec=>rec fn c st) r:=⟨r,h⟩;rw [dif_pos hx];obtain⟨N1,h1⟩:=h;obtain⟨N2,h2⟩:=Classical.choose_spec hx;have e1:=h1 (max N1 N2) (by omega);have e2:=h2 (max N1 N2) (by omega);rw [←e2,←e1]
theorem dD (fn:FuncId)(c:Code)(st:bE):aE K fn c st=cr K (aE K) fn c st:=by
 refine Option.ext fun r=> ?_;constructor
 ·intro h;obtain⟨N,hN⟩:=(iD K).1 h;have h1:cr K (cC K N) fn c st=some r:=hN (N+1) (by omega);have hL:Ue (cC K N) (fun _=>aE K):=fun fn c st r h=>⟨0,fun _ _=>(iD K).2 (kI K N fn c st r h)⟩;obtain⟨M,h2⟩:=oP K hL h1;exact h2 M (Nat.le_refl _)
 ·intro h;obtain⟨N,hN⟩:=oP K (F:=cC K) (fun fn c st r h=>(iD K).1 h) h;refine(iD K).2 ⟨N+1,fun n hn=> ?_⟩;obtain⟨k,rfl⟩: ∃k,n=k+1:=⟨n-1,by omega⟩;exact hN k (by omega)
theorem wZ (hK:fE K):jv K.P (aE K):=fun fn c st e st' h=>by
 obtain⟨N,hN⟩:=(iD K).1 h;exact gY K hK N fn c st e st' (hN N (Nat.le_refl _))
end
end
section
def CP (K:Ctx)(fn:FuncId)(o:Oper):Bool:= !bN K fn o && !b7 o
def sR (K:Ctx)(fn:FuncId)(o:Oper):Bool:=bN K fn o && AX o
def CQ (K:Ctx)(fn:FuncId)(L:List (Nat×Nat))(all:List Oper)(pre:Array Nat):Bool:=
 all.zipIdx.all fun(oi,i)=>all.zipIdx.all fun(oq,q)=>
  decide (i≤q)||(pre.getD i 0).testBit q||
   ((!(CP K fn oi && CP K fn oq)) && (L.contains (i,q)||(!(CP K fn oi && sR K fn oq) && !(sR K fn oi && CP K fn oq))))
structure Rg where
 i:Nat
 o:Oper
 s:aS
 v:GV
 h:ae
section
variable (K:Ctx) (fn:FuncId)
def jz (nt:Nat):Option Tmp→Prop
 |none=>True
 |some d=>d<nt
def j5 {α:Type}(x:Option α)(k:α→Prop):Prop:= ∃r,x=some r∧k r
def mL (all:List Oper):List Oper→bE→(bE→Prop)→Prop
 | [],st,Q=>Q st
 |o::r,st,Q=>
  j5 (cR all st.s o) fun b=>
   if b=false then jz st.nt o.dst∧mL all r ⟨jh st.s o.dst jG,st.h,st.nt⟩ Q
   else j5 (cf K (aE K) fn o st.s st.h) fun x=>jz st.nt o.dst∧mL all r ⟨jh st.s o.dst x.1,x.2,st.nt⟩ Q
def gn (all:List Oper)(L:List (Nat×Nat)):Nat→List Oper→List Rg→List (Nat×ae)→ae→bE→(bE→Prop)→Prop
 |_,[],_,_,_,st,Q=>Q st
 |i,o::r,obl,old,hb,st,Q=>
  j5 (cR all st.s o) fun b=>
   if b=false then jz st.nt o.dst∧gn all L (i+1) r obl old hb ⟨jh st.s o.dst jG,st.h,st.nt⟩ Q
   else if bN K fn o=true then
    j5 (dw K fn o st.s hb) fun x=>jz st.nt o.dst∧(∀y∈old,y.1=i→y.2=hb∨sameAt K fn o st.s x.1 y.2=true)∧
     gn all L (i+1) r ((L.filter fun p=>p.2==i).map (fun p=>⟨p.1,o,st.s,x.1,hb⟩)++obl) old hb ⟨jh st.s o.dst x.1,st.h,st.nt⟩ Q
   else
    j5 (cf K (aE K) fn o st.s st.h) fun x=>jz st.nt o.dst∧
     if b7 o=true then gn all L (i+1) r obl old hb ⟨jh st.s o.dst x.1,x.2,st.nt⟩ Q
     else (∀y∈obl,y.i=i→x.2=y.h∨sameAt K fn y.o y.s y.v x.2=true)∧
      gn all L (i+1) r obl ((L.filter fun p=>p.2==i).map (fun p=>(p.1,hb))++old) x.2 ⟨jh st.s o.dst x.1,x.2,st.nt⟩ Q
theorem nY {st:bE}{d:Option Tmp}(v:GV)(h:jz st.nt d):st.put d v=some ⟨jh st.s d v,st.h,st.nt⟩:=by
 cases d with
 |none=>rfl
 |some d=>simp only [jz]at h;simp only [bE.put,h,if_true,jh]
theorem lT {all:List Oper}{Q:bE→Prop}: ∀{ops:List Oper} {st:bE},mL K fn all ops st Q→ ∃st',nb K (aE K) fn all ops st=some st'∧Q st'
 | [],st,h=>⟨st,rfl,h⟩
 |o::r,st,h=>by
  simp only [mL]at h;obtain⟨b,hw,h⟩:=h
  cases b with
  |false=>
   simp only [if_true]at h;obtain⟨st',g1,g2⟩:=lT h.2;exact⟨st',by simp only [nb,hw,nY _ h.1];exact g1,g2⟩
  |true=>
   simp only [Bool.true_eq_false,if_false]at h;obtain⟨⟨v,H⟩,hg,h1,h2⟩:=h;obtain⟨st',g1,g2⟩:=lT h2;exact⟨st',by simp only [nb,hw,hg,nY (st:=⟨st.s,H,st.nt⟩) v h1];exact g1,g2⟩
theorem tX {o:Oper}{s:aS}{v:GV}{H Hx:ae}(h:dw K fn o s H=some (v,Hx)):sameAt K fn o s v H=true:=by
 unfold sameAt;rw [h];simp
theorem u5 {all:List Oper}{L:List (Nat×Nat)}{pre:Array Nat}(hst:CQ K fn L all pre=true){Q:bE→Prop}: ∀(ops:List Oper) (i:Nat) (obl:List Rg) (old:List (Nat×ae)) (wl:List (Nat×ae)) (rl:List yv) (hb:ae) (st:bE),
  all.drop i=ops→
  (∀x∈wl,x.1<i∧(∃o,all[x.1]? =some o∧CP K fn o=true)∧ ∀j,(j,x.1)∈L→(j,x.2)∈old)→
  (∀q∈rl,q.i<i∧(∃o,all[q.i]? =some o∧sR K fn o=true)∧(∃h Hx,dw K fn q.o q.s h=some (q.v,Hx)∧ ∀j,(j,q.i)∈L→(⟨j,q.o,q.s,q.v,h⟩:Rg)∈obl))→
  gn K fn all L i ops obl old hb st Q→ ∃st',ff K (aE K) fn all pre i ops wl rl hb st=some st'∧Q st':=by
 intro ops
 induction ops with
 |nil=>intro i obl old wl rl hb st _ _ _ h;exact⟨st,rfl,h⟩
 |cons o r ih=>
  intro i obl old wl rl hb st hd hwl hrl h;have ho:all[i]? =some o:=by
   have:(all.drop i)[0]? =some o:=(by rw [hd];rfl);rw [List.getElem?_drop]at this;simpa using this
  have hd':all.drop (i+1)=r:=by
   have:(all.drop i).drop 1=r:=by rw [hd];rfl
   rwa [List.drop_drop]at this
  have hstat: ∀q oq,q<i→all[q]? =some oq→(pre.getD i 0).testBit q=true∨
    ((!(CP K fn o && CP K fn oq)) && (L.contains (i,q)||(!(CP K fn o && sR K fn oq) && !(sR K fn o && CP K fn oq))))=true:=by
   intro q oq hq hoq;have h1:=List.all_eq_true.1 hst _ (mem_zipIdx' ho);have h2:=List.all_eq_true.1 h1 _ (mem_zipIdx' hoq);simp only [Bool.or_eq_true,decide_eq_true_eq]at h2;rcases h2 with (h2|h2)|h2
   ·omega
   ·exact .inl h2
   ·exact .inr h2
  simp only [gn]at h;obtain⟨b,hw,h⟩:=h
  cases b with
  |false=>
   simp only [if_true]at h;obtain⟨h1,h2⟩:=h;obtain⟨st',g1,g2⟩:=ih (i+1) obl old wl rl hb _ hd' (fun x hx=>⟨by have:=(hwl x hx).1;omega,(hwl x hx).2⟩) (fun q hq=>⟨by have:=(hrl q hq).1;omega,(hrl q hq).2⟩) h2;exact⟨st',by simp only [ff,hw,nY _ h1];exact g1,g2⟩
  |true=>
   simp only [Bool.true_eq_false,if_false]at h;by_cases hp:bN K fn o=true
   ·rw [if_pos hp]at h;obtain⟨⟨v,Hx⟩,hg,h1,h2,h3⟩:=h;simp only at h2 h3;simp only [ff,hw,hp,if_true,hg,nY _ h1];have hold: ∀x∈wl,AX o=true→((pre.getD i 0).testBit x.1||sameAt K fn o st.s v x.2)=true:=by
     intro x hx hR;obtain⟨x1,⟨ox,x2,x3⟩,x4⟩:=hwl x hx;rcases hstat x.1 ox x1 x2 with h4|h4
     ·rw [h4];rfl
     ·have hrd:sR K fn o=true:=(by unfold sR;rw [hp,hR];rfl);rw [hrd,x3]at h4;simp only [Bool.and_true,Bool.true_and,Bool.not_true,Bool.and_false,Bool.or_false,Bool.and_eq_true]at h4;have hm:(i,x.1)∈L:=(by simpa using h4.2);rcases h2 _ (x4 i hm) rfl with h5|h5
      ·have:sameAt K fn o st.s v x.2=true:=(by rw [h5];exact tX K fn hg);rw [this];simp
      ·rw [h5];simp
    cases hR:AX o with
    |true=>
     have hall:(wl.all fun x=>(pre.getD i 0).testBit x.1||sameAt K fn o st.s v x.2)=true:=List.all_eq_true.2 fun x hx=>hold x hx hR;simp only [if_true,hall];refine ih (i+1) _ old wl _ hb _ hd' (fun x hx=>⟨by have:=(hwl x hx).1;omega,(hwl x hx).2⟩) (fun q hq=> ?_) h3;rcases List.mem_cons.1 hq with rfl|hq
     ·refine⟨by simp,⟨o,ho,by unfold sR;rw [hp,hR];rfl⟩,hb,Hx,hg,fun j hj=>List.mem_append_left _ (List.mem_map.2 ⟨(j,i),List.mem_filter.2 ⟨hj,by simp⟩,rfl⟩)⟩
     ·obtain⟨q1,q2,hh,Hy,q3,q4⟩:=hrl q hq;exact⟨by omega,q2,hh,Hy,q3,fun j hj=>List.mem_append_right _ (q4 j hj)⟩
    |false=>
     simp only [Bool.false_eq_true,if_false];refine ih (i+1) _ old wl rl hb _ hd' (fun x hx=>⟨by have:=(hwl x hx).1;omega,(hwl x hx).2⟩) (fun q hq=> ?_) h3;obtain⟨q1,q2,hh,Hy,q3,q4⟩:=hrl q hq;exact⟨by omega,q2,hh,Hy,q3,fun j hj=>List.mem_append_right _ (q4 j hj)⟩
   ·rw [if_neg hp]at h;obtain⟨⟨v,H⟩,hg,h1,h2⟩:=h;simp only at h2;have hp':bN K fn o=false:=(by simpa using hp);simp only [ff,hw,hp,if_false,hg,Bool.false_eq_true,nY (st:=⟨st.s,H,st.nt⟩) v h1];by_cases ha:b7 o=true
    ·rw [if_pos ha]at h2;simp only [ha,if_true];exact ih (i+1) obl old wl rl hb _ hd' (fun x hx=>⟨by have:=(hwl x hx).1;omega,(hwl x hx).2⟩) (fun q hq=>⟨by have:=(hrl q hq).1;omega,(hrl q hq).2⟩) h2
    ·rw [if_neg ha]at h2;have ha':b7 o=false:=(by simpa using ha);have hW:CP K fn o=true:=(by unfold CP;rw [hp',ha'];rfl);have hnR:sR K fn o=false:=(by unfold sR;rw [hp'];rfl);obtain⟨h3,h4⟩:=h2;have hwl2:(wl.all fun x=>(pre.getD i 0).testBit x.1)=true:=List.all_eq_true.2 fun x hx=>by
      obtain⟨x1,⟨ox,x2,x3⟩,x4⟩:=hwl x hx;rcases hstat x.1 ox x1 x2 with h4|h4
      ·exact h4
      ·rw [hW,x3]at h4;simp at h4
     have hrl2:(rl.all fun q=>(pre.getD i 0).testBit q.i||sameAt K fn q.o q.s q.v H)=true:=List.all_eq_true.2 fun q hq=>by
      obtain⟨q1,⟨oq,q2,q2'⟩,hh,Hy,q3,q4⟩:=hrl q hq;rcases hstat q.i oq q1 q2 with h4|h4
      ·rw [h4];rfl
      ·rw [hW,q2',hnR]at h4;simp only [Bool.and_true,Bool.true_and,Bool.not_true,Bool.false_and,Bool.or_false,Bool.and_eq_true]at h4;have hm:(i,q.i)∈L:=(by simpa using h4.2);rcases h3 _ (q4 i hm) rfl with h5|h5
       ·have:sameAt K fn q.o q.s q.v H=true:=by
         simp only at h5;rw [h5];exact tX K fn q3
        rw [this];simp
       ·simp only at h5;rw [h5];simp
     simp only [ha,hwl2,hrl2,Bool.and_self,if_true,if_false,Bool.false_eq_true];refine ih (i+1) obl _ _ rl H _ hd' (fun x hx=> ?_) (fun q hq=>⟨by have:=(hrl q hq).1;omega,(hrl q hq).2⟩) h4;rcases List.mem_cons.1 hx with rfl|hx
     ·exact⟨by simp,⟨o,ho,hW⟩,fun j hj=>List.mem_append_left _ (List.mem_map.2 ⟨(j,i),List.mem_filter.2 ⟨hj,by simp⟩,rfl⟩)⟩
     ·obtain⟨x1,x2,x3⟩:=hwl x hx;exact⟨by omega,x2,fun j hj=>List.mem_append_right _ (x3 j hj)⟩
end
def bD (K:Ctx)(N:FuncId→Nat→List (Nat×Nat))(fn:FuncId):Code→Bool
 | .region id ops true=>u0 K fn ops.toList (Region.before ops) && CQ K fn (N fn id) ops.toList (Region.before ops)
 | .seq a b=>bD K N fn a && bD K N fn b
 | .cond _ a b=>bD K N fn a && bD K N fn b
 | .block _ a=>bD K N fn a
 | .loop a=>bD K N fn a
 | .scope a=>bD K N fn a
 | .rangeFunc _ _ a b=>bD K N fn a && bD K N fn b
 |_=>true
section
variable (K:Ctx) (N:FuncId→Nat→List (Nat×Nat)) (fn:FuncId)
def WP (c:Code)(st:bE)(Q:GX→bE→Prop):Prop:=bD K N fn c=true→ ∃e st',aE K fn c st=some (e,st')∧Q e st'
def oQ (id:Nat)(Q:GX→bE→Prop)(e:GX)(st:bE):Prop:=match e with| .exit id'=>if id'=id then Q .normal st else Q (.exit id') st|e=>Q e st
theorem r9 (H:ae)(l0:Nat)(s:aS): ∀ks,bu (bV H l0 s) ks=bV H l0 (bu s ks)
 | []=>rfl
 |t::r=>by
  simp only [bu,bV,r9 H l0 s r];congr 2
  induction s with
  |nil=>rfl
  |cons x s ih=>
   obtain⟨d,v⟩:=x;simp only [bV,look];split
   ·rfl
   ·exact ih
def xb (W:aS→ae→Nat→Prop)(ks ks2:List Nat)(Q:GX→bE→Prop)(e:GX)(st:bE):Prop:=
 match st.h with
 |fr::H=>0<H.length∧(match e with
  | .normal=>W (bV (fr::H) (H.length-1) (bu st.s ks)) H st.nt
  |e=>Q e ⟨bV (fr::H) (H.length-1) (bu st.s ks2),H,st.nt⟩)
 | []=>False
def LX (b:Bool)(c:Code)(ks ks2:List Nat)(Q:GX→bE→Prop)(s:aS)(H:ae)(nt:Nat):Prop:=
 bD K N fn c=true→K.ir fn (aL c)=some (ks,ks2)→K.iu fn (aL c)=b→ ∃e st',(match aE K fn c ⟨s,[]::H,nt⟩with
  |some (.normal,st)=>(match tJ K fn c st with|some st=>aE K fn (.loop c) st|none=>none)
  |some (e,st)=>(match ku (some ks2) st with|some st=>some (e,st)|none=>none)
  |none=>none)=some (e,st')∧Q e st'
def jf (c:Code)(ks ks2:List Nat)(Q:GX→bE→Prop)(s:aS)(H:ae)(nt:Nat):Prop:=LX K N fn false c ks ks2 Q s H nt
def Rh (c:Code)(ks ks2:List Nat)(Q:GX→bE→Prop)(s:aS)(H:ae)(nt:Nat):Prop:=LX K N fn true c ks ks2 Q s H nt
def SW:GV→Option Bool
 | .pure (.bool b)=>some b
 |_=>none
def wp:Code→bE→(GX→bE→Prop)→Prop
 | .skip,st,Q=>Q .normal st
 | .label _,st,Q=>Q .normal st
 | .exit id,st,Q=>Q (.exit id) st
 | .ret,st,Q=>Q .ret st
 | .region _ ops false,st,Q=>mL K fn ops.toList ops.toList st (Q .normal)
 | .region id ops true,st,Q=>gn K fn ops.toList (N fn id) 0 ops.toList [] [] st.h st (Q .normal)
 | .seq a b,st,Q=>wp a st fun e st=>match e with| .normal=>wp b st Q|e=>Q e st
 | .cond c x y,st,Q=>j5 (SW (ev st.s c)) fun b=>if b=true then wp x st Q else wp y st Q
 | .block id c,st,Q=>wp c st (oQ id Q)
 | .loop c,st,Q=>j5 (K.ir fn (aL c)) fun a=>if K.iu fn (aL c)=true then Rh K N fn c a.1 a.2 Q (bu st.s a.1) st.h st.nt else jf K N fn c a.1 a.2 Q (bu st.s a.1) st.h st.nt
 | .rangeFunc f ps assign body,st,Q=>WP K N fn (.rangeFunc f ps assign body) st Q
 | .scope c,st,Q=>wp c st Q
 |_,_,_=>False
theorem eV: ∀(c:Code) {st:bE} {Q:GX→bE→Prop},wp K N fn c st Q→WP K N fn c st Q
 | .skip,st,Q,h=>fun _=>⟨_,_,by rw [dD];rfl,h⟩
 | .label _,st,Q,h=>fun _=>⟨_,_,by rw [dD];rfl,h⟩
 | .exit id,st,Q,h=>fun _=>⟨_,_,by rw [dD];rfl,h⟩
 | .ret,st,Q,h=>fun _=>⟨_,_,by rw [dD];rfl,h⟩
 | .region id ops false,st,Q,h=>fun _=>by
  obtain⟨st',h1,h2⟩:=lT K fn h;rw [dD];exact⟨_,_,by simp only [cr,h1],h2⟩
 | .region id ops true,st,Q,h=>fun hg=>by
  simp only [bD,Bool.and_eq_true]at hg;obtain⟨st',h1,h2⟩:=u5 K fn hg.2 _ 0 [] [] [] [] _ _ rfl (by simp) (by simp) h;rw [List.drop_zero]at h1;rw [dD];exact⟨_,_,by simp only [cr,hg.1,if_true,h1],h2⟩
 | .seq a b,st,Q,h=>fun hg=>by
  simp only [bD,Bool.and_eq_true]at hg;obtain⟨e,st1,h1,h2⟩:=eV a h hg.1;rw [dD];simp only [cr,h1]
  cases e with
  |normal=>
   obtain⟨e2,st2,h3,h4⟩:=eV b h2 hg.2;exact⟨e2,st2,h3,h4⟩
  |exit id=>exact⟨_,_,rfl,h2⟩
  |ret=>exact⟨_,_,rfl,h2⟩
 | .cond c x y,st,Q,h=>fun hg=>by
  simp only [bD,Bool.and_eq_true]at hg;obtain⟨b,h1,h2⟩:=h;have hc:ev st.s c= .pure (.bool b):=by
   unfold SW at h1;split at h1
   ·rename_i b' hb;rw [hb];cases h1;rfl
   ·cases h1
  rw [dD];simp only [cr,hc]
  cases b with
  |true=>
   simp only [if_true]at h2⊢;exact eV x h2 hg.1
  |false=>
   simp only [Bool.false_eq_true,if_false]at h2⊢;exact eV y h2 hg.2
 | .block id c,st,Q,h=>fun hg=>by
  obtain⟨e,st1,h1,h2⟩:=eV c h (by simpa only [bD]using hg);rw [dD];simp only [cr,h1]
  cases e with
  |exit id'=>
   simp only [oQ]at h2;split at h2
   ·rename_i he;exact⟨_,_,by simp only [he,if_true],h2⟩
   ·rename_i he;exact⟨_,_,by simp only [he,if_false],h2⟩
  |normal=>exact⟨_,_,rfl,h2⟩
  |ret=>exact⟨_,_,rfl,h2⟩
 | .loop c,st,Q,h=>fun hg=>by
  obtain⟨⟨ks,ks2⟩,ha,h⟩:=h;have h0:LX K N fn (K.iu fn (aL c)) c ks ks2 Q (bu st.s ks) st.h st.nt:=by
   cases hc:K.iu fn (aL c)with
   |true=>simp only [hc,if_true]at h;exact h
   |false=>simp only [hc,Bool.false_eq_true,if_false]at h;exact h
  obtain⟨e,st',h1,h2⟩:=h0 (by simpa only [bD]using hg) ha rfl;refine⟨e,st', ?_,h2⟩;rw [dD];simp only [cr,ha,Option.map_some,jQ];exact h1
 | .rangeFunc f ps assign body,st,Q,h=>h
 | .scope c,st,Q,h=>fun hg=>by
  obtain⟨e,st1,h1,h2⟩:=eV c h (by simpa only [bD]using hg);rw [dD];exact⟨e,st1,by simp only [cr,h1],h2⟩
 | .goto _,_,_,h=>h.elim
 | .refuse _,_,_,h=>h.elim
theorem aw {c:Code}{ks ks2:List Nat}{Q:GX→bE→Prop}{s:aS}{H:ae}{nt:Nat}(h:wp K N fn c ⟨s,[]::H,nt⟩ (xb (jf K N fn c ks ks2 Q) ks ks2 Q)):jf K N fn c ks ks2 Q s H nt:=fun hg ha hc=>by
 obtain⟨e,st1,h1,h2⟩:=eV K N fn c h hg;rw [h1];unfold xb at h2;split at h2
 ·rename_i fr H1 hh;obtain⟨h3,h4⟩:=h2;have hne: ¬H1.length=0:=by omega
  cases e with
  |normal=>
   simp only [tJ,hc,Bool.false_eq_true,ku,hh,hne,if_false,jQ];simp only at h4;obtain⟨e2,st2,g1,g2⟩:=h4 hg ha hc;refine⟨e2,st2, ?_,g2⟩;rw [dD];simp only [cr,ha,Option.map_some,jQ];rw [r9];exact g1
  |exit id=>
   simp only [ku,hh,hne,if_false,jQ];exact⟨_,_,rfl,h4⟩
  |ret=>
   simp only [ku,hh,hne,if_false,jQ];exact⟨_,_,rfl,h4⟩
 ·exact h2.elim
def u6 (f:FuncId)(g:Func)(c:Nat)(R:GV×ae→Prop)(e:GX)(st:bE):Prop:=
 (match e with| .exit _=>False|_=>True)∧j5 (dB K g st) fun rs=>j5 (fB K f c (mH rs) st.h) R
theorem aM {f:FuncId} {g:Func} {code:Code} {args:List GV} {c:Nat} {H:ae} {R:GV×ae→Prop} (hf:K.P.funcs[f]? =some g) (hb:g.body=some code)
  (hn:(g.name== "runtime.NumGoroutine")=false) (hgood:bD K N f code=true) (hl:args.length≤g.ntmps) (hH:0<H.length)
  (h:wp K N f code ⟨slotsOf 0 (args.map canon),[]::H,g.ntmps⟩ (u6 K f g c R)):j5 (bG K (aE K) f args c H) R:=by
 obtain⟨e,st,h1,h2,rs,h3,x,h4,h5⟩:=eV K N f code h hgood;refine⟨x, ?_,h5⟩;have hnt: ¬g.ntmps<args.length:=(by omega);have hH0: ¬H.length=0:=(by omega);simp only [bG,hf,hb,hn,hnt,hH0,decide_false,Bool.or_self,Bool.false_eq_true,if_false,h1]
 cases e with
 |exit id=>exact h2.elim
 |normal=>
  simp only [h3];rw [←h4];rcases rs with _|⟨r,_|⟨r2,l⟩⟩<;>rfl
 |ret=>
  simp only [h3];rw [←h4];rcases rs with _|⟨r,_|⟨r2,l⟩⟩<;>rfl
theorem pR {f:FuncId}{args:List GV}{c:Nat}{H:ae}{rec:Rec}(hc:K.vw f=false)(hb:K.vF f=false)(hz:br H args=(args,H)):aK K rec f args c H=bG K rec f args c H:=by
 unfold aK;rw [hc,hb,hz];simp
theorem A4 {f:FuncId}{args:List GV}{c:Nat}{H:ae}{rec:Rec}(hc:K.vw f=false)(hb:K.vF f=true):aK K rec f args c H=gL K rec f ((br H args).1.map canon) c H:=by
 unfold aK;rw [hc,hb];simp
theorem iM {f:FuncId} {args args':List GV} {c:Nat} {H:ae} {rec:Rec} {p:PV} (hc:K.vw f=false) (hb:K.vF f=true) (hz:(br H args).1.map canon=args') (hq:mS args'=some none) (hH:0<H.length)
  (h0: ∀H:ae,0<H.length→bG K rec f args' c H=some (.pure p,H)) (hf:iL p=true):aK K rec f args c H=some (.pure p,H):=by
 rw [A4 K hc hb,hz];unfold gL;rw [hq];simp only;rw [h0 _ (by simpa [m8]using hH)];simp only [mj,wJ,pJ,nW,hf,if_true,refs,ij,fy,dedup,mh]
theorem bw {f:FuncId} {g:Func} {code:Code} {args:List GV} {c:Nat} {H:ae} {R:GV×ae→Prop} (hf:K.P.funcs[f]? =some g) (hb:g.body=some code)
  (hn:(g.name== "runtime.NumGoroutine")=false) (hgood:bD K N f code=true) (hz:br H args=(args,H)) (hc:K.vw f=false) (hbo:K.vF f=false) (hl:args.length≤g.ntmps) (hH:0<H.length)
  (h:wp K N f code ⟨slotsOf 0 (args.map canon),[]::H,g.ntmps⟩ (u6 K f g c R)):j5 (aK K (aE K) f args c H) R:=by
 rw [pR K hc hbo hz];exact aM K N hf hb hn hgood hl hH h
theorem bJ {f:FuncId} {g:Func} {code:Code} {args:List GV} {c:Nat} {H:ae} {R:GV×ae→Prop} (hf:K.P.funcs[f]? =some g) (hb:g.body=some code)
  (hn:(g.name== "runtime.NumGoroutine")=false) (hgood:bD K N f code=true) (hz:K.BH f=false) (hc:K.vw f=false) (hbo:K.vF f=false) (hl:args.length≤g.ntmps) (hH:0<H.length)
  (h:wp K N f code ⟨slotsOf 0 (args.map canon),[]::H,g.ntmps⟩ (u6 K f g c R)):j5 (aK K (aE K) f args c H) R:=by
 have h0:=aM K N hf hb hn hgood hl hH h;unfold aK;rw [hz,hc,hbo];simpa using h0
end
end
section
section
variable {K:Ctx} {N:FuncId→Nat→List (Nat×Nat)} {fn:FuncId}
@[congr] theorem Uf {α:Type}{x y:Option α}{k:α→Prop}(h: ∀_:Unit,x=y):j5 x k=j5 y k:=by rw [h ()]
@[simp] theorem nF {α:Type}{x:α}{k:α→Prop}:j5 (some x) k=k x:=by
 unfold j5;simp
@[simp] theorem wp_skip {st:bE}{Q:GX→bE→Prop}:wp K N fn .skip st Q=Q .normal st:=by rw [wp]
@[simp] theorem wp_exit {id:Nat}{st:bE}{Q:GX→bE→Prop}:wp K N fn (.exit id) st Q=Q (.exit id) st:=by rw [wp]
@[simp] theorem wp_ret {st:bE}{Q:GX→bE→Prop}:wp K N fn .ret st Q=Q .ret st:=by rw [wp]
@[simp] theorem wp_region {id:Nat}{ops:Array Oper}{st:bE}{Q:GX→bE→Prop}:wp K N fn (.region id ops false) st Q=mL K fn ops.toList ops.toList st (Q .normal):=by rw [wp]
@[simp] theorem SY {id:Nat}{ops:Array Oper}{st:bE}{Q:GX→bE→Prop}:wp K N fn (.region id ops true) st Q=gn K fn ops.toList (N fn id) 0 ops.toList [] [] st.h st (Q .normal):=by rw [wp]
def GG (b:Code)(Q:GX→bE→Prop)(e:GX)(st:bE):Prop:=match e with| .normal=>wp K N fn b st Q|e=>Q e st
@[simp] theorem wp_seq {a b:Code}{st:bE}{Q:GX→bE→Prop}:wp K N fn (.seq a b) st Q=wp K N fn a st (GG (K:=K) (N:=N) (fn:=fn) b Q):=by rw [wp];rfl
@[simp] theorem Ja {b:Code}{Q:GX→bE→Prop}{st:bE}:GG (K:=K) (N:=N) (fn:=fn) b Q .normal st=wp K N fn b st Q:= .trans rfl rfl
@[simp] theorem OY {b:Code}{Q:GX→bE→Prop}{id:Nat}{st:bE}:GG (K:=K) (N:=N) (fn:=fn) b Q (.exit id) st=Q (.exit id) st:= .trans rfl rfl
@[simp] theorem Ri {b:Code}{Q:GX→bE→Prop}{st:bE}:GG (K:=K) (N:=N) (fn:=fn) b Q .ret st=Q .ret st:= .trans rfl rfl
@[simp] theorem wp_cond {c:Operand}{x y:Code}{st:bE}{Q:GX→bE→Prop}:wp K N fn (.cond c x y) st Q=j5 (SW (ev st.s c)) fun b=>if b=true then wp K N fn x st Q else wp K N fn y st Q:=by rw [wp]
@[simp] theorem Rj {b:Bool}:SW (.pure (.bool b))=some b:= .trans rfl rfl
@[simp] theorem wp_block {id:Nat}{c:Code}{st:bE}{Q:GX→bE→Prop}:wp K N fn (.block id c) st Q=wp K N fn c st (oQ id Q):=by rw [wp]
@[simp] theorem Ey {id:Nat}{Q:GX→bE→Prop}{st:bE}:oQ id Q .normal st=Q .normal st:= .trans rfl rfl
@[simp] theorem LY {id:Nat}{Q:GX→bE→Prop}{st:bE}:oQ id Q .ret st=Q .ret st:= .trans rfl rfl
@[simp] theorem Jb {id id':Nat}{Q:GX→bE→Prop}{st:bE}:oQ id Q (.exit id') st=if id'=id then Q .normal st else Q (.exit id') st:= .trans rfl rfl
@[simp] theorem wp_loop {c:Code}{st:bE}{Q:GX→bE→Prop}:wp K N fn (.loop c) st Q=j5 (K.ir fn (aL c)) fun a=>if K.iu fn (aL c)=true then Rh K N fn c a.1 a.2 Q (bu st.s a.1) st.h st.nt else jf K N fn c a.1 a.2 Q (bu st.s a.1) st.h st.nt:=by rw [wp]
@[simp] theorem GH {f:Operand}{ps:Array Tmp}{as b:Code}{st:bE}{Q:GX→bE→Prop}:wp K N fn (.rangeFunc f ps as b) st Q=WP K N fn (.rangeFunc f ps as b) st Q:=by rw [wp]
@[simp] theorem GI {W:aS→ae→Nat→Prop}{ks ks2:List Nat}{Q:GX→bE→Prop}{s:aS}{fr:Fr}{H:ae}{nt:Nat}:
  xb W ks ks2 Q .normal ⟨s,fr::H,nt⟩=(0<H.length∧W (bV (fr::H) (H.length-1) (bu s ks)) H nt):= .trans rfl rfl
@[simp] theorem LZ {W:aS→ae→Nat→Prop}{ks ks2:List Nat}{Q:GX→bE→Prop}{s:aS}{fr:Fr}{H:ae}{nt id:Nat}:
  xb W ks ks2 Q (.exit id) ⟨s,fr::H,nt⟩=(0<H.length∧Q (.exit id) ⟨bV (fr::H) (H.length-1) (bu s ks2),H,nt⟩):= .trans rfl rfl
@[simp] theorem OZ {W:aS→ae→Nat→Prop}{ks ks2:List Nat}{Q:GX→bE→Prop}{s:aS}{fr:Fr}{H:ae}{nt:Nat}:
  xb W ks ks2 Q .ret ⟨s,fr::H,nt⟩=(0<H.length∧Q .ret ⟨bV (fr::H) (H.length-1) (bu s ks2),H,nt⟩):= .trans rfl rfl
@[simp] theorem Jc {f:FuncId}{g:Func}{c:Nat}{R:GV×ae→Prop}{st:bE}:u6 K f g c R .normal st=j5 (dB K g st) fun rs=>j5 (fB K f c (mH rs) st.h) R:=by simp [u6]
@[simp] theorem Rk {f:FuncId}{g:Func}{c:Nat}{R:GV×ae→Prop}{st:bE}:u6 K f g c R .ret st=j5 (dB K g st) fun rs=>j5 (fB K f c (mH rs) st.h) R:=by simp [u6]
@[simp] theorem Ez {s:aS}:bu s []=[]:= .trans rfl rfl
@[simp] theorem CR {s:aS}{t:Nat}{r:List Nat}:bu s (t::r)=(t,look s t)::bu s r:= .trans rfl rfl
@[simp] theorem CU {H:ae}{l0:Nat}:bV H l0 []=[]:= .trans rfl rfl
@[simp] theorem BK {H:ae}{l0:Nat}{t:Nat}{v:GV}{r:aS}:bV H l0 ((t,v)::r)=(t,clean H l0 v)::bV H l0 r:= .trans rfl rfl
@[simp] theorem look_nil {t:Nat}:look [] t=aG:= .trans rfl rfl
@[simp] theorem L0 {d t:Nat}{v:GV}{s:aS}:look ((d,v)::s) t=if t=d then v else look s t:= .trans rfl rfl
@[simp] theorem Ug {s:aS}{t:Nat}:ev s (.tmp t)=look s t:= .trans rfl rfl
@[simp] theorem Rl {s:aS}{v:Value}:ev s (.const v)=ofConst v:= .trans rfl rfl
@[simp] theorem SZ {s:aS}{f:Nat}:ev s (.func f)= .pure (.fn f):= .trans rfl rfl
@[simp] theorem Jd {k:IntKind}{n:Int}:ofConst (.int k n)= .pure (.int k n):= .trans rfl rfl
@[simp] theorem GJ {b:Bool}:ofConst (.bool b)= .pure (.bool b):= .trans rfl rfl
@[simp] theorem GK:ofConst (.slice none 0 0)= .aO:= .trans rfl rfl
@[simp] theorem GL:ofConst .nilFunc= .pure .eg:= .trans rfl rfl
@[simp] theorem O0 {s:aS}{v:GV}:jh s none v=s:= .trans rfl rfl
@[simp] theorem O1 {s:aS}{d:Nat}{v:GV}:jh s (some d) v=(d,v)::s:= .trans rfl rfl
@[simp] theorem L4 {nt:Nat}:jz nt none=True:= .trans rfl rfl
@[simp] theorem L5 {nt d:Nat}:jz nt (some d)=(d<nt):= .trans rfl rfl
@[simp] theorem Je {i:Nat}:slotsOf i []=[]:= .trans rfl rfl
@[simp] theorem GM {i:Nat}{v:GV}{l:List GV}:slotsOf i (v::l)=(i,v)::slotsOf (i+1) l:= .trans rfl rfl
@[simp] theorem O2 {all:List Oper}{st:bE}{Q:bE→Prop}:mL K fn all [] st Q=Q st:= .trans rfl rfl
@[simp] theorem L6 {all:List Oper}{o:Oper}{r:List Oper}{st:bE}{Q:bE→Prop}:mL K fn all (o::r) st Q=j5 (cR all st.s o) fun b=>
      if b=false then jz st.nt o.dst∧mL K fn all r ⟨jh st.s o.dst jG,st.h,st.nt⟩ Q
      else j5 (cf K (aE K) fn o st.s st.h) fun x=>jz st.nt o.dst∧mL K fn all r ⟨jh st.s o.dst x.1,x.2,st.nt⟩ Q:= .trans rfl rfl
@[simp] theorem L7 {all:List Oper}{L:List (Nat×Nat)}{i:Nat}{obl:List Rg}{old:List (Nat×ae)}{hb:ae}{st:bE}{Q:bE→Prop}:gn K fn all L i [] obl old hb st Q=Q st:= .trans rfl rfl
@[simp] theorem Jf {all:List Oper}{L:List (Nat×Nat)}{i:Nat}{o:Oper}{r:List Oper}{obl:List Rg}{old:List (Nat×ae)}{hb:ae}{st:bE}{Q:bE→Prop}:
  gn K fn all L i (o::r) obl old hb st Q=j5 (cR all st.s o) fun b=>
   if b=false then jz st.nt o.dst∧gn K fn all L (i+1) r obl old hb ⟨jh st.s o.dst jG,st.h,st.nt⟩ Q
   else if bN K fn o=true then
    j5 (dw K fn o st.s hb) fun x=>jz st.nt o.dst∧(∀y∈old,y.1=i→y.2=hb∨sameAt K fn o st.s x.1 y.2=true)∧
     gn K fn all L (i+1) r ((L.filter fun p=>p.2==i).map (fun p=>⟨p.1,o,st.s,x.1,hb⟩)++obl) old hb ⟨jh st.s o.dst x.1,st.h,st.nt⟩ Q
   else
    j5 (cf K (aE K) fn o st.s st.h) fun x=>jz st.nt o.dst∧
     if b7 o=true then gn K fn all L (i+1) r obl old hb ⟨jh st.s o.dst x.1,x.2,st.nt⟩ Q
     else (∀y∈obl,y.i=i→x.2=y.h∨sameAt K fn y.o y.s y.v x.2=true)∧
      gn K fn all L (i+1) r obl ((L.filter fun p=>p.2==i).map (fun p=>(p.1,hb))++old) x.2 ⟨jh st.s o.dst x.1,x.2,st.nt⟩ Q:= .trans rfl rfl
def pS:List Oper→Nat→Option Nat
 | [],_=>none
 |o::r,j=>if j=0 then o.dst else pS r (j-1)
@[simp] theorem L8 {o:Oper}{r:List Oper}{j:Nat}:pS (o::r) j=if j=0 then o.dst else pS r (j-1):= .trans rfl rfl
def tY (s:aS)(want:Bool):Option Nat→Option Bool
 |none=>none
 |some d=>(match look s d with| .pure (.bool b)=>some (b==want)| .pure (.tuple [])=>some false|_=>none)
def CV (want:Bool):GV→Option Bool
 | .pure (.bool b)=>some (b==want)
 | .pure (.tuple [])=>some false
 |_=>none
@[simp] theorem L9 {want b:Bool}:CV want (.pure (.bool b))=some (b==want):= .trans rfl rfl
@[congr] theorem Rm {s:aS}{want:Bool}{x y:Option Nat}(h: ∀_:Unit,x=y):tY s want x=tY s want y:=by rw [h ()]
@[simp] theorem Ma {s:aS}{want:Bool}{d:Nat}:tY s want (some d)=CV want (look s d):=by
 unfold tY CV;rfl
theorem mM: ∀(l:List Oper) (j:Nat),pS l j=(l[j]?).bind (·.dst)
 | [],j=>by simp [pS]
 |o::r,0=>by simp [pS]
 |o::r,j+1=>by simp [pS,mM r j]
@[simp] theorem GN {all:List Oper}{s:aS}{dst:Option Tmp}{op:Op}{ty:TypeId}{pos:String}{af:Array Edge}:cR all s ⟨dst,op,ty,pos,af,none⟩=some true:= .trans rfl rfl
@[simp] theorem GO {all:List Oper}{s:aS}{dst:Option Tmp}{op:Op}{ty:TypeId}{pos:String}{af:Array Edge}{j:Nat}{want:Bool}:
  cR all s ⟨dst,op,ty,pos,af,some (j,want)⟩=tY s want (pS all j):=by
 rw [mM];unfold cR tY;simp only
 cases all[j]? with
 |none=>rfl
 |some oj=>
  simp only [Option.bind_some]
  cases oj.dst with
  |none=>rfl
  |some d=>rfl
variable {rec:Rec} {dst:Option Tmp} {ty:TypeId} {pos:String} {af:Array Edge} {gu:Option (Nat×Bool)} {s:aS} {H:ae}
def Jg (r:Option Nat)(H:ae)(b:GV)(z:GV×ae):Option (GV×ae):=match r with
 |none=>zy H b z
 |some key=>nX H b key z
def xc (x:Option Tmp)(r:Option Nat)(s:aS)(H:ae)(y:Option (GV×ae)):Option (GV×ae):=match x with
 |none=>y
 |some t=>(match y with|some z=>Jg r H (look s t) z|none=>none)
@[congr] theorem Rn {x x':Option Tmp}{r:Option Nat}{s:aS}{H:ae}{y y':Option (GV×ae)}(h: ∀_:Unit,x=x')(h': ∀_:Unit,y=y'):xc x r s H y=xc x' r s H y':=by rw [h (),h' ()]
@[simp] theorem Mb {r:Option Nat}{s:aS}{H:ae}{y:Option (GV×ae)}:xc none r s H y=y:= .trans rfl rfl
@[simp] theorem Mc {f:Operand}{args:Array Operand}{ats:Array TypeId}:cf K rec fn ⟨dst, .call ⟨.value f,args,ats⟩,ty,pos,af,gu⟩ s H=xc (K.lift fn (dst.getD 0)) (K.row fn (dst.getD 0)) s H (cV K rec (ev s f) (args.toList.map (ev s)) (dst.getD 0) H):=by
 unfold cf xc;simp only [eP]
 cases K.lift fn (dst.getD 0)with
 |none=>rfl
 |some t=>simp only [Jg];cases cV K rec (ev s f) (args.toList.map (ev s)) (dst.getD 0) H<;>rfl
@[simp] theorem qN {f:Nat}{args:List GV}{c:Nat}:cV K rec (.pure (.fn f)) args c H=aK K rec f args c H:= .trans rfl rfl
@[simp] theorem nu {f:Nat}{first cap args:List GV}{c:Nat}:cV K rec (.func f first cap) args c H=aK K rec f (first++args++cap) c H:= .trans rfl rfl
@[simp] theorem EB {nm:Nm}{args:List GV}{c:Nat}:cV K rec (.yield nm) args c H=ground rec nm args H:= .trans rfl rfl
end
end
section
section
variable {K:Ctx} {fn:FuncId} {rec:Rec} {dst:Option Tmp} {ty:TypeId} {pos:String} {af:Array Edge} {gu:Option (Nat×Bool)} {s:aS} {H:ae}
@[simp] theorem Md (x:Operand):cf K rec fn ⟨dst, .move x,ty,pos,af,gu⟩ s H=dw K fn ⟨dst, .move x,ty,pos,af,gu⟩ s H:= .trans rfl rfl
@[simp] theorem GP (x:Operand):cf K rec fn ⟨dst, .assign x,ty,pos,af,gu⟩ s H=dw K fn ⟨dst, .assign x,ty,pos,af,gu⟩ s H:= .trans rfl rfl
@[simp] theorem Me (c a b:Operand):cf K rec fn ⟨dst, .pick c a b,ty,pos,af,gu⟩ s H=dw K fn ⟨dst, .pick c a b,ty,pos,af,gu⟩ s H:= .trans rfl rfl
@[simp] theorem Jh (t:TypeId):cf K rec fn ⟨dst, .alloc t,ty,pos,af,gu⟩ s H=dw K fn ⟨dst, .alloc t,ty,pos,af,gu⟩ s H:= .trans rfl rfl
@[simp] theorem O3 (t:TypeId)(x:Operand):cf K rec fn ⟨dst, .box t x,ty,pos,af,gu⟩ s H=dw K fn ⟨dst, .box t x,ty,pos,af,gu⟩ s H:= .trans rfl rfl
@[simp] theorem Ji (t:TypeId)(ps:Array (Nat×Operand)):cf K rec fn ⟨dst, .build t ps,ty,pos,af,gu⟩ s H=dw K fn ⟨dst, .build t ps,ty,pos,af,gu⟩ s H:= .trans rfl rfl
@[simp] theorem A5 (t:TypeId)(n:Nat)(ps:Array (Nat×Operand)):cf K rec fn ⟨dst, .buildSlice t n ps,ty,pos,af,gu⟩ s H=dw K fn ⟨dst, .buildSlice t n ps,ty,pos,af,gu⟩ s H:= .trans rfl rfl
@[simp] theorem Mf (t:TypeId)(a:Operand):cf K rec fn ⟨dst, .load t a,ty,pos,af,gu⟩ s H=dw K fn ⟨dst, .load t a,ty,pos,af,gu⟩ s H:= .trans rfl rfl
@[simp] theorem Jj (t:TypeId)(a x:Operand):cf K rec fn ⟨dst, .store t a x,ty,pos,af,gu⟩ s H=dw K fn ⟨dst, .store t a x,ty,pos,af,gu⟩ s H:= .trans rfl rfl
@[simp] theorem Jk (op:BinOp)(t:TypeId)(x y:Operand)(d:TypeId):cf K rec fn ⟨dst, .binOp op t x y d,ty,pos,af,gu⟩ s H=dw K fn ⟨dst, .binOp op t x y d,ty,pos,af,gu⟩ s H:= .trans rfl rfl
@[simp] theorem Mg (op:UnOp)(t:TypeId)(x:Operand):cf K rec fn ⟨dst, .unOp op t x,ty,pos,af,gu⟩ s H=dw K fn ⟨dst, .unOp op t x,ty,pos,af,gu⟩ s H:= .trans rfl rfl
@[simp] theorem EC (a b:TypeId)(x:Operand):cf K rec fn ⟨dst, .convert a b x,ty,pos,af,gu⟩ s H=dw K fn ⟨dst, .convert a b x,ty,pos,af,gu⟩ s H:= .trans rfl rfl
@[simp] theorem CW (f:Fn)(a c:Array Operand):cf K rec fn ⟨dst, .makeFunc f a c,ty,pos,af,gu⟩ s H=dw K fn ⟨dst, .makeFunc f a c,ty,pos,af,gu⟩ s H:= .trans rfl rfl
@[simp] theorem ED (t:TypeId)(r:Option Operand):cf K rec fn ⟨dst, .makeMap t r,ty,pos,af,gu⟩ s H=dw K fn ⟨dst, .makeMap t r,ty,pos,af,gu⟩ s H:= .trans rfl rfl
@[simp] theorem Jl (t:TypeId)(x:Operand)(lo hi mx:Option Operand):cf K rec fn ⟨dst, .slice t x lo hi mx,ty,pos,af,gu⟩ s H=dw K fn ⟨dst, .slice t x lo hi mx,ty,pos,af,gu⟩ s H:= .trans rfl rfl
@[simp] theorem BL (t:TypeId)(x:Operand)(f:Nat):cf K rec fn ⟨dst, .fieldAddr t x f,ty,pos,af,gu⟩ s H=dw K fn ⟨dst, .fieldAddr t x f,ty,pos,af,gu⟩ s H:= .trans rfl rfl
@[simp] theorem BM (t:TypeId)(x i:Operand):cf K rec fn ⟨dst, .indexAddr t x i,ty,pos,af,gu⟩ s H=dw K fn ⟨dst, .indexAddr t x i,ty,pos,af,gu⟩ s H:= .trans rfl rfl
@[simp] theorem GQ (t:TypeId)(x k:Operand)(ok:Bool):cf K rec fn ⟨dst, .lookup t x k ok,ty,pos,af,gu⟩ s H=dw K fn ⟨dst, .lookup t x k ok,ty,pos,af,gu⟩ s H:= .trans rfl rfl
@[simp] theorem BN (t:TypeId)(m k v:Operand):cf K rec fn ⟨dst, .mapUpdate t m k v,ty,pos,af,gu⟩ s H=dw K fn ⟨dst, .mapUpdate t m k v,ty,pos,af,gu⟩ s H:= .trans rfl rfl
@[simp] theorem EE (t:Operand)(i:Nat):cf K rec fn ⟨dst, .extract t i,ty,pos,af,gu⟩ s H=dw K fn ⟨dst, .extract t i,ty,pos,af,gu⟩ s H:= .trans rfl rfl
@[simp] theorem EF (b:Builtin)(args:Array Operand)(ats:Array TypeId):cf K rec fn ⟨dst, .call ⟨.builtin b,args,ats⟩,ty,pos,af,gu⟩ s H=dw K fn ⟨dst, .call ⟨.builtin b,args,ats⟩,ty,pos,af,gu⟩ s H:= .trans rfl rfl
@[simp] theorem Jm (x:Operand):bN K fn ⟨dst, .move x,ty,pos,af,gu⟩=true:= .trans rfl rfl
@[simp] theorem EG (x:Operand):bN K fn ⟨dst, .assign x,ty,pos,af,gu⟩=true:= .trans rfl rfl
@[simp] theorem Jn (c a b:Operand):bN K fn ⟨dst, .pick c a b,ty,pos,af,gu⟩=true:= .trans rfl rfl
@[simp] theorem GR (t:TypeId):bN K fn ⟨dst, .alloc t,ty,pos,af,gu⟩=false:= .trans rfl rfl
@[simp] theorem GS (t:TypeId)(ps:Array (Nat×Operand)):bN K fn ⟨dst, .build t ps,ty,pos,af,gu⟩=true:= .trans rfl rfl
@[simp] theorem Jo (t:TypeId)(a:Operand):bN K fn ⟨dst, .load t a,ty,pos,af,gu⟩=true:= .trans rfl rfl
@[simp] theorem GU (t:TypeId)(a x:Operand):bN K fn ⟨dst, .store t a x,ty,pos,af,gu⟩=false:= .trans rfl rfl
@[simp] theorem GW (op:BinOp)(t:TypeId)(x y:Operand)(d:TypeId):bN K fn ⟨dst, .binOp op t x y d,ty,pos,af,gu⟩=true:= .trans rfl rfl
@[simp] theorem Jp (op:UnOp)(t:TypeId)(x:Operand):bN K fn ⟨dst, .unOp op t x,ty,pos,af,gu⟩=true:= .trans rfl rfl
@[simp] theorem GY (t:TypeId)(x:Operand)(lo hi mx:Option Operand):bN K fn ⟨dst, .slice t x lo hi mx,ty,pos,af,gu⟩=true:= .trans rfl rfl
@[simp] theorem A6 (t:TypeId)(x:Operand)(f:Nat):bN K fn ⟨dst, .fieldAddr t x f,ty,pos,af,gu⟩=true:= .trans rfl rfl
@[simp] theorem GZ (t:TypeId)(x:Operand)(f:Nat):bN K fn ⟨dst, .field t x f,ty,pos,af,gu⟩=true:= .trans rfl rfl
@[simp] theorem A7 (t:TypeId)(x i:Operand):bN K fn ⟨dst, .indexAddr t x i,ty,pos,af,gu⟩=true:= .trans rfl rfl
@[simp] theorem CX (t:Operand)(i:Nat):bN K fn ⟨dst, .extract t i,ty,pos,af,gu⟩=true:= .trans rfl rfl
@[simp] theorem zB (t:TypeId)(n:Nat)(ps:Array (Nat×Operand)):bN K fn ⟨dst, .buildSlice t n ps,ty,pos,af,gu⟩=(match dst with|some d=> !K.own fn d|none=>true):= .trans rfl rfl
@[simp] theorem Mh (args:Array Operand)(ats:Array TypeId):bN K fn ⟨dst, .call ⟨.builtin .len,args,ats⟩,ty,pos,af,gu⟩=true:= .trans rfl rfl
@[simp] theorem EH (args:Array Operand)(ats:Array TypeId):bN K fn ⟨dst, .call ⟨.builtin .append,args,ats⟩,ty,pos,af,gu⟩=false:= .trans rfl rfl
@[simp] theorem Jq (f:Operand)(args:Array Operand)(ats:Array TypeId):bN K fn ⟨dst, .call ⟨.value f,args,ats⟩,ty,pos,af,gu⟩=false:= .trans rfl rfl
@[simp] theorem EI (t:TypeId)(a x:Operand):b7 ⟨dst, .store t a x,ty,pos,af,gu⟩=false:=by cases dst<;>rfl
@[simp] theorem G4 (c:Call):b7 ⟨dst, .call c,ty,pos,af,gu⟩=false:=by cases dst<;>rfl
@[simp] theorem EJ {d:Nat}(t:TypeId):b7 ⟨some d, .alloc t,ty,pos,af,none⟩=true:= .trans rfl rfl
def rv (H:ae)(x:Option GV):Option (GV×ae):=match x with|some v=>some (v,H)|none=>none
@[congr] theorem UI {x y:Option GV}(h: ∀_:Unit,x=y):rv H x=rv H y:=by rw [h ()]
@[simp] theorem S5 {v:GV}:rv H (some v)=some (v,H):= .trans rfl rfl
def rp (H:ae)(x:Option PV):Option (GV×ae):=match x with|some v=>some (.pure v,H)|none=>none
@[congr] theorem UJ {x y:Option PV}(h: ∀_:Unit,x=y):rp H x=rp H y:=by rw [h ()]
@[simp] theorem S6 {v:PV}:rp H (some v)=some (.pure v,H):= .trans rfl rfl
def rh (x:Option ae):Option (GV×ae):=match x with|some H=>some (aG,H)|none=>none
@[simp] theorem S7:rh (some H)=some (aG,H):= .trans rfl rfl
def rn (x:Option (Nm×ae))(g:Nm→GV):Option (GV×ae):=match x with|some (nm,H)=>some (g nm,H)|none=>none
@[simp] theorem S8 {nm:Nm}{g:Nm→GV}:rn (some (nm,H)) g=some (g nm,H):= .trans rfl rfl
@[simp] theorem Ro {x:Operand}:dw K fn ⟨dst, .move x,ty,pos,af,gu⟩ s H=rv H (some (ev s x)):= .trans rfl rfl
@[simp] theorem Mi {x:Operand}:dw K fn ⟨dst, .assign x,ty,pos,af,gu⟩ s H=rv H (some (ev s x)):= .trans rfl rfl
def CY (c a b:GV):Option GV:=match c with| .pure (.bool t)=>some (if t then a else b)|_=>none
@[simp] theorem Mj {t:Bool}{a b:GV}:CY (.pure (.bool t)) a b=some (if t=true then a else b):= .trans rfl rfl
@[simp] theorem Rp {c a b:Operand}:dw K fn ⟨dst, .pick c a b,ty,pos,af,gu⟩ s H=rv H (CY (ev s c) (ev s a) (ev s b)):=by
 simp only [dw];unfold CY;generalize ev s c=g;cases g with
 |pure p=>cases p<;>rfl
 |_=>rfl
def sd (H:ae)(d:Nat)(x:Option (List GV)):Option (GV×ae):=match x with|some cs=>rn (fK H d (.box cs)) (fun nm=> .aA nm 0)|none=>none
@[simp] theorem Jr {d:Nat}{cs:List GV}:sd H d (some cs)=rn (fK H d (.box cs)) (fun nm=> .aA nm 0):= .trans rfl rfl
def qn (x:Option GV):Option (List GV):=match x with|some z=>bm z|none=>none
@[simp] theorem j7 {z:GV}:qn (some z)=bm z:= .trans rfl rfl
@[simp] theorem O4 {d:Nat}{t:TypeId}:dw K fn ⟨some d, .alloc t,ty,pos,af,gu⟩ s H=sd H d (qn (b8 K.P t)):=by
 simp only [dw]
 cases h:b8 K.P t with
 |none=>rfl
 |some z=>
  simp only [j7,sd]
  cases bm z with
  |none=>rfl
  |some cs=>
   simp only
   cases fK H d (.box cs)with
   |none=>rfl
   |some x=>rfl
@[simp] theorem S9 {d:Nat}{t:TypeId}{x:Operand}:dw K fn ⟨some d, .box t x,ty,pos,af,gu⟩ s H=sd H d (bm (ev s x)):=by
 simp only [dw,sd]
 cases bm (ev s x)with
 |none=>rfl
 |some cs=>
  simp only
  cases fK H d (.box cs)with
  |none=>rfl
  |some x=>rfl
@[simp] theorem O5 {fr:Fr}{d:Nat}{b:dW}:fK (fr::H) d b=if (fr.get d).isSome then none else some ((H.length,d),fr.ins d b::H):=by
 unfold fK hQ;simp only [List.length_cons,Nat.add_sub_cancel];rw [if_neg (by omega)];simp only [ae.get,ae.set,if_true];cases fr.get d<;>simp
@[simp] theorem Fr.get_nil {q:Nat}:Fr.get [] q=none:= .trans rfl rfl
@[simp] theorem Fr.cA {k q:Nat}{b:dW}{r:Fr}:Fr.get ((k,b)::r) q=if q=k then some b else Fr.get r q:= .trans rfl rfl
@[simp] theorem Fr.Ta {q:Nat}{x:dW}:Fr.ins q x []=[(q,x)]:= .trans rfl rfl
@[simp] theorem Fr.re {k q:Nat}{x b:dW}{r:Fr}:Fr.ins q x ((k,b)::r)=if q=k then (q,x)::r else if q<k then (q,x)::(k,b)::r else (k,b)::Fr.ins q x r:= .trans rfl rfl
@[simp] theorem ae.eF {fr:Fr}{nm:Nm}:ae.get (fr::H) nm=if nm.1=H.length then fr.get nm.2 else ae.get H nm:= .trans rfl rfl
@[simp] theorem ae.jX {fr:Fr}{nm:Nm}{b:dW}:ae.set (fr::H) nm b=if nm.1=H.length then fr.ins nm.2 b::H else fr::ae.set H nm b:= .trans rfl rfl
@[simp] theorem Mk {l:List GV}:bm (.agg l)=some l:= .trans rfl rfl
@[simp] theorem Js {l:List PV}:bm (.pure (.agg l))=some (l.map .pure):= .trans rfl rfl
@[simp] theorem Ml {k:IntKind}{n:Int}:bm (.pure (.int k n))=some [.pure (.int k n)]:= .trans rfl rfl
@[simp] theorem Jt {b:Bool}:bm (.pure (.bool b))=some [.pure (.bool b)]:= .trans rfl rfl
@[simp] theorem G5 {l:List (List PV)}:bm (.pure (.slice l))=some [.pure (.slice l)]:= .trans rfl rfl
@[simp] theorem O6 {f:Nat}:bm (.pure (.fn f))=some [.pure (.fn f)]:= .trans rfl rfl
@[simp] theorem Ju:bm (.pure .eg)=some [.pure .eg]:= .trans rfl rfl
@[simp] theorem Jv:bm .aO=some [.aO]:= .trans rfl rfl
@[simp] theorem Mm {nm:Nm}{es top lo len:Nat}:bm (.ay nm es top lo len)=some [.ay nm es top lo len]:= .trans rfl rfl
@[simp] theorem Jw {f:Nat}{a c:List GV}:bm (.func f a c)=some [.func f a c]:= .trans rfl rfl
@[simp] theorem G6 {nm:Nm}:bm (.yield nm)=some [.yield nm]:= .trans rfl rfl
@[simp] theorem Jx:bd []=some []:= .trans rfl rfl
@[simp] theorem uo {p:PV}{r:List GV}:bd (.pure p::r)=(bd r).map (p:: ·):=by
 simp only [bd];cases bd r<;>rfl
@[simp] theorem G7 (l:List PV):bd (l.map .pure)=some l:=lU l
@[simp] theorem Jy {l:List GV}{r:List GV}:bd (.agg l::r)=none:= .trans rfl rfl
@[simp] theorem Ha {r:List GV}:bd (.aO::r)=none:= .trans rfl rfl
@[simp] theorem Jz {nm:Nm}{es top lo len:Nat}{r:List GV}:bd (.ay nm es top lo len::r)=none:= .trans rfl rfl
def Rq (x:Option (List PV))(l:List GV):GV:=match x with|some ps=> .pure (.agg ps)|none=> .agg l
@[congr] theorem Uh {x y:Option (List PV)}{l:List GV}(h: ∀_:Unit,x=y):Rq x l=Rq y l:=by rw [h ()]
@[simp] theorem Rr {ps:List PV}{l:List GV}:Rq (some ps) l= .pure (.agg ps):= .trans rfl rfl
@[simp] theorem Rs {l:List GV}:Rq none l= .agg l:= .trans rfl rfl
@[simp] theorem Af {l:List GV}:cO l=Rq (bd l) l:= .trans rfl rfl
def Rt (x:Option (List PV))(l:List GV):GV:=match x with|some ps=> .pure (.tuple ps)|none=> .tuple l
@[congr] theorem Ui {x y:Option (List PV)}{l:List GV}(h: ∀_:Unit,x=y):Rt x l=Rt y l:=by rw [h ()]
@[simp] theorem Ru {ps:List PV}{l:List GV}:Rt (some ps) l= .pure (.tuple ps):= .trans rfl rfl
@[simp] theorem Rv {l:List GV}:Rt none l= .tuple l:= .trans rfl rfl
@[simp] theorem JA {l:List GV}:mkTuple l=Rt (bd l) l:= .trans rfl rfl
@[simp] theorem Rx {t:TypeId}{a:Operand}:dw K fn ⟨dst, .load t a,ty,pos,af,gu⟩ s H=rv H (ig K.P t H (ev s a)):= .trans rfl rfl
@[simp] theorem O7 {t:TypeId}{a x:Operand}:dw K fn ⟨dst, .store t a x,ty,pos,af,gu⟩ s H=rh (lP K.P t H (ev s a) (ev s x)):= .trans rfl rfl
def zC (ag:Option Bool)(sz:Option Nat)(off:Nat)(b:Option dW):Option GV:=
 match ag,sz,b with
 |some true,some size,some (.box cs)=>if off+size≤cs.length then some (cO ((cs.drop off).take size))else none
 |some false,some _,some (.box cs)=>cs[off]?
 |_,_,_=>none
@[simp] theorem O8 {sz off:Nat}{cs:List GV}:zC (some true) (some sz) off (some (.box cs))=if off+sz≤cs.length then some (cO ((cs.drop off).take sz))else none:= .trans rfl rfl
@[simp] theorem O9 {sz off:Nat}{cs:List GV}:zC (some false) (some sz) off (some (.box cs))=cs[off]? := .trans rfl rfl
@[simp] theorem Mn {P:Program}{t:TypeId}{nm:Nm}{off:Nat}:ig P t H (.aA nm off)=zC (dC P t) (aZ P t) off (H.get nm):=by
 unfold ig zC;generalize dC P t=x;generalize aZ P t=y;simp only;generalize ae.get H nm=z;rcases x with _|ag<;>rcases y with _|sz<;>rcases z with _|b<;>try rfl
 all_goals (cases ag<;>try rfl)
 all_goals (cases b<;>rfl)
def Tc (ag:Option Bool)(sz:Option Nat)(cs:List PV):Option GV:=
 match ag,sz with
 |some true,some size=>if size≤cs.length then some (.pure (.agg (cs.take size)))else none
 |some false,some _=>(match cs[0]? with|some p=>some (.pure p)|none=>none)
 |_,_=>none
@[simp] theorem Td {sz:Nat}{cs:List PV}:Tc (some true) (some sz) cs=if sz≤cs.length then some (.pure (.agg (cs.take sz)))else none:= .trans rfl rfl
@[simp] theorem Te {sz:Nat}{p:PV}{cs:List PV}:Tc (some false) (some sz) (p::cs)=some (.pure p):= .trans rfl rfl
@[simp] theorem Mo {P:Program}{t:TypeId}{cs:List PV}:ig P t H (.bF cs)=Tc (dC P t) (aZ P t) cs:=by
 unfold ig Tc;generalize dC P t=x;generalize aZ P t=y;rcases x with _|ag<;>rcases y with _|sz<;>try rfl
 all_goals (cases ag<;>rfl)
def Pa (ag:Option Bool)(sz:Option Nat)(es top i off:Nat)(b:Option dW):Option GV:=
  match ag,sz,b with
  |some ag,some size,some (.arr es' elems vf _)=>if es'=es∧vf≤top∧i<top∧top≤elems.length then
        (match elems[i]? with
        |some e=>if ag then (if off+size≤e.length then some (.pure (.agg ((e.drop off).take size)))else none)else (match e[off]? with|some p=>some (.pure p)|none=>none)
        |none=>none)
      else none
  |_,_,_=>none
def Ry (ag:Option Bool)(sz:Option Nat)(nm:Nm)(es top i off:Nat)(b:Option dW):Option GV:=
 match ag,sz,b with
 |some ag,some _,some (.nj es' rows n)=>if ag=false∧es=1∧off=0∧i<top∧top≤n then (match rows[i]? with|some r=>some (.eT nm es' i r.length)|none=>none)else none
 |ag,sz,b=>Pa ag sz es top i off b
@[congr] theorem Uj {ag:Option Bool}{sz:Option Nat}{nm:Nm}{es top i off:Nat}{b b':Option dW}(h: ∀_:Unit,b=b'):Ry ag sz nm es top i off b=Ry ag sz nm es top i off b':=by rw [h ()]
@[simp] theorem Tf {ag sz:Option _}{nm:Nm}{es top i off es' vf:Nat}{elems:List (List PV)}{ro:Bool}:Ry ag sz nm es top i off (some (.arr es' elems vf ro))=Pa ag sz es top i off (some (.arr es' elems vf ro)):=by
 cases ag<;>cases sz<;>rfl
@[simp] theorem Mp {P:Program}{t:TypeId}{nm:Nm}{es top i off:Nat}:ig P t H (.bZ nm es top i off)=Ry (dC P t) (aZ P t) nm es top i off (H.get nm):=by
 unfold ig Ry Pa;generalize dC P t=x;generalize aZ P t=y;simp only;generalize ae.get H nm=z;rcases x with _|ag<;>rcases y with _|sz<;>rcases z with _|b<;>try rfl
 all_goals (cases b<;>rfl)
@[simp] theorem Th {sz es top i off es' vf:Nat}{elems:List (List PV)}{ro:Bool}:Pa (some true) (some sz) es top i off (some (.arr es' elems vf ro))=if es'=es∧vf≤top∧i<top∧top≤elems.length then
        (match elems[i]? with
        |some e=>if off+sz≤e.length then some (.pure (.agg ((e.drop off).take sz)))else none
        |none=>none)
      else none:= .trans rfl rfl
@[simp] theorem Ti {sz es top i off es' vf:Nat}{elems:List (List PV)}{ro:Bool}:Pa (some false) (some sz) es top i off (some (.arr es' elems vf ro))=if es'=es∧vf≤top∧i<top∧top≤elems.length then
        (match elems[i]? with
        |some e=>(match e[off]? with|some p=>some (.pure p)|none=>none)
        |none=>none)
      else none:=by
  simp only [Pa];split<;>simp
def LK (k:IntKind)(a b:Int):Int:=k.wrap (BitVec.ofInt k.bits a &&& BitVec.ofInt k.bits b).toNat
def vF (k:IntKind)(a b:Int):Int:=k.wrap (BitVec.ofInt k.bits a|||BitVec.ofInt k.bits b).toNat
@[simp] theorem Mq {t:Nat}:m7 (.tmp t)=false:= .trans rfl rfl
@[simp] theorem Mr {k:IntKind}{n:Int}:m7 (.const (.int k n))=false:= .trans rfl rfl
@[simp] theorem Ms:m7 (.const (.slice none 0 0))=true:= .trans rfl rfl
theorem yA {op:BinOp}{t d:TypeId}{x y:Operand}:dw K fn ⟨dst, .binOp op t x y d,ty,pos,af,gu⟩ s H=rp H (zo K op t s x y):= .trans rfl rfl
@[simp] theorem Pb {op:BinOp}{t d:TypeId}{x y:Operand}:dw K fn ⟨dst, .binOp op t x y d,ty,pos,af,gu⟩ s H=rp H (if m7 y=true then fC K op t (ev s x)else eA K op t (ev s x) (ev s y)):=by
 rw [yA];rfl
section
variable {t:TypeId} {k:IntKind} {a b:Int}
@[simp] theorem Rz:eA K .add t (.pure (.int k a)) (.pure (.int k b))=some (.int k (k.wrap (a+b))):=by simp [eA,mw]
@[simp] theorem RA:eA K .sub t (.pure (.int k a)) (.pure (.int k b))=some (.int k (k.wrap (a-b))):=by simp [eA,mw]
@[simp] theorem RC:eA K .mul t (.pure (.int k a)) (.pure (.int k b))=some (.int k (k.wrap (a*b))):=by simp [eA,mw]
@[simp] theorem RD:eA K .quo t (.pure (.int k a)) (.pure (.int k b))=if b=0 then none else some (.int k (k.wrap (a.tdiv b))):=by simp [eA,mw]
@[simp] theorem RE:eA K .rem t (.pure (.int k a)) (.pure (.int k b))=if b=0 then none else some (.int k (a.tmod b)):=by simp [eA,mw]
@[simp] theorem RF:eA K .and t (.pure (.int k a)) (.pure (.int k b))=some (.int k (LK k a b)):=by simp [eA,mw,LK]
@[simp] theorem Tj:eA K .or t (.pure (.int k a)) (.pure (.int k b))=some (.int k (vF k a b)):=by simp [eA,mw,vF]
@[simp] theorem RG:eA K .eql t (.pure (.int k a)) (.pure (.int k b))=some (.bool (a==b)):=by simp [eA,mw]
@[simp] theorem RH:eA K .neq t (.pure (.int k a)) (.pure (.int k b))=some (.bool (a !=b)):=by simp [eA,mw]
@[simp] theorem RI:eA K .lss t (.pure (.int k a)) (.pure (.int k b))=some (.bool (decide (a<b))):=by simp [eA,mw]
@[simp] theorem RJ:eA K .leq t (.pure (.int k a)) (.pure (.int k b))=some (.bool (decide (a≤b))):=by simp [eA,mw]
@[simp] theorem RK:eA K .gtr t (.pure (.int k a)) (.pure (.int k b))=some (.bool (decide (b<a))):=by simp [eA,mw]
@[simp] theorem RM:eA K .geq t (.pure (.int k a)) (.pure (.int k b))=some (.bool (decide (b≤a))):=by simp [eA,mw]
@[simp] theorem RN {k':IntKind}:eA K .shr t (.pure (.int k a)) (.pure (.int k' b))=if b<0 then none else some (.int k (a.fdiv (2^(min b.toNat k.bits)))):=by simp [eA,uS]
end
def Pc (neg:Bool)(ks:Option (List SK))(a b:List PV):Option PV:=match ks with|some ks=>(match bK ks a b with|some q=>some (.bool (if neg then !q else q))|none=>none)|none=>none
@[simp] theorem Pd {t:TypeId}{a b:List PV}:eA K .eql t (.pure (.agg a)) (.pure (.agg b))=Pc false (K.eqs t) a b:=by
 simp only [eA,Pc];cases K.eqs t with
 |none=>rfl
 |some ks=>simp only;cases bK ks a b<;>rfl
@[simp] theorem Pe {t:TypeId}{a b:List PV}:eA K .neq t (.pure (.agg a)) (.pure (.agg b))=Pc true (K.eqs t) a b:=by
 simp only [eA,Pc];cases K.eqs t with
 |none=>rfl
 |some ks=>simp only;cases bK ks a b<;>rfl
@[simp] theorem RO {neg:Bool}{ks:List SK}{a b:List PV}:Pc neg (some ks) a b=(bK ks a b).map (fun q=> .bool (if neg then !q else q)):=by
 simp only [Pc];cases bK ks a b<;>rfl
@[simp] theorem Pf:bK [] [] []=some true:= .trans rfl rfl
@[simp] theorem Pg {k:IntKind}{ks:List SK}{x y:Int}{a b:List PV}:bK (.int k::ks) (.int k x::a) (.int k y::b)=(bK ks a b).map (x==y && ·):=by
 simp only [bK,and_self,if_true];cases bK ks a b<;>rfl
def Uk (op:UnOp)(x:GV):Option GV:=match op,x with
 | .not, .pure (.bool b)=>some (.pure (.bool (!b)))
 | .neg, .pure (.int k n)=>some (.pure (.int k (k.wrap (-n))))
 |_,_=>none
@[simp] theorem Tk {b:Bool}:Uk .not (.pure (.bool b))=some (.pure (.bool (!b))):= .trans rfl rfl
@[simp] theorem RP {op:UnOp}{t:TypeId}{x:Operand}:dw K fn ⟨dst, .unOp op t x,ty,pos,af,gu⟩ s H=rv H (Uk op (ev s x)):=by
 simp only [dw];unfold Uk;generalize ev s x=g;cases op<;>cases g<;>try rfl
 all_goals (rename_i p;cases p<;>rfl)
def Ul (a b:Option TypeDesc)(x:GV):Option GV:=match a,b,x with
 |some _,some (.int k), .pure (.int _ n)=>some (.pure (.int k (k.wrap n)))
 |some _,some .string, .pure (.str l)=>some (.pure (.str l))
 |_,_,_=>none
@[simp] theorem Tl {d:TypeDesc}{k k':IntKind}{n:Int}:Ul (some d) (some (.int k)) (.pure (.int k' n))=some (.pure (.int k (k.wrap n))):= .trans rfl rfl
@[simp] theorem JB {a b:TypeId}{x:Operand}:dw K fn ⟨dst, .convert a b x,ty,pos,af,gu⟩ s H=rv H (Ul (K.P.underlying a) (K.P.underlying b) (ev s x)):=by
 simp only [dw];unfold Ul;generalize ev s x=g;generalize K.P.underlying a=x1;generalize K.P.underlying b=x2;rcases x1 with _|d1<;>rcases x2 with _|d2<;>try rfl
 cases d2<;>cases g<;>try rfl
 all_goals (rename_i p;cases p<;>rfl)
@[simp] theorem JC {q:Nat}{nm:Nm}{o:Nat}:fb q (.aA nm o)=some (.aA nm (o+q)):= .trans rfl rfl
@[simp] theorem JD {q:Nat}{nm:Nm}{es top i o:Nat}:fb q (.bZ nm es top i o)=some (.bZ nm es top i (o+q)):= .trans rfl rfl
@[simp] theorem JE {q:Nat}{cs:List PV}:fb q (.bF cs)=if q≤cs.length then some (.bF (cs.drop q))else none:= .trans rfl rfl
def Um (f:Option (Nat×Option Nat))(x:GV):Option GV:=match f with|some (off,some size)=>if size=0 then none else fb off x|_=>none
@[simp] theorem RQ {off size:Nat}{x:GV}:Um (some (off,some size)) x=if size=0 then none else fb off x:= .trans rfl rfl
def mC (P:Program)(t:TypeId)(f:Nat):Option (Nat×Option Nat):=(jH P t f).map fun x=>(x.1,aZ P x.2)
def SI (P:Program)(t:TypeId)(f:Nat):Option (Nat×Option Bool×Option Nat):=(jH P t f).map fun x=>(x.1,dC P x.2,aZ P x.2)
@[simp] theorem EK {t:TypeId}{x:Operand}{f:Nat}:dw K fn ⟨dst, .fieldAddr t x f,ty,pos,af,gu⟩ s H=rv H (Um (mC K.P t f) (ev s x)):=by
 simp only [dw,Um,mC]
 cases jH K.P t f with
 |none=>rfl
 |some p=>
  obtain⟨off,ft⟩:=p;simp only [Option.map_some]
  cases aZ K.P ft with
  |none=>rfl
  |some size=>
   simp only;split
   ·rfl
   ·cases fb off (ev s x)<;>rfl
def Tm (f:Option (Nat×Option Bool×Option Nat))(x:GV):Option GV:=match f,x with
 |some (off,some ag,some size), .agg cs=>if off+size≤cs.length then (if ag then some (cO ((cs.drop off).take size))else cs[off]?)else none
 |some (off,some ag,some size), .pure (.agg cs)=>if off+size≤cs.length then (if ag then some (.pure (.agg ((cs.drop off).take size)))else (match cs[off]? with|some v=>some (.pure v)|none=>none))else none
 |_,_=>none
@[simp] theorem RR {off size:Nat}{cs:List PV}:Tm (some (off,some false,some size)) (.pure (.agg cs))=if off+size≤cs.length then (match cs[off]? with|some v=>some (.pure v)|none=>none)else none:=by simp [Tm]
@[simp] theorem Ph {t:TypeId}{x:Operand}{f:Nat}:dw K fn ⟨dst, .field t x f,ty,pos,af,gu⟩ s H=rv H (Tm (SI K.P t f) (ev s x)):=by
 simp only [dw,SI]
 cases jH K.P t f with
 |none=>rfl
 |some p=>
  obtain⟨off,ft⟩:=p;simp only [Option.map_some];unfold Tm
  cases dC K.P ft with
  |none=>rfl
  |some ag=>
   cases aZ K.P ft with
   |none=>rfl
   |some size=>
    cases ev s x with
    |pure p=>
     cases p with
     |agg cs=>
      simp only;split
      ·cases ag
       ·simp only [Bool.false_eq_true,if_false];cases cs[off]? <;>rfl
       ·rfl
      ·rfl
     |_=>rfl
    |agg cs=>
     simp only;split
     ·cases ag
      ·simp only [Bool.false_eq_true,if_false];cases cs[off]? <;>rfl
      ·rfl
     ·rfl
    |_=>rfl
def dY (P:Program)(t:TypeId):Option (Nat×Option Nat×Option Bool):=(qe P t).map fun x=>(x.1,aZ P x.2,dC P x.2)
def dZ (P:Program)(t:TypeId):Option (Option Nat):=(cU P t).map fun e=>aZ P e
def Tn (es:Option (Option Nat))(x:GV)(i:Int):Option GV:=match es with
  |some (some size)=>(match x with
          | .ay nm es top lo len=>if es=size∧i<len then some (.bZ nm es top (lo+i.toNat) 0)else none
          | .pure (.slice l)=>(match l[i.toNat]? with|some cs=>if cs.length=size then some (.bF cs)else none|none=>none)
          | .lits l=>(match l[i.toNat]? with|some cs=>if cs.length=size then some (.fO cs)else none|none=>none)
          | .eT nm es q len=>if es=size∧i<len then some (.fZ nm es q i.toNat 0)else none
          |_=>none)
  |_=>none
def Pj (ar:Option (Nat×Option Nat×Option Bool))(es:Option (Option Nat))(x i:GV):Option GV:=match i with
 | .pure (.int _ i)=>if i<0 then none else
  (match ar with
  |some (n,some size,_)=>if (n:Int)≤i then none else fb (i.toNat*size) x
  |some (_,none,_)=>none
  |none=>Tn es x i)
 |_=>none
@[simp] theorem Tp {n size:Nat}{ag:Option Bool}{es:Option (Option Nat)}{x:GV}{k:IntKind}{i:Int}:Pj (some (n,some size,ag)) es x (.pure (.int k i))=if i<0 then none else if (n:Int)≤i then none else fb (i.toNat*size) x:= .trans rfl rfl
@[simp] theorem Pk {es:Option (Option Nat)}{x:GV}{k:IntKind}{i:Int}:Pj none es x (.pure (.int k i))=if i<0 then none else Tn es x i:= .trans rfl rfl
@[simp] theorem Tq {size:Nat}{nm:Nm}{es top lo len:Nat}{i:Int}:Tn (some (some size)) (.ay nm es top lo len) i=if es=size∧i<len then some (.bZ nm es top (lo+i.toNat) 0)else none:= .trans rfl rfl
@[simp] theorem RS {size:Nat}{l:List (List PV)}{i:Int}:Tn (some (some size)) (.pure (.slice l)) i=(match l[i.toNat]? with|some cs=>if cs.length=size then some (.bF cs)else none|none=>none):= .trans rfl rfl
@[simp] theorem EL {t:TypeId}{x i:Operand}:dw K fn ⟨dst, .indexAddr t x i,ty,pos,af,gu⟩ s H=rv H (Pj (dY K.P t) (dZ K.P t) (ev s x) (ev s i)):=by
 have h:iZ K t (ev s x) (ev s i)=Pj (dY K.P t) (dZ K.P t) (ev s x) (ev s i):=by
  unfold iZ Pj dY dZ;generalize ev s i=g;generalize ev s x=gx
  cases g with
  |pure p=>
   cases p with
   |int k n=>
    simp only;split
    ·rfl
    ·cases qe K.P t with
     |some p=>
      obtain⟨n,e⟩:=p;simp only [Option.map_some];cases aZ K.P e<;>rfl
     |none=>
      simp only [Option.map_none]
      cases cU K.P t with
      |none=>rfl
      |some e=>
       simp only [Option.map_some];cases aZ K.P e<;>rfl
   |_=>rfl
  |_=>rfl
 simp only [dw,h];cases Pj (dY K.P t) (dZ K.P t) (ev s x) (ev s i)<;>rfl
def Tr (ar:Option (Option Nat))(pl:Option (List (Nat×Nat)))(z:Option (List GV))(ps:List (Nat×GV)):Option GV:=
 match z with
 |some zs=>
  (match (match ar with
   |some (some size)=>db (fun i=>some (i*size,size)) zs ps
   |some none=>none
   |none=>(match pl with|some l=>db (fun i=>l[i]?) zs ps|none=>none))with
  |some cs=>some (cO cs)
  |none=>none)
 |none=>none
def Un (x:Option (List GV)):Option GV:=match x with|some cs=>some (cO cs)|none=>none
@[simp] theorem RT {cs:List GV}:Un (some cs)=some (cO cs):= .trans rfl rfl
@[simp] theorem Ts {size:Nat}{pl:Option (List (Nat×Nat))}{zs:List GV}{ps:List (Nat×GV)}:Tr (some (some size)) pl (some zs) ps=Un (db (fun i=>some (i*size,size)) zs ps):= .trans rfl rfl
@[simp] theorem Mt {l:List (Nat×Nat)}{zs:List GV}{ps:List (Nat×GV)}:Tr none (some l) (some zs) ps=Un (db (fun i=>l[i]?) zs ps):= .trans rfl rfl
@[simp] theorem Pl {t:TypeId}{ps:Array (Nat×Operand)}:dw K fn ⟨dst, .build t ps,ty,pos,af,gu⟩ s H=rv H (Tr ((dY K.P t).map (·.2.1)) (eI K.P t) (qn (b8 K.P t)) (ps.toList.map (qo s))):=by
 simp only [dw,Tr,dY]
 cases b8 K.P t with
 |none=>rfl
 |some z=>
  simp only [j7]
  cases bm z with
  |none=>rfl
  |some zs=>
   simp only
   cases qe K.P t with
   |some p=>
    obtain⟨n,e⟩:=p;simp only [Option.map_some]
    cases aZ K.P e with
    |none=>rfl
    |some size=>
     simp only;cases db (fun i=>some (i*size,size)) zs (ps.toList.map (qo s))<;>rfl
   |none=>
    simp only [Option.map_none]
    cases eI K.P t with
    |none=>rfl
    |some l=>
     simp only;cases db (fun i=>l[i]?) zs (ps.toList.map (qo s))<;>rfl
@[simp] theorem Tt {x:Nat×Operand}:qo s x=(x.1,ev s x.2):= .trans rfl rfl
@[simp] theorem Pm {place:Nat→Option (Nat×Nat)}{cells:List GV}:db place cells []=some cells:= .trans rfl rfl
def u7 (place:Nat→Option (Nat×Nat))(cells:List GV)(rest:List (Nat×GV))(p:Option (Nat×Nat))(vs:Option (List GV)):Option (List GV):=
 match p,vs with
 |some (off,size),some vs=>if vs.length≠size∨off+vs.length>cells.length then none else db place (aD cells off vs) rest
 |_,_=>none
@[congr] theorem Pn {place:Nat→Option (Nat×Nat)}{cells:List GV}{rest:List (Nat×GV)}{p p':Option (Nat×Nat)}{vs vs':Option (List GV)}(h: ∀_:Unit,p=p')(h': ∀_:Unit,vs=vs'):u7 place cells rest p vs=u7 place cells rest p' vs':=by rw [h (),h' ()]
@[simp] theorem JF {place:Nat→Option (Nat×Nat)}{cells:List GV}{rest:List (Nat×GV)}{off size:Nat}{vs:List GV}:u7 place cells rest (some (off,size)) (some vs)=
  if vs.length≠size∨off+vs.length>cells.length then none else db place (aD cells off vs) rest:= .trans rfl rfl
@[simp] theorem Mv {place:Nat→Option (Nat×Nat)}{cells:List GV}{i:Nat}{v:GV}{rest:List (Nat×GV)}:db place cells ((i,v)::rest)=u7 place cells rest (place i) (bm v):=by
 simp only [db]
 cases place i with
 |none=>rfl
 |some p=>obtain⟨off,size⟩:=p;cases bm v<;>rfl
@[simp] theorem Mw {α:Type}{l xs:List α}{off:Nat}:aD l off xs=l.take off++xs++l.drop (off+xs.length):= .trans rfl rfl
def CZ (size off:Nat)(cells':List GV×ae)(nm:Nm):Option ae:=match cells'.2.get nm with
 |some (.box cs)=>if off+size≤cs.length then some (cells'.2.set nm (.box (aD cs off cells'.1)))else none
 |_=>none
def RU (size off:Nat)(cs':List GV)(H:ae)(nm:Nm)(b:Option dW):Option ae:=match b with
 |some (.box cs)=>if off+size≤cs.length then some (H.set nm (.box (aD cs off cs')))else none
 |_=>none
@[congr] theorem Uo {size off:Nat}{cs':List GV}{nm:Nm}{b b':Option dW}(h: ∀_:Unit,b=b'):RU size off cs' H nm b=RU size off cs' H nm b':=by rw [h ()]
@[simp] theorem Tu {size off:Nat}{cs' cs:List GV}{nm:Nm}:RU size off cs' H nm (some (.box cs))=if off+size≤cs.length then some (H.set nm (.box (aD cs off cs')))else none:= .trans rfl rfl
@[simp] theorem Po {size off:Nat}{cs':List GV}{nm:Nm}:CZ size off (cs',H) nm=RU size off cs' H nm (H.get nm):=by
 unfold CZ RU;rfl
def Mx (sz:Option Nat)(cells:Option (List GV))(k:Nat→List GV→Option ae):Option ae:=match sz,cells with|some size,some cells=>if cells.length≠size then none else k size cells|_,_=>none
@[congr] theorem Uq {sz sz':Option Nat}{cells cells':Option (List GV)}{k:Nat→List GV→Option ae}(h: ∀_:Unit,sz=sz')(h': ∀_:Unit,cells=cells'):Mx sz cells k=Mx sz' cells' k:=by rw [h (),h' ()]
@[simp] theorem RV {size:Nat}{cells:List GV}{k:Nat→List GV→Option ae}:Mx (some size) (some cells) k=if cells.length≠size then none else k size cells:= .trans rfl rfl
@[simp] theorem JG {P:Program}{t:TypeId}{nm:Nm}{off:Nat}{v:GV}:lP P t H (.aA nm off) v=Mx (aZ P t) (bm v) fun size cells=>CZ size off (cK H nm.1 cells) nm:=by
 unfold lP Mx
 cases aZ P t with
 |none=>rfl
 |some size=>
  cases bm v with
  |none=>rfl
  |some cells=>rfl
def C0 (size es top i off:Nat)(ps:List PV×ae)(nm:Nm):Option ae:=match ps.2.get nm with
  |some (.arr es' elems _ ro)=>if es'=es∧ro=false∧top=elems.length∧i<top then
          (match elems[i]? with
          |some e=>if off+size≤e.length then some (ps.2.set nm (.arr es' (elems.set i (aD e off ps.1)) elems.length false))else none
          |none=>none)
        else none
  |_=>none
@[simp] theorem JH {P:Program}{t:TypeId}{nm:Nm}{es top i off:Nat}{v:GV}:lP P t H (.bZ nm es top i off) v=Mx (aZ P t) (bm v) fun size cells=>C0 size es top i off (bp H cells) nm:=by
 unfold lP Mx
 cases aZ P t with
 |none=>rfl
 |some size=>
  cases bm v with
  |none=>rfl
  |some cells=>rfl
def RX (size es top i off:Nat)(ps:List PV)(H:ae)(nm:Nm)(b:Option dW):Option ae:=match b with
  |some (.arr es' elems _ ro)=>if es'=es∧ro=false∧top=elems.length∧i<top then
          (match elems[i]? with
          |some e=>if off+size≤e.length then some (H.set nm (.arr es' (elems.set i (aD e off ps)) elems.length false))else none
          |none=>none)
        else none
  |_=>none
@[congr] theorem Ur {size es top i off:Nat}{ps:List PV}{nm:Nm}{b b':Option dW}(h: ∀_:Unit,b=b'):RX size es top i off ps H nm b=RX size es top i off ps H nm b':=by rw [h ()]
@[simp] theorem Tv {size es top i off es' vf:Nat}{ps:List PV}{nm:Nm}{elems:List (List PV)}{ro:Bool}:RX size es top i off ps H nm (some (.arr es' elems vf ro))=if es'=es∧ro=false∧top=elems.length∧i<top then
          (match elems[i]? with
          |some e=>if off+size≤e.length then some (H.set nm (.arr es' (elems.set i (aD e off ps)) elems.length false))else none
          |none=>none)
        else none:= .trans rfl rfl
@[simp] theorem Pp {size es top i off:Nat}{ps:List PV}{nm:Nm}:C0 size es top i off (ps,H) nm=RX size es top i off ps H nm (H.get nm):=by
 unfold C0 RX;rfl
@[simp] theorem C4 {l0:Nat}:cK H l0 []=([],H):= .trans rfl rfl
def Tw (l0:Nat)(r:List GV)(x:GV×ae):List GV×ae:=(x.1::(cK x.2 l0 r).1,(cK x.2 l0 r).2)
@[congr] theorem Us {l0:Nat}{r:List GV}{x y:GV×ae}(h: ∀_:Unit,x=y):Tw l0 r x=Tw l0 r y:=by rw [h ()]
@[simp] theorem RY {l0:Nat}{r:List GV}{g:GV}:Tw l0 r (g,H)=(g::(cK H l0 r).1,(cK H l0 r).2):= .trans rfl rfl
@[simp] theorem BO {l0:Nat}{g:GV}{r:List GV}:cK H l0 (g::r)=Tw l0 r (dx H l0 g):= .trans rfl rfl
@[simp] theorem C5 {l0:Nat}{p:PV}:dx H l0 (.pure p)=(.pure p,H):= .trans rfl rfl
@[simp] theorem C6 {l0:Nat}:dx H l0 .aO=(.aO,H):= .trans rfl rfl
@[simp] theorem C7 {l0:Nat}{f:Nat}{a c:List GV}:dx H l0 (.func f a c)=(if cT l0 a && cT l0 c then .func f a c else aG,H):= .trans rfl rfl
@[simp] theorem EM {l0:Nat}{nm:Nm}{es top lo len:Nat}:dx H l0 (.ay nm es top lo len)=if nm.1≤l0 then (.ay nm es top lo len,H)else (.pure (df H (.ay nm es top lo len)).1,(df H (.ay nm es top lo len)).2):= .trans rfl rfl
@[simp] theorem EN:bp H []=([],H):= .trans rfl rfl
def Tx (r:List GV)(x:PV×ae):List PV×ae:=(x.1::(bp x.2 r).1,(bp x.2 r).2)
@[congr] theorem Ut {r:List GV}{x y:PV×ae}(h: ∀_:Unit,x=y):Tx r x=Tx r y:=by rw [h ()]
@[simp] theorem RZ {r:List GV}{g:PV}:Tx r (g,H)=(g::(bp H r).1,(bp H r).2):= .trans rfl rfl
@[simp] theorem C8 {g:GV}{r:List GV}:bp H (g::r)=Tx r (df H g):= .trans rfl rfl
@[simp] theorem EO {p:PV}:df H (.pure p)=(p,H):= .trans rfl rfl
def xd (es top lo len:Nat)(H:ae)(nm:Nm)(b:Option dW):PV×ae:=match b with
  |some (.arr es' elems vf _)=>if es'=es∧vf≤top∧lo+len≤top∧top≤elems.length then (.slice ((elems.drop lo).take len),H.set nm (.arr es' elems vf true))else (.dead,H)
  |_=>(.dead,H)
@[congr] theorem R4 {es top lo len:Nat}{nm:Nm}{b b':Option dW}(h: ∀_:Unit,b=b'):xd es top lo len H nm b=xd es top lo len H nm b':=by rw [h ()]
@[simp] theorem Pq {es top lo len es' vf:Nat}{nm:Nm}{elems:List (List PV)}{ro:Bool}:xd es top lo len H nm (some (.arr es' elems vf ro))=
  if es'=es∧vf≤top∧lo+len≤top∧top≤elems.length then (.slice ((elems.drop lo).take len),H.set nm (.arr es' elems vf true))else (.dead,H):= .trans rfl rfl
@[simp] theorem Hb {nm:Nm}{es top lo len:Nat}:df H (.ay nm es top lo len)=xd es top lo len H nm (H.get nm):=by
 rw [jY];unfold xd
 cases H.get nm with
 |none=>rfl
 |some b=>cases b<;>rfl
@[simp] theorem Ty {x:Operand}{t:TypeId}:dw K fn ⟨dst, .call ⟨.builtin .len,#[x],#[t]⟩,ty,pos,af,gu⟩ s H=rp H ((ya K t H (ev s x)).map (.int .i64)):=by
 show (match ya K t H (ev s x)with|some n=>some (GV.pure (.int .i64 n),H)|none=>none)=_
 cases ya K t H (ev s x)<;>rfl
def My (d:Option TypeDesc)(H:ae)(x:GV):Option Int:=
 match d,x with
 |some (.array n _),_=>some n
 |some (.slice _), .ay _ _ _ _ len=>some len
 |some (.slice _), .eT _ _ _ len=>some len
 |some (.slice _), .aO=>some 0
 |some (.slice _), .lits l=>some l.length
 |some (.slice _), .pure (.slice l)=>some l.length
 |some .string, .pure (.str l)=>some l.length
 |some (.map _ _), .pure .lR=>some 0
 |some (.map _ _), .map nm=>(match H.get nm with|some (.map es)=>some es.length|_=>none)
 |_,_=>none
@[simp] theorem R5 {t:TypeId}{x:GV}:ya K t H x=My (K.P.underlying t) H x:= .trans rfl rfl
@[simp] theorem R6 {e:TypeId}{nm:Nm}{es top lo len:Nat}:My (some (.slice e)) H (.ay nm es top lo len)=some (len:Int):= .trans rfl rfl
@[simp] theorem Pr {e:TypeId}{l:List (List PV)}:My (some (.slice e)) H (.pure (.slice l))=some (l.length:Int):= .trans rfl rfl
@[simp] theorem JI {t:Operand}{i:Nat}:dw K fn ⟨dst, .extract t i,ty,pos,af,gu⟩ s H=rv H (match ev s t with| .tuple l=>l[i]? | .pure (.tuple l)=>(match l[i]? with|some v=>some (.pure v)|none=>none)|_=>none):=by
 simp only [dw]
 cases ev s t with
 |tuple l=>simp only;cases l[i]? <;>rfl
 |pure p=>
  cases p with
  |tuple l=>simp only;cases l[i]? <;>rfl
  |_=>rfl
 |_=>rfl
@[simp] theorem Ps {r:GV}:mH [r]=r:= .trans rfl rfl
@[simp] theorem Pt:mH []= .pure (.tuple []):= .trans rfl rfl
@[simp] theorem Pu {a b:GV}{l:List GV}:mH (a::b::l)=mkTuple (a::b::l):= .trans rfl rfl
@[simp] theorem JJ {p:PV}:cZ H (.pure p)=(.pure p,H):= .trans rfl rfl
@[simp] theorem Mz {p:PV}:canon (.pure p)= .pure p:= .trans rfl rfl
@[simp] theorem MA {nm:Nm}{o:Nat}:canon (.aA nm o)= .aA nm o:= .trans rfl rfl
@[simp] theorem JK {nm:Nm}:canon (.yield nm)= .yield nm:= .trans rfl rfl
@[simp] theorem MB:canon .aO= .pure (.slice []):= .trans rfl rfl
@[simp] theorem Pv {nm:Nm}{es top lo len:Nat}:canon (.ay nm es top lo len)= .ay nm es top lo len:= .trans rfl rfl
@[simp] theorem Ah {l:List GV}:canon (.agg l)=cO (l.map cb):= .trans rfl rfl
@[simp] theorem JL {p:PV}:cb (.pure p)= .pure p:= .trans rfl rfl
@[simp] theorem JM:cb .aO= .pure (.slice []):= .trans rfl rfl
@[simp] theorem MC {nm:Nm}{es top lo len:Nat}:cb (.ay nm es top lo len)= .ay nm es top lo len:= .trans rfl rfl
@[simp] theorem JN {l:List GV}:canon (.tuple l)=mkTuple (l.map fun g=>match g with| .agg l=>cO (l.map cb)|g=>cb g):= .trans rfl rfl
@[simp] theorem MD {l0:Nat}{p:PV}:clean H l0 (.pure p)= .pure p:= .trans rfl rfl
@[simp] theorem MG {l0:Nat}:clean H l0 .aO= .aO:= .trans rfl rfl
@[simp] theorem MH {l0:Nat}{nm:Nm}{o:Nat}:clean H l0 (.aA nm o)=if nm.1≤l0 then .aA nm o else aG:= .trans rfl rfl
@[simp] theorem Pw {l0:Nat}{nm:Nm}:clean H l0 (.map nm)=if nm.1≤l0 then .map nm else aG:= .trans rfl rfl
@[simp] theorem Px {l0:Nat}{nm:Nm}{es top lo len:Nat}:clean H l0 (.ay nm es top lo len)=if nm.1≤l0 then .ay nm es top lo len else .pure (fG H nm es top lo len):= .trans rfl rfl
def Uu (f:Nat)(a:List GV)(x:Option (List GV)):GV:=match x with|some c=> .func f a c|none=>aG
@[simp] theorem MI {l0:Nat}{f:Nat}{a c:List GV}:clean H l0 (.func f a c)=if cT l0 a && cT l0 c then .func f a c else if cT l0 a then Uu f a (mE H l0 c)else aG:= .trans rfl rfl
@[simp] theorem MJ {l0:Nat}{cs:List PV}:clean H l0 (.bF cs)= .bF cs:= .trans rfl rfl
@[simp] theorem Aw {l0:Nat}{l:List GV}:clean H l0 (.agg l)=cO (l.map (cH H l0)):= .trans rfl rfl
@[simp] theorem JO {l0:Nat}{l:List GV}:clean H l0 (.tuple l)=mkTuple (l.map (fN H l0)):= .trans rfl rfl
@[simp] theorem MK {l0:Nat}{l:List GV}:fN H l0 (.agg l)=cO (l.map (cH H l0)):= .trans rfl rfl
@[simp] theorem JP {l0:Nat}{p:PV}:fN H l0 (.pure p)= .pure p:= .trans rfl rfl
@[simp] theorem JQ {l0:Nat}:fN H l0 .aO= .aO:= .trans rfl rfl
@[simp] theorem wc {l0:Nat}{p:PV}:cH H l0 (.pure p)= .pure p:= .trans rfl rfl
@[simp] theorem Hc {l0:Nat}:cH H l0 .aO= .aO:= .trans rfl rfl
@[simp] theorem MM {l0:Nat}{nm:Nm}{es top lo len:Nat}:cH H l0 (.ay nm es top lo len)=if nm.1≤l0 then .ay nm es top lo len else .pure (fG H nm es top lo len):= .trans rfl rfl
def PL (es top lo len:Nat)(b:Option dW):PV:=match b with
 |some (.arr es' elems vf _)=>if es'=es∧vf≤top∧lo+len≤top∧top≤elems.length then .slice ((elems.drop lo).take len)else .dead
 |_=> .dead
@[simp] theorem Tz {es top lo len es' vf:Nat}{elems:List (List PV)}{ro:Bool}:PL es top lo len (some (.arr es' elems vf ro))=if es'=es∧vf≤top∧lo+len≤top∧top≤elems.length then .slice ((elems.drop lo).take len)else .dead:= .trans rfl rfl
@[simp] theorem o7 {nm:Nm}{es top lo len:Nat}:gI H nm es top lo len=PL es top lo len (H.get nm):=by
 unfold gI PL
 cases H.get nm with
 |none=>rfl
 |some b=>cases b<;>rfl
def Uv (es top lo len:Nat)(b:Option dW):PV:=match b with
 |some (.nj _ rows n)=>if es=1∧lo+len≤top∧top≤n then .slice (((rows.drop lo).take len).map fun r=> [.slice r])else .dead
 |b=>PL es top lo len b
@[simp] theorem TA {es top lo len es' vf:Nat}{elems:List (List PV)}{ro:Bool}:Uv es top lo len (some (.arr es' elems vf ro))=if es'=es∧vf≤top∧lo+len≤top∧top≤elems.length then .slice ((elems.drop lo).take len)else .dead:= .trans rfl rfl
@[simp] theorem Hd {nm:Nm}{es top lo len:Nat}:fG H nm es top lo len=Uv es top lo len (H.get nm):=by
 unfold fG;rw [o7];unfold Uv
 cases H.get nm with
 |none=>rfl
 |some b=>cases b<;>rfl
@[simp] theorem Py {l0:Nat}:cT l0 []=true:= .trans rfl rfl
@[simp] theorem MO {l0:Nat}{nm:Nm}{o:Nat}{r:List GV}:cT l0 (.aA nm o::r)=(decide (nm.1≤l0) && cT l0 r):= .trans rfl rfl
theorem ah {f:Nat}{c:Nat}{r:GV}{fr:Fr}(h:K.B0 f=false):fB K f c r (fr::H)=some (canon (clean (fr::H) (H.length-1) r),H):=by
 unfold fB;simp [h]
end
end
end Go.Gh
